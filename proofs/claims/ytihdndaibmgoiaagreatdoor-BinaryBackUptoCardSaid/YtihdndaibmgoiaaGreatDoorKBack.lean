/-
  KBack: a part of the proofs of this seat, merged by a program; remarks are struck.
-/
import Derived.Test.YtihdndaibmgoiaaGreatDoorRows
import Derived.Deep.DeepHandedRow
import Derived.ProofKit
import Derived.OpenShut
import Derived.ChangeMaps5
import Derived.Carry
import Derived.SliceStrings
import Derived.Test.YtihdndaibmgoiaaGreatDoorCards
import Derived.Test.YtihdndaibmgoiaaGreatDoorTie
import Derived.Lay
import Derived.Stop.LaidErr
import Derived.Lib.LaidTab
import Derived.Lib.LaidU8T
import Derived.MakeChecks
import Derived.Shelf.Vars
import Derived.Test.YtihdndaibmgoiaaGreatDoorKBb
namespace Go.Proofs.YtihdndaibmgoiaaGreatDoor.Pz
open Go.RowKit
def IntsAt (w:World) (v:Value) (l:List Int):Prop:=∃ a cap,v=.slice a l.length cap∧l.length≤cap∧∀ i (h:i<l.length),∃ p:Addr,a=some p∧p.block<w.heap.size∧w.cell? (p.add i)=some (.int .i64 l[i])
theorem IntsAt.below {w w':World} {v:Value} {l:List Int} (h:IntsAt w v l) (hb:Below w.heap.size w w'):IntsAt w' v l:=by
 obtain ⟨a,cap,rfl,hc,h⟩:=h
 refine ⟨a,cap,rfl,hc,fun i hi=>?_⟩
 obtain ⟨p,h1,h2,h3⟩:=h i hi
 have:=hb.size
 exact ⟨p,h1,by omega,by rw [hb.cell (p:=p.add i) (by rw [add_block];exact h2)];exact h3⟩
end Go.Proofs.YtihdndaibmgoiaaGreatDoor.Pz
namespace Go.Proofs.YtihdndaibmgoiaaGreatDoor.Opn
open Go.ChangeMaps Go.ChangeShapes Go.WideShapes Go.ChangeAt Go.RowKit
section
variable {P:Program} {H:Type} {enc:TypeId×Value→H} {W:World}
theorem getD_data (ss:List ByteArray) (n i:Nat) (h:i<((ss.take n).map (fun x:ByteArray=>x.data.toList)).length):(.string (ss.getD i ByteArray.empty):Value)=.string ⟨(((ss.take n).map (fun x:ByteArray=>x.data.toList))[i]).toArray⟩:=by
 simp only [List.length_map,List.length_take] at h
 have h1:i<ss.length:=by omega
 rw [List.getElem_map,List.getElem_take,List.getD_eq_getElem?_getD,List.getElem?_eq_getElem h1]
 cases ss[i]
 simp
theorem bulk_strs (ss:List ByteArray):Rows.uptoBulkAll (strs (H:=H) ss)=Pz.sumT (ss.map (·.data.toList))+ss.length:=by
 induction ss with
 | nil=>rfl
 | cons a ss ih=>
  show a.data.toList.length+1+Rows.uptoBulkAll (strs (H:=H) ss)=a.data.toList.length+Pz.sumT (ss.map (·.data.toList))+(ss.length+1)
  rw [ih]
  omega
theorem blk_lt {a:Addr} {n:Nat} {v:Value} (hlt:∀ x∈MemPlace.row a n,x.block<W.heap.size) (h0:0<n) (hc:W.cell? (a.add 0)=some v):a.block<W.heap.size:=by
 obtain ⟨b,off,spot⟩:=a
 have hspot:spot=none:=by simpa [Addr.add] using World.cell?_spot hc
 subst hspot
 exact hlt (.cell b off) (MemPlace.mem_row.2 ⟨0,h0,by simp⟩)
theorem opened_strs {t e:TypeId} (ht:P.underlying t=some (.slice e)) (he:P.underlying e=some .string) (hce:P.cellsOf e=1) {r:Reach} {b0:Nat} {v:Value} {d:DataW H} {p:List MemPlace} (hv:Value.okWide P W r b0 t v) (h:DataW.Trod enc P W 0 (fun _=>true) true t v d p) (hlt:∀ x∈p,x.block<W.heap.size) :
  ∃ l,Pz.StrsAt W v l∧Pz.sumT l+l.length≤Rows.uptoBulk d∧l.length≤maxLen:=by
 obtain ⟨a1,n1,c1,rfl⟩:=okWide_slice ht hv
 obtain ⟨fuel,hf⟩:=h
 rcases open_strings ht he hce hf with ⟨hcs,hx⟩ | ⟨a,len',cap',ss,hcs,_,hl,hm,hz,hx,hcell,hws⟩
 ·simp [Value.cells] at hcs
  obtain ⟨rfl,rfl,rfl⟩:=hcs
  exact ⟨[],⟨none,0,rfl,Nat.le_refl _,fun i hi=>absurd hi (Nat.not_lt_zero _)⟩,(by simp [Pz.sumT]),(by simp)⟩
 ·simp [Value.cells] at hcs
  obtain ⟨rfl,rfl,rfl⟩:=hcs
  simp only [Prod.mk.injEq] at hx
  obtain ⟨rfl,rfl⟩:=hx
  simp only [if_true] at hz
  have hln:((ss.take n1).map (·.data.toList)).length=n1:=by rw [List.length_map,List.length_take];omega
  refine ⟨(ss.take n1).map (·.data.toList),⟨some a,c1,by rw [hln],by rw [hln];exact hl,fun i hi=>⟨a,rfl,?_,?_⟩⟩,?_,by rw [hln];omega⟩
  ·rw [hln] at hi
   exact blk_lt hlt (by omega) (hcell 0 (by omega))
  ·rw [hcell i (by rw [hln] at hi;omega),getD_data ss n1 i hi]
  ·simp only [Rows.uptoBulk]
   rw [bulk_strs,bulk_strs,List.length_map]
   omega
end
end Go.Proofs.YtihdndaibmgoiaaGreatDoor.Opn
namespace Go.Proofs.YtihdndaibmgoiaaGreatDoor.Opn
open Go.ChangeMaps Go.ChangeShapes Go.WideShapes Go.ChangeAt Go.RowKit
section
variable {P:Program} {H:Type} {enc:TypeId×Value→H} {W:World}
theorem opened_nil {t e:TypeId} (ht:P.underlying t=some (.slice e)) (he:P.underlying e=some .string) (hce:P.cellsOf e=1) {r:Reach} {b0:Nat} {v:Value} {d:DataW H} {p:List MemPlace} (hv:Value.okWide P W r b0 t v) (h:DataW.Trod enc P W 0 (fun _=>true) true t v d p) :
  ∀ n c,v=.slice none n c→c=0:=by
 obtain ⟨a1,n1,c1,rfl⟩:=okWide_slice ht hv
 obtain ⟨fuel,hf⟩:=h
 rcases open_strings ht he hce hf with ⟨hcs,_⟩ | ⟨a,len',cap',ss,hcs,_⟩
 ·simp [Value.cells] at hcs
  obtain ⟨rfl,rfl,rfl⟩:=hcs
  intro n c e
  simp only [Value.slice.injEq,true_and] at e
  exact e.2.symm
 ·simp [Value.cells] at hcs
  obtain ⟨rfl,rfl,rfl⟩:=hcs
  intro n c e
  simp at e
end
end Go.Proofs.YtihdndaibmgoiaaGreatDoor.Opn
namespace Go.Proofs.YtihdndaibmgoiaaGreatDoor.binaryBack
open Go.ChangeMaps Go.ChangeShapes Go.WideShapes Go.ChangeAt Go.RowKit
theorem own:ownKnob Tryz.prog.godebug=none:=by kernel_rfl
section
variable {H:Type} {enc:TypeId×Value→H}
theorem post_rows {f:Func} {s:ChangeSpec} {W W':World} {args:Array Value} {v:Value} {ds gs:List (DataW H)} {before pa:List MemPlace}
  (hW:DataW.Whole enc Tryz.prog f.params.toList s.vars false W args.toList ds gs before)
  (hres:∀ (b:Nat) (sp:Nat→Bool) (hd:Bool),DataW.TrodAll enc Tryz.prog W' b sp hd f.resultTypes.toList (v.resultList f.resultTypes.size) (s.fn H (ds++gs)).results [])
  (hargs:DataW.TrodAll enc Tryz.prog W' 0 (fun b=>decide (b<W.heap.size)) true f.params.toList args.toList (s.fn H (ds++gs)).args pa)
  (hvars:∀ sp:Nat→Bool,DataW.TrodVars enc Tryz.prog W' sp s.vars (s.fn H (ds++gs)).vars []) (hb:Below W.heap.size W W') :
  s.post enc Tryz.prog f false true false false W args v W':=
 ⟨ds,gs,before,[],pa,[],hW,hres _ _ _,hargs,hvars _,hb.frame _,fun h=>by cases h⟩
theorem laidOut:laidOutB Tryz.prog=true:=by kernel_rfl
end
theorem tab_of {W:World} (hl:laidMetH Tryz.prog Rows.binaryBackUptoRow.laid W):Pz.Tab W:=by
 rw [MakeChecks.laidMetH_plain _ _ _ (by kernel_rfl)] at hl
 have h3:=hl.tail.tail
 have e:(Rows.laid_internal_strconv_uint64pow10:DataW Unit)=Lib.tabData .u64 Lib.pow10Tab:=by kernel_rfl
 have h4:laidMet Tryz.prog (("internal/strconv.uint64pow10",Lib.tabData .u64 Lib.pow10Tab)::[("unicode/utf8.acceptRanges",Rows.laid_unicode_utf8_acceptRanges),("strconv.ErrRange",Rows.laid_strconv_ErrRange),("strconv.ErrSyntax",Rows.laid_strconv_ErrSyntax),("unicode/utf8.first",Rows.laid_unicode_utf8_first)]) W:=by
  rw [← e];exact h3
 exact Lib.tabIs_of_head (g:=4) (t:=195) (e:=44) (n:=20) (by kernel_rfl) (by kernel_rfl) (by kernel_rfl) (by kernel_rfl) (by kernel_rfl) (by kernel_rfl) h4
theorem contract (H:Type) (enc:TypeId×Value→H) (W:World) (base:Nat) (args:Array Value) (ds gs:List (DataW H)) (before:List MemPlace)
  (hval:∀ (j:Nat) t v,Tryz.f3.params[j]? = some t→args[j]? = some v→Value.okWide Tryz.prog W .any base t v)
  (hW:DataW.Whole enc Tryz.prog Tryz.f3.params.toList Rows.binaryBackSpec.vars false W args.toList ds gs before) (hk:Rows.uptoSmall H (ds++gs)=true) (hl:laidMetH Tryz.prog Rows.binaryBackUptoRow.laid W) :
  Calls Tryz.prog 3 args W fun e W'=>∃ v,e=.returned v∧Rows.binaryBackSpec.post enc Tryz.prog Tryz.f3 false true false false W args v W':=by
 have hW':=hW
 obtain ⟨p,q,hA0,hV,rfl,hfz,hnd⟩:=hW
 have hA:DataW.TrodAll enc Tryz.prog W 0 (fun _=>true) true Tryz.f3.params.toList args.toList ds p:=hA0
 rw [Tryz.params3] at hA hval
 obtain ⟨v0,vs0,d0,ds0,p0,q0,hargs,rfl,rfl,h0,r0⟩:=trodAll_cons hA
 obtain ⟨v1,vs1,d1,ds1,p1,q1,rfl,rfl,rfl,h1,r1⟩:=trodAll_cons r0
 obtain ⟨v2,vs2,d2,ds2,p2,q2,rfl,rfl,rfl,h2,r2⟩:=trodAll_cons r1
 obtain ⟨v3,vs3,d3,ds3,p3,q3,rfl,rfl,rfl,h3,r3⟩:=trodAll_cons r2
 obtain ⟨rfl,rfl,rfl⟩:=trodAll_nil r3
 obtain rfl:args=#[v0,v1,v2,v3]:=by cases args;simp_all
 obtain ⟨rfl,rfl⟩:=trodVars_none hV
 obtain ⟨s0,rfl,rfl,rfl,m0⟩:=open_int Tryz.underlying5 (by with_reducible exact hval 0 5 v0 (by simp) (by simp)) h0
 obtain ⟨y0,rfl⟩:=Pz.byte_of_wf m0
 obtain ⟨s2,rfl,rfl,rfl,m2⟩:=open_string Tryz.underlying9 (by with_reducible exact hval 2 9 v2 (by simp) (by simp)) h2
 obtain ⟨s3,rfl,rfl,rfl,m3⟩:=open_string Tryz.underlying9 (by with_reducible exact hval 3 9 v3 (by simp) (by simp)) h3
 clear hA0
 simp only [List.append_nil,List.nil_append] at hW' hk
 have hlt1:∀ x∈p1,x.block<W.heap.size:=fun x hx=>by simpa using hW'.lt x (by simp [hx])
 obtain ⟨l1,hl1,hb1,hn1⟩:=Opn.opened_strs (P:=Tryz.prog) Tryz.underlying22 Tryz.underlying9 (by kernel_rfl) (by with_reducible exact hval 1 22 v1 (by simp) (by simp)) h1 hlt1
 have hz1:=Opn.opened_nil (P:=Tryz.prog) Tryz.underlying22 Tryz.underlying9 (by kernel_rfl) (by with_reducible exact hval 1 22 v1 (by simp) (by simp)) h1
 have e2:s2=⟨s2.data.toList.toArray⟩:=by cases s2;simp
 have q2:s2.data.toList.length≤9223372036854775807:=by
  have h1:s2.data.toList.length=s2.size:=by rw [Array.length_toList];rfl
  have h2:=m2
  unfold maxLen at h2
  omega
 have e3:s3=⟨s3.data.toList.toArray⟩:=by cases s3;simp
 have q3:s3.data.toList.length≤9223372036854775807:=by
  have h1:s3.data.toList.length=s3.size:=by rw [Array.length_toList];rfl
  have h2:=m3
  unfold maxLen at h2
  omega
 have hk:=of_decide_eq_true hk
 simp only [Rows.uptoBulkAll,Rows.uptoBulk] at hk
 have htab:=tab_of hl
 have walk:=Pz.binaryBack_fn y0 l1 _ s2.data.toList s3.data.toList W hl1 hz1 (by omega) (by omega) (by omega) (by omega) htab
 rw [← e2,← e3] at walk
 refine walk.mono fun e W' ⟨he,hg⟩=>?_
 subst he
 exact ⟨_,rfl,post_rows hW' (fun _ _ _=>trodAll_cons_mk (shut_bool Tryz.underlying4 _) trodAll_mk0) (trodAll_cons_mk (shut_int Tryz.underlying5 m0) (trodAll_cons_mk (Below.trod laidOut (by kernel_rfl) (of_decide_eq_true (by kernel_rfl)) h1 hg hlt1) (trodAll_cons_mk (shut_string Tryz.underlying9 m2) (trodAll_cons_mk (shut_string Tryz.underlying9 m3) (trodAll_mk0))))) (fun _=>rfl) hg⟩
theorem reads (os:Os) {H:Type} (enc:TypeId×Value→H):∃ places,DataW.whole enc Tryz.prog ((World.laidAll Tryz.prog os Rows.binaryBackUptoRow.laid).forCall (fun _ _=>0) ⟨#[],#[.int .u8 0,.slice none 0 0,.string .empty,.string .empty],[]⟩).memory Tryz.f3.params.toList Rows.binaryBackSpec.vars false (#[.int .u8 0,.slice none 0 0,.string .empty,.string .empty]:Array Value).toList 8=some ([.lit (.int .u8 0),.nil,.lit (.string []),.lit (.string [])],[],places):=
 ⟨[],by kernel_rfl⟩
set_option maxRecDepth 100000 in
theorem lifted (os:Os) (started:os.Started) (H:Type) (enc:TypeId×Value→H) (F:Stop.Interp) :
  ReturnsInHanded {} Tryz.checked os 3 .any ((Rows.OpenSpec.upto Rows.binaryBackSpec).preRow enc Tryz.prog Tryz.f3 Rows.binaryBackUptoRow.domain false Rows.binaryBackUptoRow.laid) (((Rows.OpenSpec.upto Rows.binaryBackSpec).at F).post enc Tryz.prog Tryz.f3 false true false false):=by
 obtain ⟨places,hx⟩:=reads os enc
 have hl:laidMetH Tryz.prog Rows.binaryBackUptoRow.laid ((World.laidAll Tryz.prog os Rows.binaryBackUptoRow.laid).forCall (fun _ _=>0) ⟨#[],#[.int .u8 0,.slice none 0 0,.string .empty,.string .empty],[]⟩).memory:=by
  rw [MakeChecks.laidMetH_plain _ _ _ (by kernel_rfl)]
  exact laidMet_laidAll _ (by kernel_rfl) (by kernel_rfl)
 refine returnsInHanded_of_row (C:=Tryz.checked) (s:=(Rows.OpenSpec.upto Rows.binaryBackSpec)) own started (by kernel_rfl) Tryz.func3
  (witness_row_at (enc:=enc) (C:=Tryz.checked) false (World.laidAll Tryz.prog os Rows.binaryBackUptoRow.laid) #[.int .u8 0,.slice none 0 0,.string .empty,.string .empty] (World.laidAll_os _ _ _) (by kernel_rfl) (by kernel_rfl) (by kernel_rfl)
   (OpenSpec.preRow_of_cond 8 hx (by kernel_rfl) (fun k hk=>by cases hk;kernel_rfl) (by kernel_rfl) hl)) ?_
 intro W base args ds gs before hval hW _ hcond _ hlaid _ _
 exact contract H enc W base args ds gs before hval hW (hcond _ rfl) hlaid
theorem said:Rows.BinaryBackUptoSaid:=
 OpenClaim.holds_of_cond 3 Tryz.f3 rfl rfl rfl rfl rfl rfl rfl ⟨rfl,rfl,rfl,rfl,rfl⟩ rfl rfl rfl rfl rfl (by kernel_rfl) Tryz.func3 (by kernel_rfl)
  (of_decide_eq_true (by kernel_rfl)) (by unfold Func.isWrapper;first|(rw [if_pos (by decide +kernel)];kernel_rfl)|(rw [if_neg (by decide +kernel)];exact ⟨rfl,rfl⟩))
  (fun os started H enc _ F=>by rw [OpenClaim.pre_eq_preRow];exact lifted os started H enc F)
theorem plain (f:FuncId) (fn:Func) (hf:Tryz.pinned.checked.prog.funcNamed "threadbare/threadbarelaw10.BinaryBack" = some f) (hfn:Tryz.pinned.checked.prog.funcs[f]? = some fn) :
  true=Tryz.pinned.checked.prog.looks []∧∀ (j:Nat) t,fn.params[j]? = some t→Tryz.pinned.checked.prog.wantsStandIn t=false:=by
 obtain rfl:f=3:=Option.some.inj ((show Tryz.prog.funcNamed "threadbare/threadbarelaw10.BinaryBack" = some 3 by kernel_rfl).symm.trans hf) |>.symm
 obtain rfl:fn=Tryz.f3:=(Option.some.inj (Tryz.func3.symm.trans hfn)).symm
 refine ⟨by kernel_rfl,fun j t ht=>?_⟩
 rw [Tryz.params3] at ht
 have ht:=Array.mem_of_getElem? ht
 simp at ht
 rcases ht with rfl | rfl | rfl
 ·exact (show Tryz.prog.wantsStandIn 5=false by kernel_rfl)
 ·exact (show Tryz.prog.wantsStandIn 22=false by kernel_rfl)
 ·exact (show Tryz.prog.wantsStandIn 9=false by kernel_rfl)
theorem card:Rows.BinaryBackUptoCardSaid:=
 Claim7.holds_tied_plain_at .later [] _ _ _ _ said (fun _ h=>by cases h) (by kernel_rfl) (fun _ h=>by cases h) binaryBackUpto_row_tie rfl ⟨rfl,rfl⟩ (by kernel_rfl) rfl plain (by kernel_rfl)
end Go.Proofs.YtihdndaibmgoiaaGreatDoor.binaryBack
