/-
  Part KBack of the proofs of this seat, merged by a program out of 1 texts; remarks are struck.
-/
import Derived.Test.YtbilphfbfnohmaaGreatDoorCards
import Derived.Test.YtbilphfbfnohmaaGreatDoorTie
import Derived.Deep.DeepHandedRow
import Derived.ProofKit
import Derived.OpenShut
import Derived.Lay
import Derived.Deep.DeepWitnessRowRef
import Derived.Stop.LaidErr
import Derived.Lib.LaidTab
import Derived.MakeChecks
import Derived.ChangeMaps5
import Derived.Test.YtbilphfbfnohmaaGreatDoorK14
import Derived.Test.YtbilphfbfnohmaaGreatDoorK16
namespace Go.Proofs.YtbilphfbfnohmaaGreatDoor.spellBack
open Go.ChangeMaps Go.ChangeShapes Go.WideShapes Go.ChangeAt Go.RowKit
theorem own:ownKnob Tryz.prog.godebug=none:=by kernel_rfl
theorem ok_true {P:Program} {W':World} {f:Func} {t:TypeId} (hr:f.resultTypes=#[t]) (ht:P.underlying t=some .bool) :
  ∀ (j:Nat) (t':TypeId) (r:Value),f.resultTypes[j]? = some t'→((Value.bool true).resultList f.resultTypes.size)[j]? = some r→Value.okWide P W' .any 0 t' r:=ok_one hr rfl (okWide_bool_mk ht true)
section
variable {H:Type} {enc:TypeId×Value→H}
set_option maxRecDepth 100000 in
theorem post_below {f:Func} {s:ChangeSpec} {W W':World} {args:Array Value} {v:Value} {ds gs:List (DataW H)}
  (hW:DataW.Whole enc Tryz.prog f.params.toList s.vars false W args.toList ds gs [])
  (hres:∀ (b:Nat) (sp:Nat→Bool) (hd:Bool),DataW.TrodAll enc Tryz.prog W' b sp hd f.resultTypes.toList (v.resultList f.resultTypes.size) (s.fn H (ds++gs)).results [])
  (hargs:∀ sp:Nat→Bool,DataW.TrodAll enc Tryz.prog W' 0 sp true f.params.toList args.toList (s.fn H (ds++gs)).args [])
  (hvars:∀ sp:Nat→Bool,DataW.TrodVars enc Tryz.prog W' sp s.vars (s.fn H (ds++gs)).vars []) (hb:Below W.heap.size W W')
  (hok:∀ (j:Nat) (t:TypeId) (r:Value),f.resultTypes[j]? = some t→(v.resultList f.resultTypes.size)[j]? = some r→Value.okWide Tryz.prog W' .any 0 t r) :
  s.post enc Tryz.prog f false true false false W args v W':=by
 refine ⟨ds,gs,[],[],[],[],hW,hres _ _ _,hargs _,hvars _,World.keptBut_mono (fun p hp=>⟨hp,.inr (.inr hp)⟩) (hb.frame (·∈([]:List MemPlace))),fun _=>?_⟩
 refine ⟨hok,_,_,([]++[])++[],⟨[]++[],[],trodAll_append (hargs _) (hres _ _ _),hvars _,rfl,?_,?_⟩,?_⟩
 ·intro b off hp
  simp at hp
 ·intro h
  cases h
 ·intro p hp _
  simp at hp
end
theorem tab_of0 {W:World} (hl:laidMetH Tryz.prog Rows.spellBackUptoRow.laid W):Lib.TabIs Tryz.prog W "internal/strconv.uint64pow10" .u64 Lib.pow10Tab:=by
 rw [MakeChecks.laidMetH_plain _ _ _ (by kernel_rfl)] at hl
 have h3:=hl.tail.tail
 have e:(Rows.laid_internal_strconv_uint64pow10:DataW Unit)=Lib.tabData .u64 Lib.pow10Tab:=by kernel_rfl
 have h4:laidMet Tryz.prog (("internal/strconv.uint64pow10",Lib.tabData .u64 Lib.pow10Tab)::[("unicode/utf8.acceptRanges",Rows.laid_unicode_utf8_acceptRanges),("unicode.CaseRanges",Rows.laid_unicode_CaseRanges),("unicode/utf8.first",Rows.laid_unicode_utf8_first)]) W:=by
  rw [← e];exact h3
 exact Lib.tabIs_of_head (g:=5) (t:=224) (e:=176) (n:=20) (by kernel_rfl) (by kernel_rfl) (by kernel_rfl) (by kernel_rfl) (by kernel_rfl) (by kernel_rfl) h4
theorem contract (H:Type) (enc:TypeId×Value→H) (W:World) (base:Nat) (args:Array Value) (ds gs:List (DataW H)) (before:List MemPlace)
  (hval:∀ (j:Nat) t v,Tryz.f3.params[j]? = some t→args[j]? = some v→Value.okWide Tryz.prog W .any base t v)
  (hW:DataW.Whole enc Tryz.prog Tryz.f3.params.toList Rows.spellBackSpec.vars false W args.toList ds gs before) (hl:laidMetH Tryz.prog Rows.spellBackUptoRow.laid W) (hk:Rows.uptoSmall H (ds++gs)=true) :
  Calls Tryz.prog 3 args W fun e W'=>∃ v,e=.returned v∧Rows.spellBackSpec.post enc Tryz.prog Tryz.f3 false true false false W args v W':=by
 have hW':=hW
 obtain ⟨p,q,hA0,hV,rfl,hfz,hnd⟩:=hW
 have hA:DataW.TrodAll enc Tryz.prog W 0 (fun _=>true) true Tryz.f3.params.toList args.toList ds p:=hA0
 rw [Tryz.params3] at hA hval
 obtain ⟨v0,vs0,d0,ds0,p0,q0,hargs,rfl,rfl,h0,r0⟩:=trodAll_cons hA
 obtain ⟨v1,vs1,d1,ds1,p1,q1,rfl,rfl,rfl,h1,r1⟩:=trodAll_cons r0
 obtain ⟨v2,vs2,d2,ds2,p2,q2,rfl,rfl,rfl,h2,r2⟩:=trodAll_cons r1
 obtain ⟨v3,vs3,d3,ds3,p3,q3,rfl,rfl,rfl,h3,r3⟩:=trodAll_cons r2
 obtain ⟨rfl,rfl,rfl⟩:=trodAll_nil r3
 obtain rfl:args=#[v0,v1,v2,v3]:=by cases args;simp_all
 obtain ⟨rfl,rfl⟩:=trodVars_none hV
 obtain ⟨s0,rfl,rfl,rfl,m0⟩:=open_string Tryz.underlying9 (by with_reducible exact hval 0 9 v0 (by simp) (by simp)) h0
 obtain ⟨s1,rfl,rfl,rfl,m1⟩:=open_int Tryz.underlying5 (by with_reducible exact hval 1 5 v1 (by simp) (by simp)) h1
 obtain ⟨y1,rfl⟩:=Pz.byte_of_wf m1
 obtain ⟨s2,rfl,rfl,rfl,m2⟩:=open_int Tryz.underlying3 (by with_reducible exact hval 2 3 v2 (by simp) (by simp)) h2
 obtain ⟨s3,rfl,rfl,rfl,m3⟩:=open_int Tryz.underlying3 (by with_reducible exact hval 3 3 v3 (by simp) (by simp)) h3
 clear hA0
 simp only [List.append_nil] at hW' hk
 have h:=of_decide_eq_true hk
 simp only [Rows.uptoBulkAll,Rows.uptoBulk] at h
 have e0:s0=⟨s0.data.toList.toArray⟩:=by cases s0;simp
 have htab0:=tab_of0 hl
 have walk:=Pz.spellBack_fn s0.data.toList y1 s2 s3 W (by omega) htab0
 rw [← e0] at walk
 refine walk.mono fun e W' ⟨he,hg⟩=>?_
 subst he
 exact ⟨_,rfl,post_below hW' (fun _ _ _=>trodAll_cons_mk (shut_bool Tryz.underlying4 _) trodAll_mk0) (fun _=>trodAll_cons_mk (shut_string Tryz.underlying9 m0) (trodAll_cons_mk (shut_int Tryz.underlying5 m1) (trodAll_cons_mk (shut_int Tryz.underlying3 m2) (trodAll_cons_mk (shut_int Tryz.underlying3 m3) trodAll_mk0)))) (fun _=>rfl) hg (@ok_true Tryz.prog W' Tryz.f3 4 (by kernel_rfl) Tryz.underlying4)⟩
theorem reads (os:Os) {H:Type} (enc:TypeId×Value→H):∃ places,DataW.whole enc Tryz.prog ((World.laidAll Tryz.prog os Rows.spellBackUptoRow.laid).forCall (fun _ _=>0) ⟨#[],#[.string .empty,.int .u8 0,.int .i64 0,.int .i64 0],[]⟩).memory Tryz.f3.params.toList Rows.spellBackSpec.vars false (#[.string .empty,.int .u8 0,.int .i64 0,.int .i64 0]:Array Value).toList 8=some ([.lit (.string []),.lit (.int .u8 0),.lit (.int .i64 0),.lit (.int .i64 0)],[],places):=
 ⟨[],by kernel_rfl⟩
set_option maxRecDepth 100000 in
theorem lifted (os:Os) (started:os.Started) (H:Type) (enc:TypeId×Value→H) (F:Stop.Interp) :
  ReturnsInHanded {} Tryz.checked os 3 .any ((Rows.OpenSpec.upto Rows.spellBackSpec).preRow enc Tryz.prog Tryz.f3 Rows.spellBackUptoRow.domain false Rows.spellBackUptoRow.laid) (((Rows.OpenSpec.upto Rows.spellBackSpec).at F).post enc Tryz.prog Tryz.f3 false true false false):=by
 obtain ⟨places,hx⟩:=reads os enc
 have hl:laidMetH Tryz.prog Rows.spellBackUptoRow.laid ((World.laidAll Tryz.prog os Rows.spellBackUptoRow.laid).forCall (fun _ _=>0) ⟨#[],#[.string .empty,.int .u8 0,.int .i64 0,.int .i64 0],[]⟩).memory:=by
  rw [MakeChecks.laidMetH_plain _ _ _ (by kernel_rfl)]
  exact laidMet_laidAll _ (by kernel_rfl) (by kernel_rfl)
 refine returnsInHanded_of_row (C:=Tryz.checked) (s:=(Rows.OpenSpec.upto Rows.spellBackSpec)) own started (by kernel_rfl) Tryz.func3
  (witness_row_atRef (enc:=enc) (C:=Tryz.checked) false (World.laidAll Tryz.prog os Rows.spellBackUptoRow.laid) #[.string .empty,.int .u8 0,.int .i64 0,.int .i64 0] (World.laidAll_os _ _ _) (by kernel_rfl) (by kernel_rfl) (by kernel_rfl)
   (OpenSpec.preRow_of_cond 8 hx (by kernel_rfl) (fun k hk=>by cases hk;kernel_rfl) (by kernel_rfl) hl)) ?_
 intro W base args ds gs before hval hW _ hcond _ hlaid _ _
 exact contract H enc W base args ds gs before hval hW hlaid (hcond _ rfl)
theorem said:Rows.SpellBackUptoSaid:=
 OpenClaim.holds_of_cond 3 Tryz.f3 rfl rfl rfl rfl rfl rfl rfl ⟨rfl,rfl,rfl,rfl,rfl⟩ rfl rfl rfl rfl rfl (by kernel_rfl) Tryz.func3 (by kernel_rfl)
  (of_decide_eq_true (by kernel_rfl)) (by unfold Func.isWrapper;first|(rw [if_pos (by decide +kernel)];kernel_rfl)|(rw [if_neg (by decide +kernel)];exact ⟨rfl,rfl⟩))
  (fun os started H enc _ F=>by rw [OpenClaim.pre_eq_preRow];exact lifted os started H enc F)
theorem plain (f:FuncId) (fn:Func) (hf:Tryz.pinned.checked.prog.funcNamed "threadbare/threadbarelaw08.SpellBack" = some f) (hfn:Tryz.pinned.checked.prog.funcs[f]? = some fn) :
  true=Tryz.pinned.checked.prog.looks []∧∀ (j:Nat) t,fn.params[j]? = some t→Tryz.pinned.checked.prog.wantsStandIn t=false:=by
 obtain rfl:f=3:=Option.some.inj ((show Tryz.prog.funcNamed "threadbare/threadbarelaw08.SpellBack" = some 3 by kernel_rfl).symm.trans hf) |>.symm
 obtain rfl:fn=Tryz.f3:=(Option.some.inj (Tryz.func3.symm.trans hfn)).symm
 refine ⟨by kernel_rfl,fun j t ht=>?_⟩
 rw [Tryz.params3] at ht
 have ht:=Array.mem_of_getElem? ht
 simp at ht
 rcases ht with rfl | rfl | rfl
 ·exact (show Tryz.prog.wantsStandIn 9=false by kernel_rfl)
 ·exact (show Tryz.prog.wantsStandIn 5=false by kernel_rfl)
 ·exact (show Tryz.prog.wantsStandIn 3=false by kernel_rfl)
theorem card:Rows.SpellBackUptoCardSaid:=
 Claim7.holds_tied_plain_at .later [] _ _ _ _ said (fun _ h=>by cases h) (by kernel_rfl) (fun _ h=>by cases h) spellBackUpto_row_tie rfl ⟨rfl,rfl⟩ (by kernel_rfl) rfl plain (by kernel_rfl)
end Go.Proofs.YtbilphfbfnohmaaGreatDoor.spellBack
