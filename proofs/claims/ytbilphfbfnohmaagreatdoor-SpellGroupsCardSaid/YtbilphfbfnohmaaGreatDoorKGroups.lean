/-
  Part KGroups of the proofs of this seat, merged by a program out of 1 texts; remarks are struck.
-/
import Derived.Test.YtbilphfbfnohmaaGreatDoorCards
import Derived.Test.YtbilphfbfnohmaaGreatDoorTie
import Derived.Deep.DeepHandedRow
import Derived.ProofKit
import Derived.OpenShut
import Derived.Lay
import Derived.Deep.DeepWitnessRowRef
import Derived.MakeChecks
import Derived.ChangeMaps5
import Derived.SliceStrings
import Derived.Carry
import Derived.Shelf.Vars
import Derived.Test.YtbilphfbfnohmaaGreatDoorK20
namespace Go.Proofs.YtbilphfbfnohmaaGreatDoor.spellGroups
open Go.ChangeMaps Go.ChangeShapes Go.WideShapes Go.ChangeAt Go.RowKit
theorem own:ownKnob Tryz.prog.godebug=none:=by kernel_rfl
theorem ok_true {P:Program} {W':World} {f:Func} {t:TypeId} (hr:f.resultTypes=#[t]) (ht:P.underlying t=some .bool) :
  ∀ (j:Nat) (t':TypeId) (r:Value),f.resultTypes[j]? = some t'→((Value.bool true).resultList f.resultTypes.size)[j]? = some r→Value.okWide P W' .any 0 t' r:=ok_one hr rfl (okWide_bool_mk ht true)
section
variable {H:Type} {enc:TypeId×Value→H}
theorem post_rows {f:Func} {s:ChangeSpec} {W W':World} {args:Array Value} {v:Value} {ds gs:List (DataW H)} {before pa:List MemPlace}
  (hW:DataW.Whole enc Tryz.prog f.params.toList s.vars false W args.toList ds gs before)
  (hres:∀ (b:Nat) (sp:Nat→Bool) (hd:Bool),DataW.TrodAll enc Tryz.prog W' b sp hd f.resultTypes.toList (v.resultList f.resultTypes.size) (s.fn H (ds++gs)).results [])
  (hargs:DataW.TrodAll enc Tryz.prog W' 0 (fun b=>decide (b<W.heap.size)) true f.params.toList args.toList (s.fn H (ds++gs)).args pa)
  (hvars:∀ sp:Nat→Bool,DataW.TrodVars enc Tryz.prog W' sp s.vars (s.fn H (ds++gs)).vars []) (hb:Below W.heap.size W W') :
  s.post enc Tryz.prog f false true false false W args v W':=
 ⟨ds,gs,before,[],pa,[],hW,hres _ _ _,hargs,hvars _,hb.frame _,fun h=>by cases h⟩
theorem laidOut:laidOutB Tryz.prog=true:=by kernel_rfl
end
theorem contract (H:Type) (enc:TypeId×Value→H) (W:World) (base:Nat) (args:Array Value) (ds gs:List (DataW H)) (before:List MemPlace)
  (hval:∀ (j:Nat) t v,Tryz.f8.params[j]? = some t→args[j]? = some v→Value.okWide Tryz.prog W .any base t v)
  (hW:DataW.Whole enc Tryz.prog Tryz.f8.params.toList Rows.spellGroupsSpec.vars false W args.toList ds gs before) (hml:Pz.ML W) :
  Calls Tryz.prog 8 args W fun e W'=>∃ v,e=.returned v∧Rows.spellGroupsSpec.post enc Tryz.prog Tryz.f8 false true false false W args v W':=by
 have hW':=hW
 obtain ⟨p,q,hA0,hV,rfl,hfz,hnd⟩:=hW
 have hA:DataW.TrodAll enc Tryz.prog W 0 (fun _=>true) true Tryz.f8.params.toList args.toList ds p:=hA0
 rw [Tryz.params8] at hA hval
 obtain ⟨v0,vs0,d0,ds0,p0,q0,hargs,rfl,rfl,h0,r0⟩:=trodAll_cons hA
 obtain ⟨v1,vs1,d1,ds1,p1,q1,rfl,rfl,rfl,h1,r1⟩:=trodAll_cons r0
 obtain ⟨v2,vs2,d2,ds2,p2,q2,rfl,rfl,rfl,h2,r2⟩:=trodAll_cons r1
 obtain ⟨v3,vs3,d3,ds3,p3,q3,rfl,rfl,rfl,h3,r3⟩:=trodAll_cons r2
 obtain ⟨rfl,rfl,rfl⟩:=trodAll_nil r3
 obtain rfl:args=#[v0,v1,v2,v3]:=by cases args;simp_all
 obtain ⟨rfl,rfl⟩:=trodVars_none hV
 obtain ⟨s0,rfl,rfl,rfl,m0⟩:=open_string Tryz.underlying9 (by with_reducible exact hval 0 9 v0 (by simp) (by simp)) h0
 obtain ⟨s1,rfl,rfl,rfl,m1⟩:=open_string Tryz.underlying9 (by with_reducible exact hval 1 9 v1 (by simp) (by simp)) h1
 obtain ⟨s2,rfl,rfl,rfl,m2⟩:=open_string Tryz.underlying9 (by with_reducible exact hval 2 9 v2 (by simp) (by simp)) h2
 obtain ⟨s3,rfl,rfl,rfl,m3⟩:=open_int Tryz.underlying3 (by with_reducible exact hval 3 3 v3 (by simp) (by simp)) h3
 clear hA0
 simp only [List.append_nil] at hW'
 have e0:s0=⟨s0.data.toList.toArray⟩:=by cases s0;simp
 have q0:s0.data.toList.length≤9223372036854775807:=by
  have h1:s0.data.toList.length=s0.size:=by rw [Array.length_toList];rfl
  have h2:=m0
  unfold maxLen at h2
  omega
 have e1:s1=⟨s1.data.toList.toArray⟩:=by cases s1;simp
 have q1:s1.data.toList.length≤9223372036854775807:=by
  have h1:s1.data.toList.length=s1.size:=by rw [Array.length_toList];rfl
  have h2:=m1
  unfold maxLen at h2
  omega
 have e2:s2=⟨s2.data.toList.toArray⟩:=by cases s2;simp
 have q2:s2.data.toList.length≤9223372036854775807:=by
  have h1:s2.data.toList.length=s2.size:=by rw [Array.length_toList];rfl
  have h2:=m2
  unfold maxLen at h2
  omega
 have walk:=Pz.spellGroups_fn s0.data.toList s1.data.toList s2.data.toList s3 W hml q0 q1 q2
 rw [← e0,← e1,← e2] at walk
 refine walk.mono fun e W' ⟨he,hg⟩=>?_
 subst he
 exact ⟨_,rfl,post_rows hW' (fun _ _ _=>trodAll_cons_mk (shut_bool Tryz.underlying4 _) trodAll_mk0) (trodAll_cons_mk (shut_string Tryz.underlying9 m0) (trodAll_cons_mk (shut_string Tryz.underlying9 m1) (trodAll_cons_mk (shut_string Tryz.underlying9 m2) (trodAll_cons_mk (shut_int Tryz.underlying3 m3) (trodAll_mk0))))) (fun _=>rfl) hg⟩
theorem reads (os:Os) {H:Type} (enc:TypeId×Value→H):∃ places,DataW.whole enc Tryz.prog ((World.laidAll Tryz.prog os Rows.spellGroupsRow.laid).forCall (fun _ _=>0) ⟨#[],#[.string .empty,.string .empty,.string .empty,.int .i64 0],[]⟩).memory Tryz.f8.params.toList Rows.spellGroupsSpec.vars false (#[.string .empty,.string .empty,.string .empty,.int .i64 0]:Array Value).toList 8=some ([.lit (.string []),.lit (.string []),.lit (.string []),.lit (.int .i64 0)],[],places):=
 ⟨[],by kernel_rfl⟩
set_option maxRecDepth 100000 in
theorem lifted (os:Os) (started:os.Started) (H:Type) (enc:TypeId×Value→H) (F:Stop.Interp) :
  ReturnsInHanded {} Tryz.checked os 8 .any ((OpenSpec.ofChange Rows.spellGroupsSpec).preRow enc Tryz.prog Tryz.f8 Rows.spellGroupsRow.domain false Rows.spellGroupsRow.laid) (((OpenSpec.ofChange Rows.spellGroupsSpec).at F).post enc Tryz.prog Tryz.f8 false true false false):=by
 obtain ⟨places,hx⟩:=reads os enc
 have hl:laidMetH Tryz.prog Rows.spellGroupsRow.laid ((World.laidAll Tryz.prog os Rows.spellGroupsRow.laid).forCall (fun _ _=>0) ⟨#[],#[.string .empty,.string .empty,.string .empty,.int .i64 0],[]⟩).memory:=by
  rw [MakeChecks.laidMetH_plain _ _ _ (by kernel_rfl)]
  exact laidMet_laidAll _ (by kernel_rfl) (by kernel_rfl)
 refine returnsInHanded_of_row (C:=Tryz.checked) (s:=(OpenSpec.ofChange Rows.spellGroupsSpec)) own started (by kernel_rfl) Tryz.func8
  (witness_row_atRef (enc:=enc) (C:=Tryz.checked) false (World.laidAll Tryz.prog os Rows.spellGroupsRow.laid) #[.string .empty,.string .empty,.string .empty,.int .i64 0] (World.laidAll_os _ _ _) (by kernel_rfl) (by kernel_rfl) (by kernel_rfl)
   (OpenSpec.preRow_of_cond 8 hx (by kernel_rfl) (fun k hk=>by cases hk) (by kernel_rfl) hl)) ?_
 intro W base args ds gs before hval hW _ _ _ _ hsh _
 exact contract H enc W base args ds gs before hval hW (cell_of_shapedOpen_int (t:=3) (zero:=#[.int .i64 0]) hsh (of_decide_eq_true (by kernel_rfl)) (by kernel_rfl) rfl (by kernel_rfl) (by kernel_rfl) Tryz.underlying3)
theorem said:Rows.SpellGroupsSaid:=
 OpenClaim.holds_of_cond 8 Tryz.f8 rfl rfl rfl rfl rfl rfl rfl ⟨rfl,rfl,rfl,rfl,rfl⟩ rfl rfl rfl rfl rfl (by kernel_rfl) Tryz.func8 (by kernel_rfl)
  (of_decide_eq_true (by kernel_rfl)) (by unfold Func.isWrapper;first|(rw [if_pos (by decide +kernel)];kernel_rfl)|(rw [if_neg (by decide +kernel)];exact ⟨rfl,rfl⟩))
  (fun os started H enc _ F=>by rw [OpenClaim.pre_eq_preRow];exact lifted os started H enc F)
theorem plain (f:FuncId) (fn:Func) (hf:Tryz.pinned.checked.prog.funcNamed "threadbare/threadbarelaw08.SpellGroups" = some f) (hfn:Tryz.pinned.checked.prog.funcs[f]? = some fn) :
  true=Tryz.pinned.checked.prog.looks []∧∀ (j:Nat) t,fn.params[j]? = some t→Tryz.pinned.checked.prog.wantsStandIn t=false:=by
 obtain rfl:f=8:=Option.some.inj ((show Tryz.prog.funcNamed "threadbare/threadbarelaw08.SpellGroups" = some 8 by kernel_rfl).symm.trans hf) |>.symm
 obtain rfl:fn=Tryz.f8:=(Option.some.inj (Tryz.func8.symm.trans hfn)).symm
 refine ⟨by kernel_rfl,fun j t ht=>?_⟩
 rw [Tryz.params8] at ht
 have ht:=Array.mem_of_getElem? ht
 simp at ht
 rcases ht with rfl | rfl
 ·exact (show Tryz.prog.wantsStandIn 9=false by kernel_rfl)
 ·exact (show Tryz.prog.wantsStandIn 3=false by kernel_rfl)
theorem card:Rows.SpellGroupsCardSaid:=
 Claim7.holds_tied_plain_at .later [] _ _ _ _ said (fun _ h=>by cases h) (by kernel_rfl) (fun _ h=>by cases h) spellGroups_row_tie rfl ⟨rfl,rfl⟩ (by kernel_rfl) rfl plain (by kernel_rfl)
end Go.Proofs.YtbilphfbfnohmaaGreatDoor.spellGroups
