/-
  Part KNumbers of the proofs of this seat, merged by a program out of 1 texts; remarks are struck.
-/
import Derived.Test.YtbilphfbfnohmaaGreatDoorCards
import Derived.Test.YtbilphfbfnohmaaGreatDoorTie
import Derived.Deep.DeepHandedRow
import Derived.ProofKit
import Derived.OpenShut
import Derived.Lay
import Derived.Deep.DeepWitnessRowRef
import Derived.MakeChecks
import Derived.ChangeMaps5
import Derived.Test.YtbilphfbfnohmaaGreatDoorK11
namespace Go.Proofs.YtbilphfbfnohmaaGreatDoor.spellNumbers
open Go.ChangeMaps Go.ChangeShapes Go.WideShapes Go.ChangeAt Go.RowKit
theorem own:ownKnob Tryz.prog.godebug=none:=by kernel_rfl
theorem ok_true {P:Program} {W':World} {f:Func} {t:TypeId} (hr:f.resultTypes=#[t]) (ht:P.underlying t=some .bool) :
  ∀ (j:Nat) (t':TypeId) (r:Value),f.resultTypes[j]? = some t'→((Value.bool true).resultList f.resultTypes.size)[j]? = some r→Value.okWide P W' .any 0 t' r:=ok_one hr rfl (okWide_bool_mk ht true)
section
variable {H:Type} {enc:TypeId×Value→H}
set_option maxRecDepth 100000 in
theorem post_below {f:Func} {s:ChangeSpec} {W W':World} {args:Array Value} {v:Value} {ds gs:List (DataW H)}
  (hW:DataW.Whole enc Tryz.prog f.params.toList s.vars false W args.toList ds gs [])
  (hres:∀ (b:Nat) (sp:Nat→Bool) (hd:Bool),DataW.TrodAll enc Tryz.prog W' b sp hd f.resultTypes.toList (v.resultList f.resultTypes.size) (s.fn H (ds++gs)).results [])
  (hargs:∀ sp:Nat→Bool,DataW.TrodAll enc Tryz.prog W' 0 sp true f.params.toList args.toList (s.fn H (ds++gs)).args [])
  (hvars:∀ sp:Nat→Bool,DataW.TrodVars enc Tryz.prog W' sp s.vars (s.fn H (ds++gs)).vars []) (hb:Below W.heap.size W W')
  (hok:∀ (j:Nat) (t:TypeId) (r:Value),f.resultTypes[j]? = some t→(v.resultList f.resultTypes.size)[j]? = some r→Value.okWide Tryz.prog W' .any 0 t r) :
  s.post enc Tryz.prog f false true false false W args v W':=by
 refine ⟨ds,gs,[],[],[],[],hW,hres _ _ _,hargs _,hvars _,World.keptBut_mono (fun p hp=>⟨hp,.inr (.inr hp)⟩) (hb.frame (·∈([]:List MemPlace))),fun _=>?_⟩
 refine ⟨hok,_,_,([]++[])++[],⟨[]++[],[],trodAll_append (hargs _) (hres _ _ _),hvars _,rfl,?_,?_⟩,?_⟩
 ·intro b off hp
  simp at hp
 ·intro h
  cases h
 ·intro p hp _
  simp at hp
end
theorem contract (H:Type) (enc:TypeId×Value→H) (W:World) (base:Nat) (args:Array Value) (ds gs:List (DataW H)) (before:List MemPlace)
  (hval:∀ (j:Nat) t v,Tryz.f4.params[j]? = some t→args[j]? = some v→Value.okWide Tryz.prog W .any base t v)
  (hW:DataW.Whole enc Tryz.prog Tryz.f4.params.toList Rows.spellNumbersSpec.vars false W args.toList ds gs before) :
  Calls Tryz.prog 4 args W fun e W'=>∃ v,e=.returned v∧Rows.spellNumbersSpec.post enc Tryz.prog Tryz.f4 false true false false W args v W':=by
 have hW':=hW
 obtain ⟨p,q,hA0,hV,rfl,hfz,hnd⟩:=hW
 have hA:DataW.TrodAll enc Tryz.prog W 0 (fun _=>true) true Tryz.f4.params.toList args.toList ds p:=hA0
 rw [Tryz.params4] at hA hval
 obtain ⟨v0,vs0,d0,ds0,p0,q0,hargs,rfl,rfl,h0,r0⟩:=trodAll_cons hA
 obtain ⟨v1,vs1,d1,ds1,p1,q1,rfl,rfl,rfl,h1,r1⟩:=trodAll_cons r0
 obtain ⟨v2,vs2,d2,ds2,p2,q2,rfl,rfl,rfl,h2,r2⟩:=trodAll_cons r1
 obtain ⟨v3,vs3,d3,ds3,p3,q3,rfl,rfl,rfl,h3,r3⟩:=trodAll_cons r2
 obtain ⟨v4,vs4,d4,ds4,p4,q4,rfl,rfl,rfl,h4,r4⟩:=trodAll_cons r3
 obtain ⟨v5,vs5,d5,ds5,p5,q5,rfl,rfl,rfl,h5,r5⟩:=trodAll_cons r4
 obtain ⟨v6,vs6,d6,ds6,p6,q6,rfl,rfl,rfl,h6,r6⟩:=trodAll_cons r5
 obtain ⟨v7,vs7,d7,ds7,p7,q7,rfl,rfl,rfl,h7,r7⟩:=trodAll_cons r6
 obtain ⟨rfl,rfl,rfl⟩:=trodAll_nil r7
 obtain rfl:args=#[v0,v1,v2,v3,v4,v5,v6,v7]:=by cases args;simp_all
 obtain ⟨rfl,rfl⟩:=trodVars_none hV
 obtain ⟨s0,rfl,rfl,rfl,m0⟩:=open_string Tryz.underlying9 (by with_reducible exact hval 0 9 v0 (by simp) (by simp)) h0
 obtain ⟨s1,rfl,rfl,rfl,m1⟩:=open_int Tryz.underlying3 (by with_reducible exact hval 1 3 v1 (by simp) (by simp)) h1
 obtain ⟨s2,rfl,rfl,rfl⟩:=open_bool Tryz.underlying4 (by with_reducible exact hval 2 4 v2 (by simp) (by simp)) h2
 obtain ⟨s3,rfl,rfl,rfl,m3⟩:=open_int Tryz.underlying5 (by with_reducible exact hval 3 5 v3 (by simp) (by simp)) h3
 obtain ⟨y3,rfl⟩:=Pz.byte_of_wf m3
 obtain ⟨s4,rfl,rfl,rfl,m4⟩:=open_int Tryz.underlying3 (by with_reducible exact hval 4 3 v4 (by simp) (by simp)) h4
 obtain ⟨s5,rfl,rfl,rfl,m5⟩:=open_int Tryz.underlying3 (by with_reducible exact hval 5 3 v5 (by simp) (by simp)) h5
 obtain ⟨s6,rfl,rfl,rfl⟩:=open_bool Tryz.underlying4 (by with_reducible exact hval 6 4 v6 (by simp) (by simp)) h6
 obtain ⟨s7,rfl,rfl,rfl⟩:=open_bool Tryz.underlying4 (by with_reducible exact hval 7 4 v7 (by simp) (by simp)) h7
 clear hA0
 simp only [List.append_nil] at hW'
 have e0:s0=⟨s0.data.toList.toArray⟩:=by cases s0;simp
 have q0:s0.data.toList.length≤9223372036854775807:=by
  have h1:s0.data.toList.length=s0.size:=by rw [Array.length_toList];rfl
  have h2:=m0
  unfold maxLen at h2
  omega
 have walk:=Pz.spellNumbers_fn s0.data.toList s1 s2 y3 s4 s5 s6 s7 W q0
 rw [← e0] at walk
 refine walk.mono fun e W' ⟨he,hg⟩=>?_
 subst he
 exact ⟨_,rfl,post_below hW' (fun _ _ _=>trodAll_cons_mk (shut_bool Tryz.underlying4 _) trodAll_mk0) (fun _=>trodAll_cons_mk (shut_string Tryz.underlying9 m0) (trodAll_cons_mk (shut_int Tryz.underlying3 m1) (trodAll_cons_mk (shut_bool Tryz.underlying4 s2) (trodAll_cons_mk (shut_int Tryz.underlying5 m3) (trodAll_cons_mk (shut_int Tryz.underlying3 m4) (trodAll_cons_mk (shut_int Tryz.underlying3 m5) (trodAll_cons_mk (shut_bool Tryz.underlying4 s6) (trodAll_cons_mk (shut_bool Tryz.underlying4 s7) trodAll_mk0)))))))) (fun _=>rfl) hg (@ok_true Tryz.prog W' Tryz.f4 4 (by kernel_rfl) Tryz.underlying4)⟩
theorem reads (os:Os) {H:Type} (enc:TypeId×Value→H):∃ places,DataW.whole enc Tryz.prog ((World.laidAll Tryz.prog os Rows.spellNumbersRow.laid).forCall (fun _ _=>0) ⟨#[],#[.string .empty,.int .i64 0,.bool false,.int .u8 0,.int .i64 0,.int .i64 0,.bool false,.bool false],[]⟩).memory Tryz.f4.params.toList Rows.spellNumbersSpec.vars false (#[.string .empty,.int .i64 0,.bool false,.int .u8 0,.int .i64 0,.int .i64 0,.bool false,.bool false]:Array Value).toList 8=some ([.lit (.string []),.lit (.int .i64 0),.lit (.bool false),.lit (.int .u8 0),.lit (.int .i64 0),.lit (.int .i64 0),.lit (.bool false),.lit (.bool false)],[],places):=
 ⟨[],by kernel_rfl⟩
set_option maxRecDepth 100000 in
theorem lifted (os:Os) (started:os.Started) (H:Type) (enc:TypeId×Value→H) (F:Stop.Interp) :
  ReturnsInHanded {} Tryz.checked os 4 .any ((OpenSpec.ofChange Rows.spellNumbersSpec).preRow enc Tryz.prog Tryz.f4 Rows.spellNumbersRow.domain false Rows.spellNumbersRow.laid) (((OpenSpec.ofChange Rows.spellNumbersSpec).at F).post enc Tryz.prog Tryz.f4 false true false false):=by
 obtain ⟨places,hx⟩:=reads os enc
 have hl:laidMetH Tryz.prog Rows.spellNumbersRow.laid ((World.laidAll Tryz.prog os Rows.spellNumbersRow.laid).forCall (fun _ _=>0) ⟨#[],#[.string .empty,.int .i64 0,.bool false,.int .u8 0,.int .i64 0,.int .i64 0,.bool false,.bool false],[]⟩).memory:=by
  rw [MakeChecks.laidMetH_plain _ _ _ (by kernel_rfl)]
  exact laidMet_laidAll _ (by kernel_rfl) (by kernel_rfl)
 refine returnsInHanded_of_row (C:=Tryz.checked) (s:=(OpenSpec.ofChange Rows.spellNumbersSpec)) own started (by kernel_rfl) Tryz.func4
  (witness_row_atRef (enc:=enc) (C:=Tryz.checked) false (World.laidAll Tryz.prog os Rows.spellNumbersRow.laid) #[.string .empty,.int .i64 0,.bool false,.int .u8 0,.int .i64 0,.int .i64 0,.bool false,.bool false] (World.laidAll_os _ _ _) (by kernel_rfl) (by kernel_rfl) (by kernel_rfl)
   (OpenSpec.preRow_of_cond 8 hx (by kernel_rfl) (fun k hk=>by cases hk) (by kernel_rfl) hl)) ?_
 intro W base args ds gs before hval hW _ _ _ _ _ _
 exact contract H enc W base args ds gs before hval hW
theorem said:Rows.SpellNumbersSaid:=
 OpenClaim.holds_of_cond 4 Tryz.f4 rfl rfl rfl rfl rfl rfl rfl ⟨rfl,rfl,rfl,rfl,rfl⟩ rfl rfl rfl rfl rfl (by kernel_rfl) Tryz.func4 (by kernel_rfl)
  (of_decide_eq_true (by kernel_rfl)) (by unfold Func.isWrapper;first|(rw [if_pos (by decide +kernel)];kernel_rfl)|(rw [if_neg (by decide +kernel)];exact ⟨rfl,rfl⟩))
  (fun os started H enc _ F=>by rw [OpenClaim.pre_eq_preRow];exact lifted os started H enc F)
theorem plain (f:FuncId) (fn:Func) (hf:Tryz.pinned.checked.prog.funcNamed "threadbare/threadbarelaw08.SpellNumbers" = some f) (hfn:Tryz.pinned.checked.prog.funcs[f]? = some fn) :
  true=Tryz.pinned.checked.prog.looks []∧∀ (j:Nat) t,fn.params[j]? = some t→Tryz.pinned.checked.prog.wantsStandIn t=false:=by
 obtain rfl:f=4:=Option.some.inj ((show Tryz.prog.funcNamed "threadbare/threadbarelaw08.SpellNumbers" = some 4 by kernel_rfl).symm.trans hf) |>.symm
 obtain rfl:fn=Tryz.f4:=(Option.some.inj (Tryz.func4.symm.trans hfn)).symm
 refine ⟨by kernel_rfl,fun j t ht=>?_⟩
 rw [Tryz.params4] at ht
 have ht:=Array.mem_of_getElem? ht
 simp at ht
 have ht:t=9∨t=3∨t=4∨t=5:=by
  rcases ht with h | h | h | h | h | h<;>simp [h]
 rcases ht with rfl | rfl | rfl | rfl
 ·exact (show Tryz.prog.wantsStandIn 9=false by kernel_rfl)
 ·exact (show Tryz.prog.wantsStandIn 3=false by kernel_rfl)
 ·exact (show Tryz.prog.wantsStandIn 4=false by kernel_rfl)
 ·exact (show Tryz.prog.wantsStandIn 5=false by kernel_rfl)
theorem card:Rows.SpellNumbersCardSaid:=
 Claim7.holds_tied_plain_at .later [] _ _ _ _ said (fun _ h=>by cases h) (by kernel_rfl) (fun _ h=>by cases h) spellNumbers_row_tie rfl ⟨rfl,rfl⟩ (by kernel_rfl) rfl plain (by kernel_rfl)
end Go.Proofs.YtbilphfbfnohmaaGreatDoor.spellNumbers
