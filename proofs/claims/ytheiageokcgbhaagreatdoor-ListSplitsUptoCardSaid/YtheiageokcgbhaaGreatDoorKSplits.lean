/-
  ListSplitsCard: the law's card and what it alone needs, merged from 2 texts. Conditions: the row's own.
-/
import Derived.Test.YtheiageokcgbhaaGreatDoorCards
import Derived.Test.YtheiageokcgbhaaGreatDoorTie
import Derived.Deep.DeepHandedRow
import Derived.ProofKit
import Derived.OpenShut
import Derived.Lay
import Derived.MakeChecks
import Derived.ChangeMaps5
import Derived.SliceStrings
import Derived.Carry
import Derived.Shelf.Vars
import Derived.Test.YtheiageokcgbhaaGreatDoorK0
import Derived.Test.YtheiageokcgbhaaGreatDoorK1
import Derived.Test.YtheiageokcgbhaaGreatDoorK2
import Derived.Test.YtheiageokcgbhaaGreatDoorK3
import Derived.Test.YtheiageokcgbhaaGreatDoorK4
/-
  The law ListSplits walked.
-/
namespace Go.Proofs.YtheiageokcgbhaaGreatDoor.Pz
open Go.RowKit
theorem split_all (s : Str) : ∀ x ∈ (splitE s).1, x.length ≤ s.length := by
  intro x hx
  have h1 := sumL_mem _ x hx
  have h2 := (splitE_out s).2.2
  omega
set_option maxRecDepth 100000 in
set_option maxHeartbeats 4000000 in
theorem listSplits_fn (s : Str) (w : World) (hml : ML w) (hb : s.length ≤ 2000000) :
    Calls Tryz.prog 3 #[.string ⟨s.toArray⟩] w fun e w' => e = .returned (.bool true) ∧ Below w.heap.size w w' := by
  obtain ⟨W, hW⟩ : ∃ W, W = w.alloc (.cells #[.string ⟨s.toArray⟩] 9) := ⟨_, rfl⟩
  have hbW : Below w.heap.size w W := by rw [hW]; exact belowA _ _
  have hg : W.heap[w.heap.size]? = some (.cells #[.string ⟨s.toArray⟩] 9 (0, 0)) := by rw [hW]; exact heap_alloc_new _ _
  have hst : StrsAt W (.slice (some ⟨w.heap.size, 0, none⟩) 1 1) [s] := by
    refine ⟨some ⟨w.heap.size, 0, none⟩, 1, rfl, Nat.le_refl _, fun i hi => ⟨_, rfl, (Array.getElem?_eq_some_iff.1 hg).1, ?_⟩⟩
    have hi0 : i = 0 := by simp at hi; exact hi
    subst hi0
    rw [add_none, Lib.cell_of_heap hg]
    rfl
  have HLO := hid (long_fn hst (by simp [sumS]; omega))
  have HW := hid hW
  have HBW := hid hbW
  have HM := hid hml
  have AW := fun u (h : Below w.heap.size w u) => hid (awakeL_fn u (HM.out.below h))
  have hsz : (⟨s.toArray⟩ : ByteArray).size = s.length := Lib.size_mk _
  have hwz := hbW.size
  by_cases hlo : longB [s] = true
  · rw [hlo] at HLO
    have haw := AW W hbW
    clear hst hg hbW hW hml
    go_enter Tryz.func3, Tryz.ntmps3
    go_wp2_with fail
    rw [← HW.out]
    (with_reducible refine HLO.out.mono ?_); rintro e w1 ⟨rfl, hw⟩; subst hw
    go_wp2_with fail
    (with_reducible refine haw.out.mono ?_); rintro e w2 ⟨rfl, hb2⟩
    have HB2 := hid (HBW.out.trans (hb2.mono hwz))
    clear hb2
    go_wp2
    go_ret
    exact ⟨rfl, HB2.out⟩
  · have hlf : longB [s] = false := by simpa using hlo
    rw [hlf] at HLO
    have hsl : s.length ≤ 1500 := by
      have h5 : ¬ 1500 < sumS [s] := fun h => hlo (decide_eq_true h)
      rw [sumS, sumS] at h5
      omega
    have hout := splitE_out s
    have hall := split_all s
    have hl6 : ∀ x ∈ (splitE s).1, x.length ≤ 1000000 := fun x hx => by have := hall x hx; omega
    have hln : (splitE s).1.length ≤ 1000000 := by omega
    have H1 := hid (fun u => split_fn s (by omega) u)
    unfold SplitQ at H1
    have H2 := hid (fun u => splitR_fn s (by omega) u)
    have H3 := hid (fun u => validL_fn s (by omega) u)
    have H4 := hid (fun u => validR_fn s (by omega) u)
    have H5 := hid (fun u (h : Below w.heap.size w u) => isCanonL_fn s (by omega) hln u (HM.out.below h))
    have H6 := hid (fun u => isCanonR_fn s (by omega) hl6 hln u)
    have H7 := hid (fun u (h : Below w.heap.size w u) => canonL_fn s (by omega) hln u (HM.out.below h))
    have H8 := hid (fun u => canonR_fn s (by omega) hl6 hln u)
    have H9 := hid (fun u => lengthL_fn s (by omega) u)
    have HA := hid (fun u => lengthR_fn s (by omega) u)
    clear hl6 hall hout
    generalize splitE s = E at H1 H2 H3 H4 H9 HA hln
    obtain ⟨l, at0, er⟩ := E
    dsimp only at H1 H2 H3 H4 H9 HA hln
    generalize canonRes s = cr at H7 H8
    obtain ⟨c1, c2⟩ := cr
    dsimp only at H7 H8
    generalize isCanon s = ic at H5 H6
    obtain ⟨eb, heb⟩ : ∃ eb, eb = (er == 0) := ⟨_, rfl⟩
    rw [← heb] at H3 H4
    have HSM := fun (u : World) (x y : Value) (hx : StrsAt u x l) (hy : StrsAt u y l) => same_fn hx hy (by omega)
    clear hst hg hbW hW hml hln heb
    go_enter Tryz.func3, Tryz.ntmps3
    go_wp2_with fail
    rw [← HW.out]
    (with_reducible refine HLO.out.mono ?_); rintro e w1 ⟨rfl, hw⟩; subst hw
    have h1 := H1.out w1
    go_wp2_with fail
    (with_reducible refine h1.mono ?_); rintro e w2 ⟨hb2, v1, rfl, hr1⟩
    have HR1 := hid hr1.strs
    have HB2 := hid (HBW.out.trans (hb2.mono hwz))
    clear hb2 hr1 h1
    have h1 := H2.out w2
    go_wp2_with fail
    (with_reducible refine h1.mono ?_); rintro e w3 ⟨hb3, v2, rfl, hr2⟩
    have HS := hid (HSM w3 v1 v2 (HR1.out.below hb3) hr2.strs)
    have HB3 := hid (HB2.out.trans (hb3.mono HB2.out.size))
    clear hb3 hr2 h1
    go_wp2_with fail
    (with_reducible refine HS.out.mono ?_); rintro e w4 ⟨rfl, hb4⟩
    have HB4 := hid (HB3.out.trans (hb4.mono HB3.out.size))
    have h1 := H3.out w4
    clear hb4
    go_wp2_with fail
    (with_reducible refine h1.mono ?_); rintro e w5 ⟨rfl, hb5⟩
    have HB5 := hid (HB4.out.trans (hb5.mono HB4.out.size))
    clear hb5 h1
    have h1 := H4.out w5
    go_wp2_with fail
    (with_reducible refine h1.mono ?_); rintro e w6 ⟨rfl, hb6⟩
    have HB6 := hid (HB5.out.trans (hb6.mono HB5.out.size))
    clear hb6 h1
    have h1 := H5.out w6 HB6.out
    go_wp2_with fail
    (with_reducible refine h1.mono ?_); rintro e w7 ⟨rfl, hb7⟩
    have HB7 := hid (HB6.out.trans (hb7.mono HB6.out.size))
    clear hb7 h1
    have h1 := H6.out w7
    go_wp2_with fail
    (with_reducible refine h1.mono ?_); rintro e w8 ⟨rfl, hb8⟩
    have HB8 := hid (HB7.out.trans (hb8.mono HB7.out.size))
    clear hb8 h1
    have h1 := H7.out w8 HB8.out
    go_wp2_with fail
    (with_reducible refine h1.mono ?_); rintro e w9 ⟨rfl, hb9⟩
    have HB9 := hid (HB8.out.trans (hb9.mono HB8.out.size))
    clear hb9 h1
    have h1 := H8.out w9
    go_wp2_with fail
    (with_reducible refine h1.mono ?_); rintro e wa ⟨rfl, hba⟩
    have HBa := hid (HB9.out.trans (hba.mono HB9.out.size))
    clear hba h1
    have h1 := H9.out wa
    go_wp2_with fail
    (with_reducible refine h1.mono ?_); rintro e wb ⟨rfl, hbb⟩
    have HBb := hid (HBa.out.trans (hbb.mono HBa.out.size))
    clear hbb h1
    have h1 := HA.out wb
    go_wp2_with fail
    (with_reducible refine h1.mono ?_); rintro e wc ⟨rfl, hbc⟩
    have HBc := hid (HBb.out.trans (hbc.mono HBb.out.size))
    clear hbc h1
    have h1 := AW wc HBc.out
    go_wp2_with fail
    (with_reducible refine h1.out.mono ?_); rintro e wd ⟨rfl, hbd⟩
    have HBd := hid (HBc.out.trans (hbd.mono HBc.out.size))
    clear hbd h1
    go_wp2
    go_ret
    exact ⟨rfl, HBd.out⟩
end Go.Proofs.YtheiageokcgbhaaGreatDoor.Pz
/-
  ListSplits: the row and its card (the second form: arguments of bulk at most 1048576). Condition: the listed package-level variables hold what the row lists (the card ties them to the text).
-/
namespace Go.Proofs.YtheiageokcgbhaaGreatDoor.listSplits
open Go.ChangeMaps Go.ChangeShapes Go.WideShapes Go.ChangeAt Go.RowKit
theorem own : ownKnob Tryz.prog.godebug = none := by kernel_rfl
theorem ok_true {P : Program} {W' : World} {f : Func} {t : TypeId} (hr : f.resultTypes = #[t]) (ht : P.underlying t = some .bool) :
    ∀ (j : Nat) (t' : TypeId) (r : Value), f.resultTypes[j]? = some t' → ((Value.bool true).resultList f.resultTypes.size)[j]? = some r → Value.okWide P W' .any 0 t' r := ok_one hr rfl (okWide_bool_mk ht true)
section
variable {H : Type} {enc : TypeId × Value → H}
/-- the row's last step: the arguments' places read as they did, no variable is asked, what lay below is as it was -/
theorem post_rows {f : Func} {s : ChangeSpec} {W W' : World} {args : Array Value} {v : Value} {ds gs : List (DataW H)} {before pa : List MemPlace}
    (hW : DataW.Whole enc Tryz.prog f.params.toList s.vars false W args.toList ds gs before)
    (hres : ∀ (b : Nat) (sp : Nat → Bool) (hd : Bool), DataW.TrodAll enc Tryz.prog W' b sp hd f.resultTypes.toList (v.resultList f.resultTypes.size) (s.fn H (ds ++ gs)).results [])
    (hargs : DataW.TrodAll enc Tryz.prog W' 0 (fun b => decide (b < W.heap.size)) true f.params.toList args.toList (s.fn H (ds ++ gs)).args pa)
    (hvars : ∀ sp : Nat → Bool, DataW.TrodVars enc Tryz.prog W' sp s.vars (s.fn H (ds ++ gs)).vars []) (hb : Below W.heap.size W W') :
    s.post enc Tryz.prog f false true false false W args v W' :=
  ⟨ds, gs, before, [], pa, [], hW, hres _ _ _, hargs, hvars _, hb.frame _, fun h => by cases h⟩
theorem laidOut : laidOutB Tryz.prog = true := by kernel_rfl
end
theorem contract (H : Type) (enc : TypeId × Value → H) (W : World) (base : Nat) (args : Array Value) (ds gs : List (DataW H)) (before : List MemPlace)
    (hval : ∀ (j : Nat) t v, Tryz.f3.params[j]? = some t → args[j]? = some v → Value.okWide Tryz.prog W .any base t v)
    (hW : DataW.Whole enc Tryz.prog Tryz.f3.params.toList Rows.listSplitsSpec.vars false W args.toList ds gs before) (hk : Rows.uptoSmall H (ds ++ gs) = true) (hml : Pz.ML W) :
    Calls Tryz.prog 3 args W fun e W' => ∃ v, e = .returned v ∧ Rows.listSplitsSpec.post enc Tryz.prog Tryz.f3 false true false false W args v W' := by
  have hW' := hW
  obtain ⟨p, q, hA0, hV, rfl, hfz, hnd⟩ := hW
  have hA : DataW.TrodAll enc Tryz.prog W 0 (fun _ => true) true Tryz.f3.params.toList args.toList ds p := hA0
  rw [Tryz.params3] at hA hval
  obtain ⟨v0, vs0, d0, ds0, p0, q0, hargs, rfl, rfl, h0, r0⟩ := trodAll_cons hA
  obtain ⟨rfl, rfl, rfl⟩ := trodAll_nil r0
  obtain rfl : args = #[v0] := by cases args; simp_all
  obtain ⟨rfl, rfl⟩ := trodVars_none hV
  obtain ⟨s0, rfl, rfl, rfl, m0⟩ := open_string Tryz.underlying9 (by with_reducible exact hval 0 9 v0 (by simp) (by simp)) h0
  clear hA0
  simp only [List.append_nil] at hW' hk
  have e0 : s0 = ⟨s0.data.toList.toArray⟩ := by cases s0; simp
  have q0 : s0.data.toList.length ≤ 9223372036854775807 := by
    have h1 : s0.data.toList.length = s0.size := by rw [Array.length_toList]; rfl
    have h2 := m0
    unfold maxLen at h2
    omega
  have hk := of_decide_eq_true hk
  simp only [Rows.uptoBulkAll, Rows.uptoBulk] at hk
  have walk := Pz.listSplits_fn s0.data.toList W hml (by omega)
  rw [← e0] at walk
  refine walk.mono fun e W' ⟨he, hg⟩ => ?_
  subst he
  exact ⟨_, rfl, post_rows hW' (fun _ _ _ => trodAll_cons_mk (shut_bool Tryz.underlying4 _) trodAll_mk0) (trodAll_cons_mk (shut_string Tryz.underlying9 m0) (trodAll_mk0)) (fun _ => rfl) hg⟩
theorem reads (os : Os) {H : Type} (enc : TypeId × Value → H) : ∃ places, DataW.whole enc Tryz.prog ((World.laidAll Tryz.prog os Rows.listSplitsUptoRow.laid).forCall (fun _ _ => 0) ⟨#[], #[.string .empty], []⟩).memory Tryz.f3.params.toList Rows.listSplitsSpec.vars false (#[.string .empty] : Array Value).toList 8 = some ([.lit (.string [])], [], places) :=
  ⟨[], by kernel_rfl⟩
set_option maxRecDepth 100000 in
theorem lifted (os : Os) (started : os.Started) (H : Type) (enc : TypeId × Value → H) (F : Stop.Interp) :
    ReturnsInHanded {} Tryz.checked os 3 .any ((Rows.OpenSpec.upto Rows.listSplitsSpec).preRow enc Tryz.prog Tryz.f3 Rows.listSplitsUptoRow.domain false Rows.listSplitsUptoRow.laid) (((Rows.OpenSpec.upto Rows.listSplitsSpec).at F).post enc Tryz.prog Tryz.f3 false true false false) := by
  obtain ⟨places, hx⟩ := reads os enc
  have hl : laidMetH Tryz.prog Rows.listSplitsUptoRow.laid ((World.laidAll Tryz.prog os Rows.listSplitsUptoRow.laid).forCall (fun _ _ => 0) ⟨#[], #[.string .empty], []⟩).memory := by
    rw [MakeChecks.laidMetH_plain _ _ _ (by kernel_rfl)]
    exact laidMet_laidAll _ (by kernel_rfl) (by kernel_rfl)
  refine returnsInHanded_of_row (C := Tryz.checked) (s := (Rows.OpenSpec.upto Rows.listSplitsSpec)) own started (by kernel_rfl) Tryz.func3
    (witness_row_at (enc := enc) (C := Tryz.checked) false (World.laidAll Tryz.prog os Rows.listSplitsUptoRow.laid) #[.string .empty] (World.laidAll_os _ _ _) (by kernel_rfl) (by kernel_rfl) (by kernel_rfl)
      (OpenSpec.preRow_of_cond 8 hx (by kernel_rfl) (fun k hk => by cases hk; kernel_rfl) (by kernel_rfl) hl)) ?_
  intro W base args ds gs before hval hW _ hcond _ _ hsh _
  exact contract H enc W base args ds gs before hval hW (hcond _ rfl) (cell_of_shapedOpen_int (t := 3) (zero := #[.int .i64 0]) hsh (of_decide_eq_true (by kernel_rfl)) (by kernel_rfl) rfl (by kernel_rfl) (by kernel_rfl) Tryz.underlying3)
theorem said : Rows.ListSplitsUptoSaid :=
  OpenClaim.holds_of_cond 3 Tryz.f3 rfl rfl rfl rfl rfl rfl rfl ⟨rfl, rfl, rfl, rfl, rfl⟩ rfl rfl rfl rfl rfl (by kernel_rfl) Tryz.func3 (by kernel_rfl)
    (of_decide_eq_true (by kernel_rfl)) (by unfold Func.isWrapper; first | (rw [if_pos (by decide +kernel)]; kernel_rfl) | (rw [if_neg (by decide +kernel)]; exact ⟨rfl, rfl⟩))
    (fun os started H enc _ F => by rw [OpenClaim.pre_eq_preRow]; exact lifted os started H enc F)
theorem plain (f : FuncId) (fn : Func) (hf : Tryz.pinned.checked.prog.funcNamed "threadbare/threadbarelaw02.ListSplits" = some f) (hfn : Tryz.pinned.checked.prog.funcs[f]? = some fn) :
    true = Tryz.pinned.checked.prog.looks [] ∧ ∀ (j : Nat) t, fn.params[j]? = some t → Tryz.pinned.checked.prog.wantsStandIn t = false := by
  obtain rfl : f = 3 := Option.some.inj ((show Tryz.prog.funcNamed "threadbare/threadbarelaw02.ListSplits" = some 3 by kernel_rfl).symm.trans hf) |>.symm
  obtain rfl : fn = Tryz.f3 := (Option.some.inj (Tryz.func3.symm.trans hfn)).symm
  refine ⟨by kernel_rfl, fun j t ht => ?_⟩
  rw [Tryz.params3] at ht
  have ht := Array.mem_of_getElem? ht
  simp at ht
  subst ht
  exact (show Tryz.prog.wantsStandIn 9 = false by kernel_rfl)
theorem card : Rows.ListSplitsUptoCardSaid :=
  Claim7.holds_tied_plain_at .later [] _ _ _ _ said (fun _ h => by cases h) (by kernel_rfl) (fun _ h => by cases h) listSplitsUpto_row_tie rfl ⟨rfl, rfl⟩ (by kernel_rfl) rfl plain (by kernel_rfl)
end Go.Proofs.YtheiageokcgbhaaGreatDoor.listSplits
