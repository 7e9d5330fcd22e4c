/-
  ListChangesCard: the law's card and what it alone needs, merged from 3 texts. Conditions: the row's own.
-/
import Derived.Test.YtheiageokcgbhaaGreatDoorCards
import Derived.Test.YtheiageokcgbhaaGreatDoorTie
import Derived.Deep.DeepHandedRow
import Derived.ProofKit
import Derived.OpenShut
import Derived.Lay
import Derived.MakeChecks
import Derived.ChangeMaps5
import Derived.SliceStrings
import Derived.Carry
import Derived.Shelf.Vars
import Derived.Test.YtheiageokcgbhaaGreatDoorK0
import Derived.Test.YtheiageokcgbhaaGreatDoorK1
import Derived.Test.YtheiageokcgbhaaGreatDoorK2
import Derived.Test.YtheiageokcgbhaaGreatDoorK3
import Derived.Test.YtheiageokcgbhaaGreatDoorK4
import Derived.Test.YtheiageokcgbhaaGreatDoorK5
import Derived.Test.YtheiageokcgbhaaGreatDoorK6
import Derived.Test.YtheiageokcgbhaaGreatDoorK7
import Derived.Test.YtheiageokcgbhaaGreatDoorK8
/-
  The law ListChanges walked.
-/
namespace Go.Proofs.YtheiageokcgbhaaGreatDoor.Pz
open Go.RowKit
theorem strs_four (a b c d : Str) (w : World) : StrsAt (w.alloc (.cells #[.string ⟨a.toArray⟩, .string ⟨b.toArray⟩, .string ⟨c.toArray⟩, .string ⟨d.toArray⟩] 9)) (.slice (some ⟨w.heap.size, 0, none⟩) 4 4) [a, b, c, d] := by
  have hg : (w.alloc (.cells #[.string ⟨a.toArray⟩, .string ⟨b.toArray⟩, .string ⟨c.toArray⟩, .string ⟨d.toArray⟩] 9)).heap[w.heap.size]? = some (.cells #[.string ⟨a.toArray⟩, .string ⟨b.toArray⟩, .string ⟨c.toArray⟩, .string ⟨d.toArray⟩] 9 (0, 0)) := heap_alloc_new _ _
  refine ⟨some ⟨w.heap.size, 0, none⟩, 4, rfl, Nat.le_refl _, fun i hi => ⟨_, rfl, (Array.getElem?_eq_some_iff.1 hg).1, ?_⟩⟩
  rw [add_none, Lib.cell_of_heap hg, Nat.zero_add]
  match i, hi with
  | 0, _ => rfl
  | 1, _ => rfl
  | 2, _ => rfl
  | 3, _ => rfl
def lightB (sl sf st sv : Str) (path wl : List Str) : Bool := !longB [sl, sf, st, sv] && !longB path && !longB wl && decide (path.length ≤ 8)
set_option maxRecDepth 100000 in
set_option maxHeartbeats 4000000 in
theorem light_fn (sl sf st sv : Str) (path wl : List Str) (ap aw : Option Addr) (cp cw : Nat) (w : World) (hp : StrsAt w (.slice ap path.length cp) path) (hw : StrsAt w (.slice aw wl.length cw) wl)
    (hb : sumS [sl, sf, st, sv] ≤ 10000000) (hbp : sumS path ≤ 10000000) (hbw : sumS wl ≤ 10000000) :
    Calls Tryz.prog 36 #[.agg #[.string ⟨sl.toArray⟩, .string ⟨sf.toArray⟩, .string ⟨st.toArray⟩, .slice ap path.length cp, .slice aw wl.length cw, .string ⟨sv.toArray⟩]] w fun e w' => e = .returned (.bool (lightB sl sf st sv path wl)) ∧ Below w.heap.size w w' := by
  obtain ⟨W1, hW1⟩ : ∃ W1, W1 = w.alloc (.cells #[.string ⟨sl.toArray⟩, .string ⟨sf.toArray⟩, .string ⟨st.toArray⟩, .slice ap path.length cp, .slice aw wl.length cw, .string ⟨sv.toArray⟩] 45) := ⟨_, rfl⟩
  have hb1 : Below w.heap.size w W1 := by rw [hW1]; exact belowA _ _
  obtain ⟨W, hW⟩ : ∃ W, W = W1.alloc (.cells #[.string ⟨sl.toArray⟩, .string ⟨sf.toArray⟩, .string ⟨st.toArray⟩, .string ⟨sv.toArray⟩] 9) := ⟨_, rfl⟩
  have hb2 : Below W1.heap.size W1 W := by rw [hW]; exact belowA _ _
  have hbW : Below w.heap.size w W := hb1.trans (hb2.mono hb1.size)
  have HL1 := hid (long_fn (show StrsAt W (.slice (some ⟨W1.heap.size, 0, none⟩) 4 4) [sl, sf, st, sv] by rw [hW]; exact strs_four _ _ _ _ W1) hb)
  have HL2 := hid (long_fn (hp.below hbW) hbp)
  have HL3 := hid (long_fn (hw.below hbW) hbw)
  have hsz1 : W1.heap.size = w.heap.size + 1 := by rw [hW1]; simp
  have hg1 : W.heap[w.heap.size]? = some (.cells #[.string ⟨sl.toArray⟩, .string ⟨sf.toArray⟩, .string ⟨st.toArray⟩, .slice ap path.length cp, .slice aw wl.length cw, .string ⟨sv.toArray⟩] 45 (0, 0)) := by
    rw [hb2.block w.heap.size (by omega), hW1]
    exact heap_alloc_new _ _
  have hc3 : W.cell? ⟨w.heap.size, 3, none⟩ = some (.slice ap path.length cp) := by rw [Lib.cell_of_heap hg1]; rfl
  have hc4 : W.cell? ⟨w.heap.size, 4, none⟩ = some (.slice aw wl.length cw) := by rw [Lib.cell_of_heap hg1]; rfl
  have HW := hid (show W = (w.alloc (.cells #[.string ⟨sl.toArray⟩, .string ⟨sf.toArray⟩, .string ⟨st.toArray⟩, .slice ap path.length cp, .slice aw wl.length cw, .string ⟨sv.toArray⟩] 45)).alloc (.cells #[.string ⟨sl.toArray⟩, .string ⟨sf.toArray⟩, .string ⟨st.toArray⟩, .string ⟨sv.toArray⟩] 9) by rw [hW, hW1])
  have hsz : W1.heap.size = (w.alloc (.cells #[.string ⟨sl.toArray⟩, .string ⟨sf.toArray⟩, .string ⟨st.toArray⟩, .slice ap path.length cp, .slice aw wl.length cw, .string ⟨sv.toArray⟩] 45)).heap.size := by rw [hW1]
  rw [hsz1] at HL1
  have HBW := hid hbW
  unfold lightB
  generalize longB [sl, sf, st, sv] = q1 at HL1 ⊢
  generalize longB path = q2 at HL2 ⊢
  generalize longB wl = q3 at HL3 ⊢
  obtain ⟨np, hnp⟩ : ∃ np, np = path.length := ⟨_, rfl⟩
  obtain ⟨nw, hnw⟩ : ∃ nw, nw = wl.length := ⟨_, rfl⟩
  rw [← hnp] at HL2 HW hc3 ⊢
  rw [← hnw] at HL3 HW hc4 ⊢
  clear hp hw hb hbp hbw hg1 hsz hsz1 hW hW1 hb1 hb2 hbW hnp hnw
  cases q1 with
  | true =>
    go_enter Tryz.func36, Tryz.ntmps36
    go_wp2_with fail
    rw [← HW.out]
    (with_reducible refine HL1.out.mono ?_); rintro e w1 ⟨rfl, hw⟩; subst hw
    go_wp2
    go_ret
    exact ⟨rfl, HBW.out⟩
  | false =>
    cases q2 with
    | true =>
      go_enter Tryz.func36, Tryz.ntmps36
      go_wp2_with fail
      rw [← HW.out]
      (with_reducible refine HL1.out.mono ?_); rintro e w1 ⟨rfl, hw⟩; subst hw
      go_wp2_with fail
      (with_reducible refine HL2.out.mono ?_); rintro e w2 ⟨rfl, hw⟩; subst hw
      go_wp2
      go_ret
      exact ⟨rfl, HBW.out⟩
    | false =>
      cases q3 with
      | true =>
        go_enter Tryz.func36, Tryz.ntmps36
        go_wp2_with fail
        rw [← HW.out]
        (with_reducible refine HL1.out.mono ?_); rintro e w1 ⟨rfl, hw⟩; subst hw
        go_wp2_with fail
        (with_reducible refine HL2.out.mono ?_); rintro e w2 ⟨rfl, hw⟩; subst hw
        go_wp2_with fail
        (with_reducible refine HL3.out.mono ?_); rintro e w3 ⟨rfl, hw⟩; subst hw
        go_wp2
        go_ret
        exact ⟨rfl, HBW.out⟩
      | false =>
        go_enter Tryz.func36, Tryz.ntmps36
        go_wp2_with fail
        rw [← HW.out]
        (with_reducible refine HL1.out.mono ?_); rintro e w1 ⟨rfl, hw⟩; subst hw
        go_wp2_with fail
        (with_reducible refine HL2.out.mono ?_); rintro e w2 ⟨rfl, hw⟩; subst hw
        go_wp2_with fail
        (with_reducible refine HL3.out.mono ?_); rintro e w3 ⟨rfl, hw⟩; subst hw
        go_wp2
        go_ret
        refine ⟨?_, HBW.out⟩
        simp <;> omega
set_option maxRecDepth 100000 in
set_option maxHeartbeats 8000000 in
theorem listChanges_fn (sl sf st sv : Str) (path wl : List Str) (pv wv : Value) (w : World) (hml : ML w) (hp : StrsAt w pv path) (hw : StrsAt w wv wl) (hnw : ∀ n c, wv = .slice none n c → c = 0)
    (hbl : sl.length ≤ 2000000) (hbf : sf.length ≤ 2000000) (hbt : st.length ≤ 2000000) (hbv : sv.length ≤ 2000000) (hbp : sumS path ≤ 10000000) (hbw : sumS wl ≤ 10000000) :
    Calls Tryz.prog 6 #[.agg #[.string ⟨sl.toArray⟩, .string ⟨sf.toArray⟩, .string ⟨st.toArray⟩, pv, wv, .string ⟨sv.toArray⟩]] w fun e w' => e = .returned (.bool true) ∧ Below w.heap.size w w' := by
  have hp0 := hp
  have hw0 := hw
  obtain ⟨ap, cp, rfl, hcp, _⟩ := hp
  obtain ⟨aw, cw, rfl, hcw, _⟩ := hw
  obtain ⟨W, hW⟩ : ∃ W, W = w.alloc (.cells #[.string ⟨sl.toArray⟩, .string ⟨sf.toArray⟩, .string ⟨st.toArray⟩, .slice ap path.length cp, .slice aw wl.length cw, .string ⟨sv.toArray⟩] 45) := ⟨_, rfl⟩
  have hbW : Below w.heap.size w W := by rw [hW]; exact belowA _ _
  have hg1 : W.heap[w.heap.size]? = some (.cells #[.string ⟨sl.toArray⟩, .string ⟨sf.toArray⟩, .string ⟨st.toArray⟩, .slice ap path.length cp, .slice aw wl.length cw, .string ⟨sv.toArray⟩] 45 (0, 0)) := by rw [hW]; exact heap_alloc_new _ _
  have hKP : ∀ u, Below W.heap.size W u → u.cell? ⟨w.heap.size, 0, none⟩ = some (.string ⟨sl.toArray⟩) ∧ u.cell? ⟨w.heap.size, 1, none⟩ = some (.string ⟨sf.toArray⟩) ∧ u.cell? ⟨w.heap.size, 2, none⟩ = some (.string ⟨st.toArray⟩) ∧ u.cell? ⟨w.heap.size, 3, none⟩ = some (.slice ap path.length cp) ∧ u.cell? ⟨w.heap.size, 4, none⟩ = some (.slice aw wl.length cw) ∧ u.cell? ⟨w.heap.size, 5, none⟩ = some (.string ⟨sv.toArray⟩) := by
    intro u hu
    have hg : u.heap[w.heap.size]? = some (.cells #[.string ⟨sl.toArray⟩, .string ⟨sf.toArray⟩, .string ⟨st.toArray⟩, .slice ap path.length cp, .slice aw wl.length cw, .string ⟨sv.toArray⟩] 45 (0, 0)) := (hu.block _ (Array.getElem?_eq_some_iff.1 hg1).1).trans hg1
    refine ⟨?_, ?_, ?_, ?_, ?_, ?_⟩ <;> (rw [Lib.cell_of_heap hg]; rfl)
  have KP := hid hKP
  have HW := hid hW
  have HBW := hid hbW
  have hwz := hbW.size
  have HM := hid (show ∀ u, Below W.heap.size W u → ML u from fun u h => hml.below (hbW.trans (h.mono hwz)))
  have HPA := hid (show ∀ u, Below W.heap.size W u → StrsAt u (.slice ap path.length cp) path from fun u h => hp0.below (hbW.trans (h.mono hwz)))
  have HWA := hid (show ∀ u, Below W.heap.size W u → StrsAt u (.slice aw wl.length cw) wl from fun u h => hw0.below (hbW.trans (h.mono hwz)))
  have AW := fun u (h : Below W.heap.size W u) => hid (awakeL_fn u (HM.out u h))
  have HLI := hid (light_fn sl sf st sv path wl ap aw cp cw W (HPA.out W (Below.refl _ _)) (HWA.out W (Below.refl _ _)) (by simp [sumS]; omega) hbp hbw)
  have HAGG := hid (show True from trivial)
  have hld : W.heap[w.heap.size]? = some (.cells #[.string ⟨sl.toArray⟩, .string ⟨sf.toArray⟩, .string ⟨st.toArray⟩, .slice ap path.length cp, .slice aw wl.length cw, .string ⟨sv.toArray⟩] 45 (0, 0)) := hg1
  cases hli : lightB sl sf st sv path wl with
  | false =>
    rw [hli] at HLI
    generalize path.length = np at HLI HW hld hcp ⊢
    generalize wl.length = nw at HLI HW hld hcw ⊢
    clear hp0 hw0 hbW hg1 hKP hW hml hnw hli
    go_enter Tryz.func6, Tryz.ntmps6
    go_wp2_with fail
    rw [← HW.out]
    (with_reducible refine HLI.out.mono ?_); rintro e w1 ⟨rfl, hb1⟩
    have HB1 := hid hb1
    have haw := AW w1 hb1
    clear hb1
    go_wp2_with fail
    (with_reducible refine haw.out.mono ?_); rintro e w2 ⟨rfl, hb2⟩
    have HB2 := hid (HBW.out.trans ((HB1.out.trans (hb2.mono HB1.out.size)).mono hwz))
    clear hb2
    go_wp2
    go_ret
    exact ⟨rfl, HB2.out⟩
  | true =>
    rw [hli] at HLI
    rw [lightB, Bool.and_eq_true, Bool.and_eq_true, Bool.and_eq_true, Bool.not_eq_true', Bool.not_eq_true', Bool.not_eq_true'] at hli
    obtain ⟨⟨⟨l1, l2⟩, l3⟩, l4⟩ := hli
    rw [longB, decide_eq_false_iff_not] at l1 l2 l3
    simp only [sumS] at l1
    have hpl := sumS_len path
    have hwl := sumS_len wl
    have hpx : ∀ x ∈ path, x.length ≤ 1000000 := fun x hx => by have := sumS_mem path x hx; omega
    have hwx : ∀ x ∈ wl, x.length ≤ 1000000 := fun x hx => by have := sumS_mem wl x hx; omega
    have HI1 := hid (fun u (h : Below W.heap.size W u) => indexL_fn sl path _ u (HPA.out u h) (by omega) hpx (by omega))
    have HI2 := hid (fun u (h : Below W.heap.size W u) => indexR_fn sl path _ u (HPA.out u h) (by omega) hpx (by omega))
    generalize indexE sl path = a1 at HI1 HI2
    obtain ⟨a11, a12⟩ := a1
    have HS1 := hid (fun u (h : Below W.heap.size W u) => setP_fn path sl sv _ u (HM.out u h) (HPA.out u h) (by omega) hpx (by omega))
    have HS2 := hid (fun u (h : Below W.heap.size W u) => setR_fn path sl sv _ u (HPA.out u h) (by omega) hpx (by omega) (by omega))
    generalize setE path sl sv = a2 at HS1 HS2
    obtain ⟨a21, a22⟩ := a2
    have HR1 := hid (fun u (h : Below W.heap.size W u) => rangeP_fn sl sf st u (HM.out u h) (by omega) (by omega) (by omega))
    have HR2 := hid (fun u (_ : Below W.heap.size W u) => rangeR_fn sl sf st (by omega) (by omega) (by omega) u)
    generalize rangeE sl sf st = a3 at HR1 HR2
    obtain ⟨a31, a32⟩ := a3
    have HP1 := hid (fun u (h : Below W.heap.size W u) => replaceP_fn sl sf st wl _ u (HM.out u h) (by omega) (by omega) (by omega) (HWA.out u h) hnw (by omega))
    have HP2 := hid (fun u (h : Below W.heap.size W u) => replaceR_fn sl sf st wl _ u (by omega) (by omega) (by omega) (HWA.out u h) hnw (by omega) hwx)
    generalize replaceE sl sf st wl = a4 at HP1 HP2
    obtain ⟨a41, a42⟩ := a4
    have HN1 := hid (fun u (h : Below W.heap.size W u) => insertP_fn sl sf wl _ u (HM.out u h) (by omega) (by omega) (HWA.out u h) hnw (by omega))
    have HN2 := hid (fun u (h : Below W.heap.size W u) => insertR_fn sl sf wl _ u (by omega) (by omega) (HWA.out u h) hnw (by omega) hwx)
    generalize insertE sl sf wl = a5 at HN1 HN2
    obtain ⟨a51, a52⟩ := a5
    have HV1 := hid (fun u (h : Below W.heap.size W u) => reverseP_fn sl u (HM.out u h) (by omega))
    have HV2 := hid (fun u (_ : Below W.heap.size W u) => reverseR_fn sl (by omega) u)
    generalize reverseE sl = a6 at HV1 HV2
    obtain ⟨a61, a62⟩ := a6
    dsimp only at HI1 HI2 HS1 HS2 HR1 HR2 HP1 HP2 HN1 HN2 HV1 HV2
    generalize path.length = np at HLI HW hld hcp KP HI1 HI2 HS1 HS2 ⊢
    generalize wl.length = nw at HLI HW hld hcw KP HP1 HP2 HN1 HN2 ⊢
    clear hp0 hw0 hbW hg1 hKP hW hml hnw l1 l2 l3 l4 hpl hwl hpx hwx hbl hbf hbt hbv hbp hbw HPA HWA
    go_enter Tryz.func6, Tryz.ntmps6
    go_wp2_with fail
    rw [← HW.out]
    (with_reducible refine HLI.out.mono ?_); rintro e u0 ⟨rfl, hb⟩
    have HB0 := hid hb
    clear hb hld
    have h1 := HI1.out u0 HB0.out
    obtain ⟨k0, k1, k2, k3, k4, k5⟩ := KP.out u0 HB0.out
    go_wp2_with fail
    (with_reducible refine h1.mono ?_); rintro e u1 ⟨rfl, hb⟩
    have HB1 := hid (HB0.out.trans (hb.mono HB0.out.size))
    clear hb h1 k0 k1 k2 k3 k4 k5
    have h1 := HI2.out u1 HB1.out
    obtain ⟨k0, k1, k2, k3, k4, k5⟩ := KP.out u1 HB1.out
    go_wp2_with fail
    (with_reducible refine h1.mono ?_); rintro e u2 ⟨rfl, hb⟩
    have HB2 := hid (HB1.out.trans (hb.mono HB1.out.size))
    clear hb h1 k0 k1 k2 k3 k4 k5
    have h1 := HS1.out u2 HB2.out
    obtain ⟨k0, k1, k2, k3, k4, k5⟩ := KP.out u2 HB2.out
    go_wp2_with fail
    (with_reducible refine h1.mono ?_); rintro e u3 ⟨rfl, hb⟩
    have HB3 := hid (HB2.out.trans (hb.mono HB2.out.size))
    clear hb h1 k0 k1 k2 k3 k4 k5
    have h1 := HS2.out u3 HB3.out
    obtain ⟨k0, k1, k2, k3, k4, k5⟩ := KP.out u3 HB3.out
    go_wp2_with fail
    (with_reducible refine h1.mono ?_); rintro e u4 ⟨rfl, hb⟩
    have HB4 := hid (HB3.out.trans (hb.mono HB3.out.size))
    clear hb h1 k0 k1 k2 k3 k4 k5
    have h1 := HR1.out u4 HB4.out
    obtain ⟨k0, k1, k2, k3, k4, k5⟩ := KP.out u4 HB4.out
    go_wp2_with fail
    (with_reducible refine h1.mono ?_); rintro e u5 ⟨rfl, hb⟩
    have HB5 := hid (HB4.out.trans (hb.mono HB4.out.size))
    clear hb h1 k0 k1 k2 k3 k4 k5
    have h1 := HR2.out u5 HB5.out
    obtain ⟨k0, k1, k2, k3, k4, k5⟩ := KP.out u5 HB5.out
    go_wp2_with fail
    (with_reducible refine h1.mono ?_); rintro e u6 ⟨rfl, hb⟩
    have HB6 := hid (HB5.out.trans (hb.mono HB5.out.size))
    clear hb h1 k0 k1 k2 k3 k4 k5
    have h1 := HP1.out u6 HB6.out
    obtain ⟨k0, k1, k2, k3, k4, k5⟩ := KP.out u6 HB6.out
    go_wp2_with fail
    (with_reducible refine h1.mono ?_); rintro e u7 ⟨rfl, hb⟩
    have HB7 := hid (HB6.out.trans (hb.mono HB6.out.size))
    clear hb h1 k0 k1 k2 k3 k4 k5
    have h1 := HP2.out u7 HB7.out
    obtain ⟨k0, k1, k2, k3, k4, k5⟩ := KP.out u7 HB7.out
    go_wp2_with fail
    (with_reducible refine h1.mono ?_); rintro e u8 ⟨rfl, hb⟩
    have HB8 := hid (HB7.out.trans (hb.mono HB7.out.size))
    clear hb h1 k0 k1 k2 k3 k4 k5
    have h1 := HN1.out u8 HB8.out
    obtain ⟨k0, k1, k2, k3, k4, k5⟩ := KP.out u8 HB8.out
    go_wp2_with fail
    (with_reducible refine h1.mono ?_); rintro e u9 ⟨rfl, hb⟩
    have HB9 := hid (HB8.out.trans (hb.mono HB8.out.size))
    clear hb h1 k0 k1 k2 k3 k4 k5
    have h1 := HN2.out u9 HB9.out
    obtain ⟨k0, k1, k2, k3, k4, k5⟩ := KP.out u9 HB9.out
    go_wp2_with fail
    (with_reducible refine h1.mono ?_); rintro e u10 ⟨rfl, hb⟩
    have HB10 := hid (HB9.out.trans (hb.mono HB9.out.size))
    clear hb h1 k0 k1 k2 k3 k4 k5
    have h1 := HV1.out u10 HB10.out
    obtain ⟨k0, k1, k2, k3, k4, k5⟩ := KP.out u10 HB10.out
    go_wp2_with fail
    (with_reducible refine h1.mono ?_); rintro e u11 ⟨rfl, hb⟩
    have HB11 := hid (HB10.out.trans (hb.mono HB10.out.size))
    clear hb h1 k0 k1 k2 k3 k4 k5
    have h1 := HV2.out u11 HB11.out
    obtain ⟨k0, k1, k2, k3, k4, k5⟩ := KP.out u11 HB11.out
    go_wp2_with fail
    (with_reducible refine h1.mono ?_); rintro e u12 ⟨rfl, hb⟩
    have HB12 := hid (HB11.out.trans (hb.mono HB11.out.size))
    clear hb h1 k0 k1 k2 k3 k4 k5
    have h1 := AW u12 HB12.out
    go_wp2_with fail
    (with_reducible refine h1.out.mono ?_); rintro e u13 ⟨rfl, hb⟩
    have HBZ := hid (HBW.out.trans ((HB12.out.trans (hb.mono HB12.out.size)).mono hwz))
    clear hb h1
    go_wp2
    go_ret
    exact ⟨rfl, HBZ.out⟩
end Go.Proofs.YtheiageokcgbhaaGreatDoor.Pz
/-
  Arguments opened: a change.
-/
namespace Go.Proofs.YtheiageokcgbhaaGreatDoor.Opn
open Go.ChangeMaps Go.ChangeShapes Go.WideShapes Go.ChangeAt Go.RowKit
section
variable {P : Program} {H : Type} {enc : TypeId × Value → H} {W : World}
/-- a row of texts in a field -/
theorem strs_field {ts tl : TypeId} (hl : P.underlying tl = some (.slice ts)) (hs : P.underlying ts = some .string) (hcs : P.cellsOf ts = 1) {m : Nat} {c : Value} {x : DataW H × List MemPlace}
    (h : DataW.trod enc P W 0 (fun _ => true) true m tl [c] = some x) (hlt : ∀ q ∈ x.2, q.block < W.heap.size) : ∃ l, Pz.StrsAt W c l ∧ Pz.sumS l ≤ Rows.uptoBulk x.1 ∧ ∀ n k, c = .slice none n k → k = 0 := by
  rcases open_strings hl hs hcs h with ⟨hc, hx⟩ | ⟨a, len, cap, ss, hc, _, hle, hm, hz, hx, hcell, hws⟩
  · simp only [List.cons.injEq, and_true] at hc
    subst hc
    refine ⟨[], ⟨none, 0, rfl, Nat.le_refl _, fun i hi => absurd hi (Nat.not_lt_zero _)⟩, Nat.zero_le _, fun n k e => ?_⟩
    simp only [Value.slice.injEq, true_and] at e
    exact e.2.symm
  · simp only [List.cons.injEq, and_true] at hc
    subst hc
    subst hx
    simp only [if_true] at hz
    have hln : ((ss.take len).map (·.data.toList)).length = len := by rw [List.length_map, List.length_take]; omega
    refine ⟨(ss.take len).map (·.data.toList), ⟨some a, cap, by rw [hln], by rw [hln]; exact hle, fun i hi => ⟨a, rfl, ?_, ?_⟩⟩, ?_, fun n k e => by simp at e⟩
    · rw [hln] at hi
      exact blk_lt (n := ss.length) hlt (by omega) (hcell 0 (by omega))
    · rw [hcell i (by rw [hln] at hi; omega), getD_data ss len i hi]
    · simp only [Rows.uptoBulk]
      rw [bulk_strs, bulk_strs]
      omega
theorem opened_change {t ts tl : TypeId} {fs : Array Field} (ht : P.underlying t = some (.struct fs)) (hct : P.cellsOf t = 6)
    (hf0 : ∃ f, fs[0]? = some f ∧ f.type = ts ∧ f.offset = 0) (hf1 : ∃ f, fs[1]? = some f ∧ f.type = ts ∧ f.offset = 1) (hf2 : ∃ f, fs[2]? = some f ∧ f.type = ts ∧ f.offset = 2)
    (hf3 : ∃ f, fs[3]? = some f ∧ f.type = tl ∧ f.offset = 3) (hf4 : ∃ f, fs[4]? = some f ∧ f.type = tl ∧ f.offset = 4) (hf5 : ∃ f, fs[5]? = some f ∧ f.type = ts ∧ f.offset = 5) (hfn : fs.size = 6)
    (hs : P.underlying ts = some .string) (hcs : P.cellsOf ts = 1) (hl : P.underlying tl = some (.slice ts)) (hcl : P.cellsOf tl = 1)
    {r : Reach} {b0 : Nat} {v : Value} {d : DataW H} {p : List MemPlace} (hv : Value.okWide P W r b0 t v) (h : DataW.Trod enc P W 0 (fun _ => true) true t v d p) (hlt : ∀ x ∈ p, x.block < W.heap.size) :
    ∃ (s0 s1 s2 s5 : ByteArray) (lp lw : List Pz.Str) (vp vw : Value), v = .agg #[.string s0, .string s1, .string s2, vp, vw, .string s5] ∧ Pz.StrsAt W vp lp ∧ Pz.StrsAt W vw lw ∧ (∀ n c, vw = .slice none n c → c = 0) ∧
      s0.data.toList.length + s1.data.toList.length + s2.data.toList.length + s5.data.toList.length + Pz.sumS lp + Pz.sumS lw ≤ Rows.uptoBulk d := by
  obtain ⟨cs, rfl, hsz⟩ := okWide_struct ht hv
  obtain ⟨fuel, hf⟩ := h
  obtain ⟨xs, m, _, hx, _, hxl, hg⟩ := DataW.trod_struct ht hf
  rw [hct] at hsz
  rw [hfn] at hxl
  obtain ⟨k0, k1, k2, k3, k4, k5, rfl⟩ : ∃ k0 k1 k2 k3 k4 k5, cs = #[k0, k1, k2, k3, k4, k5] := by
    have hl6 : cs.toList.length = 6 := by rw [Array.length_toList]; exact hsz
    have hcs2 : cs = cs.toList.toArray := by simp
    generalize cs.toList = q at hl6 hcs2
    subst hcs2
    match q, hl6 with
    | [k0, k1, k2, k3, k4, k5], _ => exact ⟨_, _, _, _, _, _, rfl⟩
  obtain ⟨x0, x1, x2, x3, x4, x5, rfl⟩ : ∃ k0 k1 k2 k3 k4 k5, xs = [k0, k1, k2, k3, k4, k5] := by
    match xs, hxl with
    | [k0, k1, k2, k3, k4, k5], _ => exact ⟨_, _, _, _, _, _, rfl⟩
  obtain ⟨f0, g0, rfl, o0⟩ := hf0
  obtain ⟨f1, g1, t1, o1⟩ := hf1
  obtain ⟨f2, g2, t2, o2⟩ := hf2
  obtain ⟨f3, g3, rfl, o3⟩ := hf3
  obtain ⟨f4, g4, t4, o4⟩ := hf4
  obtain ⟨f5, g5, t5, o5⟩ := hf5
  have e0 := hg 0 f0 g0
  have e1 := hg 1 f1 g1
  have e2 := hg 2 f2 g2
  have e3 := hg 3 f3 g3
  have e4 := hg 4 f4 g4
  have e5 := hg 5 f5 g5
  rw [o0, hcs] at e0
  rw [t1, o1, hcs] at e1
  rw [t2, o2, hcs] at e2
  rw [o3, hcl] at e3
  rw [t4, o4, hcl] at e4
  rw [t5, o5, hcs] at e5
  simp only [Value.cells, List.drop_zero, List.drop_succ_cons, List.take_succ_cons, List.take_zero, List.getElem?_cons_zero, List.getElem?_cons_succ] at e0 e1 e2 e3 e4 e5
  obtain ⟨z0, q0, r0, _⟩ := DataW.trod_string hs e0
  obtain ⟨z1, q1, r1, _⟩ := DataW.trod_string hs e1
  obtain ⟨z2, q2, r2, _⟩ := DataW.trod_string hs e2
  obtain ⟨z5, q5, r5, _⟩ := DataW.trod_string hs e5
  simp only [List.cons.injEq, and_true] at q0 q1 q2 q5
  subst q0 q1 q2 q5
  simp only [Prod.mk.injEq] at hx
  obtain ⟨rfl, rfl⟩ := hx
  obtain ⟨lp, hp, hpb, _⟩ := strs_field hl hs hcs e3 (fun q hq => hlt q (by simp [hq]))
  obtain ⟨lw, hw, hwb, hwn⟩ := strs_field hl hs hcs e4 (fun q hq => hlt q (by simp [hq]))
  refine ⟨z0, z1, z2, z5, lp, lw, k3, k4, rfl, hp, hw, hwn, ?_⟩
  rw [r0, r1, r2, r5]
  simp only [List.map_cons, List.map_nil, Rows.uptoBulk, Rows.uptoBulkAll]
  omega
end
end Go.Proofs.YtheiageokcgbhaaGreatDoor.Opn
/-
  ListChanges: the row and its card (the second form: arguments of bulk at most 1048576). Condition: the listed package-level variables hold what the row lists (the card ties them to the text).
-/
namespace Go.Proofs.YtheiageokcgbhaaGreatDoor.listChanges
open Go.ChangeMaps Go.ChangeShapes Go.WideShapes Go.ChangeAt Go.RowKit
theorem own : ownKnob Tryz.prog.godebug = none := by kernel_rfl
theorem ok_true {P : Program} {W' : World} {f : Func} {t : TypeId} (hr : f.resultTypes = #[t]) (ht : P.underlying t = some .bool) :
    ∀ (j : Nat) (t' : TypeId) (r : Value), f.resultTypes[j]? = some t' → ((Value.bool true).resultList f.resultTypes.size)[j]? = some r → Value.okWide P W' .any 0 t' r := ok_one hr rfl (okWide_bool_mk ht true)
section
variable {H : Type} {enc : TypeId × Value → H}
/-- the row's last step: the arguments' places read as they did, no variable is asked, what lay below is as it was -/
theorem post_rows {f : Func} {s : ChangeSpec} {W W' : World} {args : Array Value} {v : Value} {ds gs : List (DataW H)} {before pa : List MemPlace}
    (hW : DataW.Whole enc Tryz.prog f.params.toList s.vars false W args.toList ds gs before)
    (hres : ∀ (b : Nat) (sp : Nat → Bool) (hd : Bool), DataW.TrodAll enc Tryz.prog W' b sp hd f.resultTypes.toList (v.resultList f.resultTypes.size) (s.fn H (ds ++ gs)).results [])
    (hargs : DataW.TrodAll enc Tryz.prog W' 0 (fun b => decide (b < W.heap.size)) true f.params.toList args.toList (s.fn H (ds ++ gs)).args pa)
    (hvars : ∀ sp : Nat → Bool, DataW.TrodVars enc Tryz.prog W' sp s.vars (s.fn H (ds ++ gs)).vars []) (hb : Below W.heap.size W W') :
    s.post enc Tryz.prog f false true false false W args v W' :=
  ⟨ds, gs, before, [], pa, [], hW, hres _ _ _, hargs, hvars _, hb.frame _, fun h => by cases h⟩
theorem laidOut : laidOutB Tryz.prog = true := by kernel_rfl
end
theorem contract (H : Type) (enc : TypeId × Value → H) (W : World) (base : Nat) (args : Array Value) (ds gs : List (DataW H)) (before : List MemPlace)
    (hval : ∀ (j : Nat) t v, Tryz.f6.params[j]? = some t → args[j]? = some v → Value.okWide Tryz.prog W .any base t v)
    (hW : DataW.Whole enc Tryz.prog Tryz.f6.params.toList Rows.listChangesSpec.vars false W args.toList ds gs before) (hk : Rows.uptoSmall H (ds ++ gs) = true) (hml : Pz.ML W) :
    Calls Tryz.prog 6 args W fun e W' => ∃ v, e = .returned v ∧ Rows.listChangesSpec.post enc Tryz.prog Tryz.f6 false true false false W args v W' := by
  have hW' := hW
  obtain ⟨p, q, hA0, hV, rfl, hfz, hnd⟩ := hW
  have hA : DataW.TrodAll enc Tryz.prog W 0 (fun _ => true) true Tryz.f6.params.toList args.toList ds p := hA0
  rw [Tryz.params6] at hA hval
  obtain ⟨v0, vs0, d0, ds0, p0, q0, hargs, rfl, rfl, h0, r0⟩ := trodAll_cons hA
  obtain ⟨rfl, rfl, rfl⟩ := trodAll_nil r0
  obtain rfl : args = #[v0] := by cases args; simp_all
  obtain ⟨rfl, rfl⟩ := trodVars_none hV
  clear hA0
  simp only [List.append_nil] at hW' hk
  have hlt0 : ∀ x ∈ p0, x.block < W.heap.size := fun x hx => by simpa using hW'.lt x (by simp [hx])
  obtain ⟨sa, sb, sc, sd, lp, lw, vp, vw, rfl, hlp, hlw, hnw, hbc⟩ := Opn.opened_change (P := Tryz.prog) Tryz.underlying45 (by kernel_rfl) ⟨_, rfl, rfl, rfl⟩ ⟨_, rfl, rfl, rfl⟩ ⟨_, rfl, rfl, rfl⟩ ⟨_, rfl, rfl, rfl⟩ ⟨_, rfl, rfl, rfl⟩ ⟨_, rfl, rfl, rfl⟩ rfl Tryz.underlying9 (by kernel_rfl) Tryz.underlying24 (by kernel_rfl) (by with_reducible exact hval 0 45 v0 (by simp) (by simp)) h0 hlt0
  have esa : sa = ⟨sa.data.toList.toArray⟩ := by cases sa; simp
  have esb : sb = ⟨sb.data.toList.toArray⟩ := by cases sb; simp
  have esc : sc = ⟨sc.data.toList.toArray⟩ := by cases sc; simp
  have esd : sd = ⟨sd.data.toList.toArray⟩ := by cases sd; simp
  have hk := of_decide_eq_true hk
  simp only [Rows.uptoBulkAll] at hk
  have walk := Pz.listChanges_fn sa.data.toList sb.data.toList sc.data.toList sd.data.toList lp lw vp vw W hml hlp hlw hnw (by omega) (by omega) (by omega) (by omega) (by omega) (by omega)
  rw [← esa, ← esb, ← esc, ← esd] at walk
  refine walk.mono fun e W' ⟨he, hg⟩ => ?_
  subst he
  exact ⟨_, rfl, post_rows hW' (fun _ _ _ => trodAll_cons_mk (shut_bool Tryz.underlying4 _) trodAll_mk0) (trodAll_cons_mk (Below.trod laidOut (by kernel_rfl) (of_decide_eq_true (by kernel_rfl)) h0 hg hlt0) (trodAll_mk0)) (fun _ => rfl) hg⟩
theorem reads (os : Os) {H : Type} (enc : TypeId × Value → H) : ∃ places, DataW.whole enc Tryz.prog ((World.laidAll Tryz.prog os Rows.listChangesUptoRow.laid).forCall (fun _ _ => 0) ⟨#[], #[.agg #[.string .empty, .string .empty, .string .empty, .slice none 0 0, .slice none 0 0, .string .empty]], []⟩).memory Tryz.f6.params.toList Rows.listChangesSpec.vars false (#[.agg #[.string .empty, .string .empty, .string .empty, .slice none 0 0, .slice none 0 0, .string .empty]] : Array Value).toList 8 = some ([.agg [.lit (.string []), .lit (.string []), .lit (.string []), .nil, .nil, .lit (.string [])]], [], places) :=
  ⟨[], by kernel_rfl⟩
set_option maxRecDepth 100000 in
theorem lifted (os : Os) (started : os.Started) (H : Type) (enc : TypeId × Value → H) (F : Stop.Interp) :
    ReturnsInHanded {} Tryz.checked os 6 .any ((Rows.OpenSpec.upto Rows.listChangesSpec).preRow enc Tryz.prog Tryz.f6 Rows.listChangesUptoRow.domain false Rows.listChangesUptoRow.laid) (((Rows.OpenSpec.upto Rows.listChangesSpec).at F).post enc Tryz.prog Tryz.f6 false true false false) := by
  obtain ⟨places, hx⟩ := reads os enc
  have hl : laidMetH Tryz.prog Rows.listChangesUptoRow.laid ((World.laidAll Tryz.prog os Rows.listChangesUptoRow.laid).forCall (fun _ _ => 0) ⟨#[], #[.agg #[.string .empty, .string .empty, .string .empty, .slice none 0 0, .slice none 0 0, .string .empty]], []⟩).memory := by
    rw [MakeChecks.laidMetH_plain _ _ _ (by kernel_rfl)]
    exact laidMet_laidAll _ (by kernel_rfl) (by kernel_rfl)
  refine returnsInHanded_of_row (C := Tryz.checked) (s := (Rows.OpenSpec.upto Rows.listChangesSpec)) own started (by kernel_rfl) Tryz.func6
    (witness_row_at (enc := enc) (C := Tryz.checked) false (World.laidAll Tryz.prog os Rows.listChangesUptoRow.laid) #[.agg #[.string .empty, .string .empty, .string .empty, .slice none 0 0, .slice none 0 0, .string .empty]] (World.laidAll_os _ _ _) (by kernel_rfl) (by kernel_rfl) (by kernel_rfl)
      (OpenSpec.preRow_of_cond 8 hx (by kernel_rfl) (fun k hk => by cases hk; kernel_rfl) (by kernel_rfl) hl)) ?_
  intro W base args ds gs before hval hW _ hcond _ _ hsh _
  exact contract H enc W base args ds gs before hval hW (hcond _ rfl) (cell_of_shapedOpen_int (t := 3) (zero := #[.int .i64 0]) hsh (of_decide_eq_true (by kernel_rfl)) (by kernel_rfl) rfl (by kernel_rfl) (by kernel_rfl) Tryz.underlying3)
theorem said : Rows.ListChangesUptoSaid :=
  OpenClaim.holds_of_cond 6 Tryz.f6 rfl rfl rfl rfl rfl rfl rfl ⟨rfl, rfl, rfl, rfl, rfl⟩ rfl rfl rfl rfl rfl (by kernel_rfl) Tryz.func6 (by kernel_rfl)
    (of_decide_eq_true (by kernel_rfl)) (by unfold Func.isWrapper; first | (rw [if_pos (by decide +kernel)]; kernel_rfl) | (rw [if_neg (by decide +kernel)]; exact ⟨rfl, rfl⟩))
    (fun os started H enc _ F => by rw [OpenClaim.pre_eq_preRow]; exact lifted os started H enc F)
theorem plain (f : FuncId) (fn : Func) (hf : Tryz.pinned.checked.prog.funcNamed "threadbare/threadbarelaw02.ListChanges" = some f) (hfn : Tryz.pinned.checked.prog.funcs[f]? = some fn) :
    true = Tryz.pinned.checked.prog.looks [] ∧ ∀ (j : Nat) t, fn.params[j]? = some t → Tryz.pinned.checked.prog.wantsStandIn t = false := by
  obtain rfl : f = 6 := Option.some.inj ((show Tryz.prog.funcNamed "threadbare/threadbarelaw02.ListChanges" = some 6 by kernel_rfl).symm.trans hf) |>.symm
  obtain rfl : fn = Tryz.f6 := (Option.some.inj (Tryz.func6.symm.trans hfn)).symm
  refine ⟨by kernel_rfl, fun j t ht => ?_⟩
  rw [Tryz.params6] at ht
  have ht := Array.mem_of_getElem? ht
  simp at ht
  subst ht
  exact (show Tryz.prog.wantsStandIn 45 = false by kernel_rfl)
theorem card : Rows.ListChangesUptoCardSaid :=
  Claim7.holds_tied_plain_at .later [] _ _ _ _ said (fun _ h => by cases h) (by kernel_rfl) (fun _ h => by cases h) listChangesUpto_row_tie rfl ⟨rfl, rfl⟩ (by kernel_rfl) rfl plain (by kernel_rfl)
end Go.Proofs.YtheiageokcgbhaaGreatDoor.listChanges
