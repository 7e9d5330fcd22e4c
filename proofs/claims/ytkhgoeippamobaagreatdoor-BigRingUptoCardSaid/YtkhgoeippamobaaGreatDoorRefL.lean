/-
  The reference: Canonical, Valid. The laws' helpers: right, awake, long.
-/
import Derived.Test.YtkhgoeippamobaaGreatDoorRefK
import Derived.Test.YtkhgoeippamobaaGreatDoorOps3
namespace Go.Proofs.YtkhgoeippamobaaGreatDoor
open Go.RowKit
theorem resOf_big (z : Int) (h : big600 ≤ z.natAbs) : resOf z = ([], 4) := by unfold resOf; rw [if_neg (by omega)]
/-- too long ones may be cut -/
def Cut (z' z : Int) : Prop := z' = z ∨ (big600 ≤ z'.natAbs ∧ big600 ≤ z.natAbs ∧ decide (z' < 0) = decide (z < 0))
theorem Cut.res {z' z : Int} (h : Cut z' z) : resOf z' = resOf z := by
  rcases h with rfl | ⟨h1, h2, _⟩
  · rfl
  · rw [resOf_big _ h1, resOf_big _ h2]
theorem Cut.big {z' z : Int} (h : Cut z' z) : decide (big600 ≤ z'.natAbs) = decide (big600 ≤ z.natAbs) := by
  rcases h with rfl | ⟨h1, h2, _⟩
  · rfl
  · rw [decide_eq_true h1, decide_eq_true h2]
theorem Cut.small {z' z : Int} (h : Cut z' z) (hs : z.natAbs < big600) : z' = z := by
  rcases h with rfl | ⟨h1, h2, _⟩
  · rfl
  · omega
theorem canRes_eq (a : List UInt8) : canRes a = if pOK a = true then resOf (pVal a) else ([], 2) := by
  unfold canRes oneRes
  by_cases h : pOK a = true
  · rw [if_pos h, if_pos h, if_neg (by simp)]
    by_cases hb : big600 ≤ (pVal a).natAbs
    · rw [if_pos hb, resOf_big _ hb]
    · rw [if_neg hb]
  · rw [if_neg h, if_neg h]
set_option maxRecDepth 100000 in
set_option maxHeartbeats 4000000 in
theorem canR_fn (a : List UInt8) (ha : a.length ≤ 2000000) (w : World) :
    Calls Tryz.prog 17 #[.string ⟨a.toArray⟩] w fun e w' => e = .returned (.tuple #[.string ⟨(canRes a).1.toArray⟩, .int .i64 (canRes a).2]) ∧ Below w.heap.size w w' := by
  have hc := hid (number_fn a ha w)
  unfold NumP at hc
  cases hok : pOK a with
  | false =>
    have HR := hid (show canRes a = ([], 2) by rw [canRes_eq, hok]; rfl)
    rw [hok] at hc
    clear hok
    go_enter Tryz.func17, Tryz.ntmps17
    go_wp2_with fail
    (with_reducible refine hc.out.mono ?_); rintro e w1 ⟨v, rfl, hb1, hv, g, s, n, c, rfl⟩
    go_wp2
    go_ret2
    exact ⟨by rw [HR.out]; rfl, hb1.alloc hb1.size _⟩
  | true =>
    have HR := hid (show canRes a = resOf (pVal a) by rw [canRes_eq, hok]; rfl)
    rw [hok] at hc
    clear hok
    go_enter Tryz.func17, Tryz.ntmps17
    go_wp2_with fail
    (with_reducible refine hc.out.mono ?_); rintro e w1 ⟨v, rfl, hb1, hv, g, s, n, c, rfl⟩
    obtain ⟨z', hz, hdl, hcut⟩ := hv (by first | rfl | trivial)
    have HC := hid (Cut.res hcut)
    have hbA : Below w.heap.size w (w1.alloc (.cells #[.bool g, .slice s n c] 56)) := hb1.alloc hb1.size _
    have kA := Blk.new w1 #[.bool g, .slice s n c] 56
    have hD := hz.num.below ((Below.refl _ w1).alloc (Nat.le_refl _) (.cells #[.bool g, .slice s n c] 56))
    have HT := hid (told_fn hD (by omega) (Nums.nil _) (fun x h => by cases h) (by decide))
    rw [toldRes_nil, HC.out] at HT
    clear hcut hv
    have hsz1 := hb1.size
    go_wp2_with fail
    (with_reducible refine HT.out.mono ?_); rintro e w2 ⟨rfl, hb2⟩
    go_wp2
    go_ret2
    exact ⟨by rw [HR.out]; rfl, hbA.trans (hb2.mono hbA.size)⟩
theorem validR_fn (a : List UInt8) (ha : a.length ≤ 2000000) (w : World) :
    Calls Tryz.prog 19 #[.string ⟨a.toArray⟩] w fun e w' => e = .returned (.bool (validRes a)) ∧ Below w.heap.size w w' := by
  have hc := hid (canR_fn a ha w)
  unfold validRes
  generalize canRes a = r at hc ⊢
  obtain ⟨r1, r2⟩ := r
  have hc := hid hc.out
  go_enter Tryz.func19, Tryz.ntmps19
  go_wp2_with fail
  (with_reducible refine hc.out.mono ?_); rintro e w1 ⟨rfl, hb1⟩
  go_wp2
  go_ret
  exact ⟨rfl, hb1⟩
theorem awake_div : divVal [45, 55] [50] = .tuple #[.string ⟨#[45, 52]⟩, .string ⟨#[49]⟩, .int .i64 0] := by
  have h1 : quoRes [45, 55] [50] = ([45, 52], 0) := by decide +kernel
  have h2 : remRes [45, 55] [50] = ([49], 0) := by decide +kernel
  unfold divVal
  rw [h1, h2]
  rfl
theorem awake_base : baseRes [50, 53, 53] 16 = ([102, 102], 0) := by decide +kernel
theorem awake_fn (w : World) : Calls Tryz.prog 11 #[] w fun e w' => e = .returned (.bool true) ∧ Below w.heap.size w w' := by
  have h1 := hid (div_fn [45, 55] [50] (by decide) (by decide) w)
  rw [awake_div] at h1
  have h2 := fun w => hid (base_fn [50, 53, 53] (by decide) 16 w)
  rw [awake_base] at h2
  have h1 := hid h1.out
  go_enter Tryz.func11, Tryz.ntmps11
  go_wp2_with fail
  (with_reducible refine h1.out.mono ?_); rintro e w1 ⟨rfl, hb1⟩
  go_wp2_with fail
  (with_reducible refine (h2 _).out.mono ?_); rintro e w2 ⟨rfl, hb2⟩
  go_wp2
  go_ret
  exact ⟨rfl, hb1.trans (hb2.mono hb1.size)⟩
end Go.Proofs.YtkhgoeippamobaaGreatDoor
