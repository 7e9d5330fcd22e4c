/-
  The operation Base.
-/
import Derived.Test.YtkhgoeippamobaaGreatDoorOps2
namespace Go.Proofs.YtkhgoeippamobaaGreatDoor
open Go.RowKit
theorem far_fn (B : Int) (w : World) : Calls Tryz.prog 122 #[.int .i64 B] w fun e w' => e = .returned (.bool (decide (B < 2) || decide (36 < B))) ∧ w' = w := by
  by_cases h1 : B < 2
  · have HE := hid (show (decide (B < 2) || decide (36 < B)) = true by rw [decide_eq_true h1]; rfl)
    go_enter Tryz.func122, Tryz.ntmps122
    go_wp2
    go_ret
    exact ⟨by rw [HE.out]; rfl, rfl⟩
  · have HE := hid (show (decide (B < 2) || decide (36 < B)) = decide (36 < B) by rw [decide_eq_false h1]; rfl)
    go_enter Tryz.func122, Tryz.ntmps122
    go_wp2
    go_ret
    exact ⟨by rw [HE.out]; rfl, rfl⟩
/-- what 'Base' answers -/
def baseRes (a : List UInt8) (B : Int) : List UInt8 × Int :=
  if pOK a = true then if B < 2 ∨ 36 < B then ([], 7) else if big600 ≤ (pVal a).natAbs then ([], 4) else (numText B.toNat (pVal a).natAbs (decide (pVal a < 0)), 0) else ([], 2)
set_option maxRecDepth 100000 in
set_option maxHeartbeats 2000000 in
theorem base_fn (a : List UInt8) (ha : a.length ≤ 1000000000) (B : Int) (w : World) :
    Calls Tryz.prog 53 #[.string ⟨a.toArray⟩, .int .i64 B] w fun e w' => e = .returned (.tuple #[.string ⟨(baseRes a B).1.toArray⟩, .int .i64 (baseRes a B).2]) ∧ Below w.heap.size w w' := by
  have hc := hid (parse_fn a ha w)
  have hf := fun w => hid (far_fn B w)
  unfold ParseP at hc
  cases hok : pOK a with
  | false =>
    have HR := hid (show baseRes a B = ([], 2) by unfold baseRes; rw [hok]; rfl)
    rw [hok] at hc
    clear hok
    go_enter Tryz.func53, Tryz.ntmps53
    go_wp2_with fail
    (with_reducible refine hc.out.mono ?_); rintro e w1 ⟨v, rfl, hb1, hv, x1, x2, x3, g, h, rfl⟩
    go_wp2
    go_ret2
    exact ⟨by rw [HR.out]; rfl, hb1.alloc hb1.size _⟩
  | true =>
    have HR := hid (show baseRes a B = if B < 2 ∨ 36 < B then ([], 7) else if big600 ≤ (pVal a).natAbs then ([], 4) else (numText B.toNat (pVal a).natAbs (decide (pVal a < 0)), 0) by unfold baseRes; rw [if_pos hok])
    rw [hok] at hc
    clear hok
    by_cases hfar : B < 2 ∨ 36 < B
    · have HR2 := hid (show baseRes a B = ([], 7) by rw [HR.out, if_pos hfar])
      have hfb : (decide (B < 2) || decide (36 < B)) = true := by simpa using hfar
      rw [hfb] at hf
      clear hfar hfb
      go_enter Tryz.func53, Tryz.ntmps53
      go_wp2_with fail
      (with_reducible refine hc.out.mono ?_); rintro e w1 ⟨v, rfl, hb1, hv, x1, x2, x3, g, h, rfl⟩
      go_wp2_with fail
      (with_reducible refine (hf _).out.mono ?_); rintro e w' ⟨rfl, rfl⟩
      go_wp2
      go_ret2
      exact ⟨by rw [HR2.out]; rfl, hb1.alloc hb1.size _⟩
    · have hfb : (decide (B < 2) || decide (36 < B)) = false := by simpa using hfar
      rw [hfb] at hf
      have HR2 := hid (show baseRes a B = if big600 ≤ (pVal a).natAbs then ([], 4) else (numText B.toNat (pVal a).natAbs (decide (pVal a < 0)), 0) by rw [HR.out, if_neg hfar])
      have hB2 : 2 ≤ B.toNat := by omega
      have hB36 : B.toNat ≤ 36 := by omega
      have hBB : (B.toNat : Int) = B := by omega
      clear hfar hfb
      go_enter Tryz.func53, Tryz.ntmps53
      go_wp2_with fail
      (with_reducible refine hc.out.mono ?_); rintro e w1 ⟨v, rfl, hb1, hv, x1, x2, x3, g, h, rfl⟩
      have hv' := (hv (by first | rfl | trivial)).num
      obtain ⟨a0, n0, c0, he⟩ := (hv (by first | rfl | trivial)).shape
      simp only [Value.agg.injEq, Array.mk.injEq, List.cons.injEq, Value.slice.injEq, Value.bool.injEq, and_true] at he
      obtain ⟨-, hg, hh⟩ := he
      have HH := hid hh
      clear hv a0 n0 c0 hg hh
      have hbA : Below w.heap.size w (w1.alloc (.cells #[.slice x1 x2 x3, .bool g, .bool h] 49)) := hb1.alloc hb1.size _
      have hvA := hv'.below ((Below.refl _ w1).alloc (Nat.le_refl _) (.cells #[.slice x1 x2 x3, .bool g, .bool h] 49))
      go_wp2_with fail
      (with_reducible refine (hf _).out.mono ?_); rintro e w' ⟨rfl, rfl⟩
      cases h with
      | true =>
        have hbig : big600 ≤ (pVal a).natAbs := of_decide_eq_true HH.out.symm
        have HR3 := hid (show baseRes a B = ([], 4) by rw [HR2.out, if_pos hbig])
        clear hbig
        go_wp2
        go_ret2
        exact ⟨by rw [HR3.out]; rfl, hbA⟩
      | false =>
        have hsm : ¬ big600 ≤ (pVal a).natAbs := of_decide_eq_false HH.out.symm
        have HR3 := hid (show baseRes a B = (numText B.toNat (pVal a).natAbs (decide (pVal a < 0)), 0) by rw [HR2.out, if_neg hsm])
        obtain ⟨hI, hn⟩ := hvA.int (by omega)
        have ht := text_num hI (by omega) B.toNat hB2 hB36
        rw [hBB] at ht
        have ht := hid ht
        clear hsm
        go_wp2_with fail
        (with_reducible refine ht.out.mono ?_); rintro e w2 ⟨rfl, hb2⟩
        go_wp2
        go_ret2
        exact ⟨by rw [HR3.out]; rfl, hbA.trans (hb2.mono hbA.size)⟩
end Go.Proofs.YtkhgoeippamobaaGreatDoor
