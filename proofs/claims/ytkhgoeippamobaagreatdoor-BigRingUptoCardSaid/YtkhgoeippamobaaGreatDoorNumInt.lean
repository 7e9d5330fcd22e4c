/-
  Sums and products, said of integers.
-/
import Derived.Test.YtkhgoeippamobaaGreatDoorNumTimes
namespace Go.Proofs.YtkhgoeippamobaaGreatDoor
open Go.RowKit
theorem IntV.shape {w : World} {v : Value} {z : Int} (h : IntV w v z) : ∃ a cap, v = .agg #[.slice a (nlen z.natAbs) cap, .bool (decide (z < 0)), .bool false] ∧ NatRep w (.slice a (nlen z.natAbs) cap) z.natAbs := by
  obtain ⟨s, rfl, h⟩ := h
  obtain ⟨a, cap, rfl⟩ := h.shape
  exact ⟨a, cap, rfl, h⟩
theorem IntV.mk {w : World} {s : Value} {z : Int} {n : Nat} {b : Bool} (h : NatRep w s n) (hn : n = z.natAbs) (hb : b = decide (z < 0)) : IntV w (.agg #[s, .bool b, .bool false]) z := by
  subst hn; subst hb; exact ⟨s, rfl, h⟩
theorem OwnInt.mk {w : World} {base : Nat} {s : Value} {z : Int} {n : Nat} {b : Bool} (h : Own .u32 75 w base s (nlen n) (D n)) (hn : n = z.natAbs) (hb : b = decide (z < 0)) : OwnInt w base (.agg #[s, .bool b, .bool false]) z := by
  subst hn; subst hb; exact ⟨s, rfl, h⟩
theorem FreshNum.int {n : Nat} {neg : Bool} {z : Int} {w : World} {e : Ending} {w' : World} (h : FreshNum n neg w e w') (hn : n = z.natAbs) (hb : (neg && decide (0 < n)) = decide (z < 0)) : FreshInt z w e w' := by
  obtain ⟨s, rfl, hr, hbl⟩ := h
  exact ⟨_, rfl, OwnInt.mk hr hn hb, hbl⟩
theorem plusN_int {v u : Value} {a b : Int} {w : World} (hv : IntV w v a) (hu : IntV w u b) (hla : nlen a.natAbs ≤ 1000000) (hlb : nlen b.natAbs ≤ 1000000) : Calls Tryz.prog 56 #[v, u] w (FreshInt (a + b) w) := by
  obtain ⟨a1, c1, rfl, hs⟩ := hv.shape
  obtain ⟨a2, c2, rfl, ht⟩ := hu.shape
  by_cases hsg : (decide (a < 0) == decide (b < 0)) = true
  · refine (plus_same hs ht hla hlb _ _ hsg).mono fun e w' h => h.int ?_ ?_
    · have : (a < 0) ↔ (b < 0) := by simpa using hsg
      omega
    · have : (a < 0) ↔ (b < 0) := by simpa using hsg
      by_cases ha : a < 0
      · have hb := this.1 ha
        rw [decide_eq_true ha, decide_eq_true (show a + b < 0 by omega)]
        simp; omega
      · have hb : ¬ b < 0 := fun hh => ha (this.2 hh)
        rw [decide_eq_false ha, decide_eq_false (show ¬ a + b < 0 by omega)]
        rfl
  · have hsg' : (decide (a < 0) == decide (b < 0)) = false := by simpa using hsg
    have hne : ¬ ((a < 0) ↔ (b < 0)) := by simpa using hsg
    by_cases hc : b.natAbs ≤ a.natAbs
    · refine (plus_big hs ht hla hlb _ _ hc hsg').mono fun e w' h => h.int (by omega) ?_
      by_cases ha : a < 0
      · rw [decide_eq_true ha]
        by_cases h0 : a + b < 0
        · rw [decide_eq_true h0, decide_eq_true (by omega)]; rfl
        · rw [decide_eq_false h0, decide_eq_false (by omega)]; rfl
      · rw [decide_eq_false ha, decide_eq_false (show ¬ a + b < 0 by omega)]
        rfl
    · refine (plus_less hs ht hla hlb _ _ (by omega) hsg').mono fun e w' h => h.int (by omega) ?_
      by_cases hb : b < 0
      · rw [decide_eq_true hb]
        by_cases h0 : a + b < 0
        · rw [decide_eq_true h0, decide_eq_true (by omega)]; rfl
        · rw [decide_eq_false h0, decide_eq_false (by omega)]; rfl
      · rw [decide_eq_false hb, decide_eq_false (show ¬ a + b < 0 by omega)]
        rfl
theorem timesN_int {v u : Value} {a b : Int} {w : World} (hv : IntV w v a) (hu : IntV w u b) (hla : nlen a.natAbs ≤ 1000000) (hlb : nlen b.natAbs ≤ 1000000) : Calls Tryz.prog 62 #[v, u] w (FreshInt (a * b) w) := by
  obtain ⟨a1, c1, rfl, hs⟩ := hv.shape
  obtain ⟨a2, c2, rfl, ht⟩ := hu.shape
  refine (timesN hs ht hla hlb _ _).mono fun e w' h => h.int (Int.natAbs_mul a b).symm ?_
  rw [← Int.natAbs_mul]
  by_cases h0 : a * b < 0
  · have e2 : decide (0 < (a * b).natAbs) = true := decide_eq_true (by omega)
    rw [decide_eq_true h0, e2]
    have e : (decide (a < 0) == decide (b < 0)) = false := by
      by_cases ha : a < 0
      · by_cases hb : b < 0
        · have := Int.mul_pos_of_neg_of_neg ha hb
          omega
        · rw [decide_eq_true ha, decide_eq_false hb]; rfl
      · by_cases hb : b < 0
        · rw [decide_eq_false ha, decide_eq_true hb]; rfl
        · have h1 : 0 ≤ a := by omega
          have h2 : 0 ≤ b := by omega
          have := Int.mul_nonneg h1 h2
          omega
    rw [e]; rfl
  · rw [decide_eq_false h0]
    by_cases hz : a * b = 0
    · rw [hz]; simp
    · have hp : 0 < a * b := by omega
      have : (a < 0) ↔ (b < 0) := by
        constructor
        · intro ha
          apply Decidable.byContradiction
          intro hb
          have := Int.mul_nonpos_of_nonpos_of_nonneg (show a ≤ 0 by omega) (show 0 ≤ b by omega)
          omega
        · intro hb
          apply Decidable.byContradiction
          intro ha
          have := Int.mul_nonpos_of_nonneg_of_nonpos (show 0 ≤ a by omega) (show b ≤ 0 by omega)
          omega
      have e : (decide (a < 0) == decide (b < 0)) = true := by simpa using this
      rw [e]; rfl
end Go.Proofs.YtkhgoeippamobaaGreatDoor
