/-
  Reading digits of a base.
-/
import Derived.Test.YtkhgoeippamobaaGreatDoorParse1
namespace Go.Proofs.YtkhgoeippamobaaGreatDoor
open Go.RowKit
/-- whether a text is digits of a base, at least one -/
def rOK (b : Nat) (l : List UInt8) : Bool := !l.isEmpty && l.all (fun c => decide (valOf c < b))
/-- the number that digits are, behind a number -/
def numFrom (b n : Nat) (l : List UInt8) : Nat := l.foldl (fun n c => n * b + valOf c) n
def numOf (b : Nat) (l : List UInt8) : Nat := numFrom b 0 l
/-- a number that was read: too long ones are known by their sign alone -/
def PNum (w : World) (v : Value) (z : Int) : Prop := ∃ n lg, NumV w v n (decide (z < 0)) lg ∧ (lg = false → n = z.natAbs) ∧ lg = decide (big600 ≤ z.natAbs) ∧ nlen n ≤ 1000
/-- the like, its size in new memory -/
def PNumO (w : World) (base : Nat) (v : Value) (z : Int) : Prop := ∃ s n lg, v = .agg #[s, .bool (decide (z < 0)), .bool lg] ∧ Own .u32 75 w base s (nlen n) (D n) ∧ (lg = false → n = z.natAbs) ∧ lg = decide (big600 ≤ z.natAbs) ∧ nlen n ≤ 1000
theorem PNumO.num {w : World} {base : Nat} {v : Value} {z : Int} (h : PNumO w base v z) : PNum w v z := by
  obtain ⟨s, n, lg, h0, h1, h2, h3, h4⟩ := h
  exact ⟨n, lg, ⟨s, h0, h1.nat⟩, h2, h3, h4⟩
theorem PNumO.mono {w : World} {base base' : Nat} {v : Value} {z : Int} (h : PNumO w base v z) (hb : base' ≤ base) : PNumO w base' v z := by
  obtain ⟨s, n, lg, h0, h1, h2, h3, h4⟩ := h
  exact ⟨s, n, lg, h0, h1.mono hb, h2, h3, h4⟩
theorem PNumO.set3 {w : World} {base b : Nat} {v : Value} {z : Int} (h : PNumO w base v z) (hb : b < base) (x y t : Value) : PNumO (((w.setCell ⟨b, 0, none⟩ x).setCell ⟨b, 1, none⟩ y).setCell ⟨b, 2, none⟩ t) base v z := by
  obtain ⟨s, n, lg, h0, h1, h2, h3, h4⟩ := h
  exact ⟨s, n, lg, h0, own_set3 h1 x y t hb, h2, h3, h4⟩
theorem PNum.below {w w' : World} {v : Value} {z : Int} (h : PNum w v z) (hb : Below w.heap.size w w') : PNum w' v z := by
  obtain ⟨n, lg, h1, h2, h3, h4⟩ := h
  exact ⟨n, lg, h1.below hb, h2, h3, h4⟩
theorem PNum.int {w : World} {v : Value} {z : Int} (h : PNum w v z) (hz : z.natAbs < big600) : IntV w v z ∧ nlen z.natAbs ≤ 1000 := by
  obtain ⟨n, lg, h1, h2, h3, h4⟩ := h
  have h5 : lg = false := by rw [h3]; exact decide_eq_false (by omega)
  have h6 := h2 h5
  subst h6
  rw [h5] at h1
  exact ⟨h1, h4⟩
theorem PNum.long {w : World} {v : Value} {z : Int} (h : PNum w v z) (hz : ¬ z.natAbs < big600) : ∃ n, NumV w v n (decide (z < 0)) true ∧ nlen n ≤ 1000 := by
  obtain ⟨n, lg, h1, h2, h3, h4⟩ := h
  have h5 : lg = true := by rw [h3]; exact decide_eq_true (by omega)
  rw [h5] at h1
  exact ⟨n, h1, h4⟩
theorem numFrom_ge (b : Nat) (hb : 2 ≤ b) (l : List UInt8) (n : Nat) : n * 2 ^ l.length ≤ numFrom b n l := by
  induction l generalizing n with
  | nil => simp [numFrom]
  | cons c l ih =>
    have h1 := ih (n * b + valOf c)
    have h2 : n * 2 ≤ n * b + valOf c := Nat.le_trans (Nat.mul_le_mul_left n hb) (Nat.le_add_right _ _)
    have h3 := Nat.mul_le_mul_right (2 ^ l.length) h2
    have e : n * 2 ^ (c :: l).length = n * 2 * 2 ^ l.length := by
      rw [List.length_cons, Nat.pow_succ, Nat.mul_assoc, Nat.mul_comm 2]
    rw [e]
    exact Nat.le_trans h3 h1
theorem numFrom_mono (b : Nat) (hb : 2 ≤ b) (l : List UInt8) (n : Nat) : n ≤ numFrom b n l := by
  have h1 := numFrom_ge b hb l n
  have h2 : n * 1 ≤ n * 2 ^ l.length := Nat.mul_le_mul_left n Nat.one_le_two_pow
  omega
theorem valOf_zero : valOf 48 = 0 := by decide
theorem numOf_trim (b : Nat) (l : List UInt8) : numOf b (l.dropWhile (· == 48)) = numOf b l := by
  induction l with
  | nil => rfl
  | cons c l ih =>
    by_cases h : c = 48
    · subst h
      rw [List.dropWhile_cons, if_pos (by simp), ih]
      simp [numOf, numFrom, valOf_zero]
    · rw [List.dropWhile_cons, if_neg (by simpa using h)]
theorem valOf_eq_zero (c : UInt8) (h : valOf c = 0) : c = 48 := by
  unfold valOf at h
  have h2 : c.toNat = 48 := by
    split at h
    · omega
    · split at h
      · omega
      · split at h <;> omega
  exact UInt8.toNat_inj.1 (by rw [h2]; rfl)
/-- a text without zeros ahead has a number as great as its length says -/
theorem numOf_long (b : Nat) (hb : 2 ≤ b) (l : List UInt8) : 2 ^ (l.dropWhile (· == 48)).length ≤ 2 * numOf b l ∨ l.dropWhile (· == 48) = [] := by
  rw [← numOf_trim]
  cases h : l.dropWhile (· == 48) with
  | nil => exact .inr rfl
  | cons c t =>
    left
    have hne : c ≠ 48 := by
      have := List.head?_dropWhile_not (fun x => x == 48) l
      rw [h] at this
      simpa using this
    have h1 : 1 ≤ valOf c := by
      rcases Nat.eq_zero_or_pos (valOf c) with h0 | h0
      · exact absurd (valOf_eq_zero c h0) hne
      · exact h0
    have h2 : numOf b (c :: t) = numFrom b (valOf c) t := by simp [numOf, numFrom]
    have h3 := numFrom_ge b hb t (valOf c)
    have h4 := Nat.mul_le_mul_right (2 ^ t.length) h1
    rw [h2, List.length_cons, Nat.pow_succ]
    omega
theorem numOf_take_succ (b : Nat) (l : List UInt8) (i : Nat) (h : i < l.length) : numOf b (l.take (i + 1)) = numOf b (l.take i) * b + valOf (l[i]'h) := by
  rw [List.take_add_one, List.getElem?_eq_getElem h]
  unfold numOf numFrom
  rw [List.foldl_append]
  rfl
theorem numOf_take_le (b : Nat) (hb : 2 ≤ b) (l : List UInt8) (i : Nat) : numOf b (l.take i) ≤ numOf b l := by
  have e : numOf b l = numFrom b (numOf b (l.take i)) (l.drop i) := by
    conv => lhs; rw [← List.take_append_drop i l]
    unfold numOf numFrom
    rw [List.foldl_append]
  rw [e]
  exact numFrom_mono b hb _ _
end Go.Proofs.YtkhgoeippamobaaGreatDoor
