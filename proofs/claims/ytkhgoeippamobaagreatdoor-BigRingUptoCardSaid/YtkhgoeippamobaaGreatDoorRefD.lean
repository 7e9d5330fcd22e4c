/-
  The reference: Num, reading decimal digits.
-/
import Derived.Test.YtkhgoeippamobaaGreatDoorRefC
namespace Go.Proofs.YtkhgoeippamobaaGreatDoor
open Go.RowKit
/-- an integer as the reference's Num -/
def DNum (w : World) (v : Value) (z : Int) : Prop := ∃ s, v = .agg #[.bool (decide (z < 0)), s] ∧ DecRep w s z.natAbs
def OwnDNum (w : World) (base : Nat) (v : Value) (z : Int) : Prop := ∃ s, v = .agg #[.bool (decide (z < 0)), s] ∧ OwnDec w base s z.natAbs
theorem OwnDNum.num {w : World} {base : Nat} {v : Value} {z : Int} (h : OwnDNum w base v z) : DNum w v z := by
  obtain ⟨s, rfl, h⟩ := h
  exact ⟨s, rfl, h.dec⟩
theorem DNum.below {w w' : World} {v : Value} {z : Int} (h : DNum w v z) (hb : Below w.heap.size w w') : DNum w' v z := by
  obtain ⟨s, rfl, h⟩ := h
  exact ⟨s, rfl, h.below hb⟩
theorem dlen_pos_iff (n : Nat) : 0 < dlen 10 n ↔ 0 < n := by
  have := dlen_zero_iff 10 n (by decide)
  omega
theorem num_fn {s : Value} {n : Nat} {w : World} (h : DecRep w s n) (hl : dlen 10 n ≤ 1000000000) (b : Bool) :
    Calls Tryz.prog 87 #[.bool b, s] w fun e w' => e = .returned (.agg #[.bool (b && decide (0 < n)), s]) ∧ Below w.heap.size w w' := by
  obtain ⟨a, cap, rfl⟩ := h.shape
  have hn : decide (0 < n) = decide ((0 : Int) < (dlen 10 n : Nat)) := by
    have := dlen_pos_iff n
    by_cases h0 : 0 < n
    · rw [decide_eq_true h0, decide_eq_true (by omega)]
    · rw [decide_eq_false h0, decide_eq_false (by omega)]
  rw [hn]
  clear hn
  cases b
  · go_enter Tryz.func87, Tryz.ntmps87
    go_wp2
    exact bodyPost_ret (v := .agg #[.bool false, .slice a (dlen 10 n) cap]) (by simp [results, Tryz.results87, go_sem]) rfl ⟨rfl, (Below.refl _ _).alloc (Nat.le_refl _) _⟩
  · go_enter Tryz.func87, Tryz.ntmps87
    go_wp2
    exact bodyPost_ret (v := .agg #[.bool (decide ((0 : Int) < (dlen 10 n : Nat))), .slice a (dlen 10 n) cap]) (by simp [results, Tryz.results87, go_sem]) rfl ⟨by simp, (Below.refl _ _).alloc (Nat.le_refl _) _⟩
theorem big_dlen (n : Nat) : decide ((600 : Int) < (dlen 10 n : Nat)) = decide (big600 ≤ n) := by
  have h1 := digits_600 n
  by_cases h2 : n < big600
  · have h3 := h1.2 h2
    rw [decide_eq_false (by omega), decide_eq_false (by omega)]
  · have h3 : ¬ dlen 10 n ≤ 600 := fun h => h2 (h1.1 h)
    rw [decide_eq_true (by omega), decide_eq_true (by omega)]
theorem long_fn {v : Value} {z : Int} {w : World} (h : DNum w v z) (hl : dlen 10 z.natAbs ≤ 1000000000) :
    Calls Tryz.prog 90 #[v] w fun e w' => e = .returned (.bool (decide (big600 ≤ z.natAbs))) ∧ Below w.heap.size w w' := by
  obtain ⟨s, rfl, h⟩ := h
  obtain ⟨a, cap, rfl⟩ := h.shape
  have HB := hid (big_dlen z.natAbs)
  generalize decide (big600 ≤ z.natAbs) = R at HB ⊢
  go_enter Tryz.func90, Tryz.ntmps90
  go_wp2
  go_ret
  exact ⟨by rw [← HB.out]; rfl, (Below.refl _ _).alloc (Nat.le_refl _) _⟩
theorem snocRec {p : List UInt8 → Prop} (h0 : p []) (h1 : ∀ l c, p l → p (l ++ [c])) (l : List UInt8) : p l := by
  have key : ∀ r : List UInt8, p r.reverse := by
    intro r
    induction r with
    | nil => exact h0
    | cons c r ih => rw [List.reverse_cons]; exact h1 _ _ ih
  have := key l.reverse
  rwa [List.reverse_reverse] at this
/-- the digit number j from the end -/
def fdig (l : List UInt8) (j : Nat) : Nat := valOf (l.getD (l.length - 1 - j) 0)
theorem numOf_snoc (b : Nat) (l : List UInt8) (c : UInt8) : numOf b (l ++ [c]) = numOf b l * b + valOf c := by
  unfold numOf numFrom
  rw [List.foldl_append]
  rfl
theorem numOf_lt (b : Nat) (hb : 2 ≤ b) (l : List UInt8) (h : ∀ c ∈ l, valOf c < b) : numOf b l < b ^ l.length := by
  revert h
  refine snocRec (p := fun l => (∀ c ∈ l, valOf c < b) → numOf b l < b ^ l.length) ?_ ?_ l
  · exact fun _ => Nat.one_pos
  · intro l c ih h
    rw [numOf_snoc, List.length_append, List.length_singleton, Nat.pow_succ]
    have h1 := ih (fun c hc => h c (List.mem_append_left _ hc))
    have h2 := h c (List.mem_append_right _ (List.mem_singleton.2 rfl))
    generalize b ^ l.length = X at *
    have h3 := Nat.mul_le_mul_right b (show numOf b l + 1 ≤ X from h1)
    rw [Nat.add_mul] at h3
    omega
theorem dgt_numOf (b : Nat) (hb : 2 ≤ b) (l : List UInt8) (h : ∀ c ∈ l, valOf c < b) (j : Nat) (hj : j < l.length) : dgt b (numOf b l) j = fdig l j := by
  revert h j
  refine snocRec (p := fun l => (∀ c ∈ l, valOf c < b) → ∀ j, j < l.length → dgt b (numOf b l) j = fdig l j) ?_ ?_ l
  · exact fun h j hj => absurd hj (Nat.not_lt_zero _)
  · intro l c ih h j hj
    have h2 := h c (List.mem_append_right _ (List.mem_singleton.2 rfl))
    rw [numOf_snoc]
    cases j with
    | zero =>
      have e : fdig (l ++ [c]) 0 = valOf c := by
        unfold fdig
        simp
      rw [e]
      unfold dgt
      rw [Nat.pow_zero, Nat.div_one, Nat.mul_comm, Nat.mul_add_mod, Nat.mod_eq_of_lt h2]
    | succ j =>
      have hj' : j < l.length := by simp at hj; omega
      have e : fdig (l ++ [c]) (j + 1) = fdig l j := by
        unfold fdig
        have e1 : (l ++ [c]).length - 1 - (j + 1) = l.length - 1 - j := by simp; omega
        rw [e1]
        simp only [List.getD_eq_getElem?_getD]
        rw [List.getElem?_append_left (by omega)]
      rw [e, ← ih (fun c hc => h c (List.mem_append_left _ hc)) j hj']
      unfold dgt
      rw [Nat.pow_succ, Nat.mul_comm (b ^ j) b, ← Nat.div_div_eq_div_mul, Nat.mul_comm (numOf b l) b, Nat.mul_add_div (by omega), Nat.div_eq_of_lt h2, Nat.add_zero]
end Go.Proofs.YtkhgoeippamobaaGreatDoor
