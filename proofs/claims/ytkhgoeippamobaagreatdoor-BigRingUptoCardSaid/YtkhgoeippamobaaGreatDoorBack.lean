/-
  What is written is read back (plain facts on texts).
-/
import Derived.Test.YtkhgoeippamobaaGreatDoorParseFn
import Derived.Test.YtkhgoeippamobaaGreatDoorRefD
namespace Go.Proofs.YtkhgoeippamobaaGreatDoor
open Go.RowKit
theorem valOf_ch (d : Nat) (h : d < 36) : valOf (UInt8.ofNat (chN d)) = d := by
  have : ∀ d, d < 36 → valOf (UInt8.ofNat (chN d)) = d := by decide +kernel
  exact this d h
theorem numOf_strOf (b n : Nat) (hb2 : 2 ≤ b) (hb : b ≤ 36) : numOf b (strOf b n) = n := by
  have key : ∀ L, n < b ^ L → ∀ k, k ≤ L → numOf b ((List.range k).map fun t => UInt8.ofNat (chN (dgt b n (L - 1 - t)))) = n / b ^ (L - k) := by
    intro L hL k
    induction k with
    | zero => intro _; rw [Nat.sub_zero, Nat.div_eq_of_lt hL]; rfl
    | succ k ih =>
      intro hk
      rw [List.range_succ, List.map_append, List.map_singleton, numOf_snoc, ih (by omega), valOf_ch _ (Nat.lt_of_lt_of_le (dgt_lt b n _ hb2) hb)]
      have e1 : L - 1 - k = L - (k + 1) := by omega
      have e2 : L - k = L - (k + 1) + 1 := by omega
      unfold dgt
      rw [e1, e2, Nat.pow_succ, ← Nat.div_div_eq_div_mul]
      generalize n / b ^ (L - (k + 1)) = x
      have := Nat.div_add_mod x b
      rw [Nat.mul_comm] at this
      exact this
  have h := key (dlen b n) (dlen_lt b n hb2) (dlen b n) (Nat.le_refl _)
  rw [Nat.sub_self, Nat.pow_zero, Nat.div_one] at h
  exact h
theorem strOf_digits (b n : Nat) (hb2 : 2 ≤ b) (hb : b ≤ 36) : ∀ c ∈ strOf b n, valOf c < b := by
  intro c hc
  unfold strOf at hc
  obtain ⟨t, _, rfl⟩ := List.mem_map.1 hc
  rw [valOf_ch _ (Nat.lt_of_lt_of_le (dgt_lt b n _ hb2) hb)]
  exact dgt_lt b n _ hb2
theorem rOK_of (b : Nat) (l : List UInt8) (h : ∀ c ∈ l, valOf c < b) (h0 : l ≠ []) : rOK b l = true := by
  unfold rOK
  rw [List.all_eq_true.2 (fun c hc => decide_eq_true (h c hc)), Bool.and_true]
  cases l with
  | nil => exact absurd rfl h0
  | cons _ _ => rfl
theorem wh_digit (c : UInt8) (h : valOf c < 36) : isWh c = false := by
  have hv : valOf c = if 48 ≤ c.toNat ∧ c.toNat ≤ 57 then c.toNat - 48
    else if 97 ≤ c.toNat ∧ c.toNat ≤ 122 then c.toNat - 97 + 10
    else if 65 ≤ c.toNat ∧ c.toNat ≤ 90 then c.toNat - 65 + 10
    else 36 := rfl
  have key : ∀ k : UInt8, (c = k) ↔ c.toNat = k.toNat := fun k => ⟨fun h => by rw [h], fun h => UInt8.toNat_inj.1 h⟩
  cases hw : isWh c with
  | false => rfl
  | true =>
    exfalso
    unfold isWh at hw
    simp only [Bool.or_eq_true, Bool.and_eq_true, decide_eq_true_eq] at hw
    rw [hv] at h
    revert h
    have h9 : (9 : UInt8).toNat = 9 := rfl
    have h13 : (13 : UInt8).toNat = 13 := rfl
    have h32 : (32 : UInt8).toNat = 32 := rfl
    split
    · omega
    · split
      · omega
      · split <;> omega
theorem dropWhile_none (l : List UInt8) (h : ∀ c ∈ l, isWh c = false) : l.dropWhile isWh = l := by
  cases l with
  | nil => rfl
  | cons c l => rw [List.dropWhile_cons, h c (List.mem_cons_self ..)]; rfl
theorem strip_none (l : List UInt8) (h : ∀ c ∈ l, isWh c = false) : strip l = l := by
  unfold strip
  rw [dropWhile_none l h, dropWhile_none _ (fun c hc => h c (List.mem_reverse.1 hc)), List.reverse_reverse]
theorem head_digit (b : Nat) (hb : b ≤ 36) (p : UInt8) (hp : b ≤ valOf p) (l : List UInt8) (h : ∀ c ∈ l, valOf c < b) : ([p] : List UInt8).isPrefixOf l = false := by
  cases l with
  | nil => rfl
  | cons c l =>
    have h1 := h c (List.mem_cons_self ..)
    have : (p == c) = false := by
      rw [beq_eq_false_iff_ne]
      rintro rfl
      omega
    simp [List.isPrefixOf, this]
theorem second_digit (p : UInt8) (hp : 10 ≤ valOf p) (l : List UInt8) (h : ∀ c ∈ l, valOf c < 10) : ([48, p] : List UInt8).isPrefixOf l = false := by
  cases l with
  | nil => rfl
  | cons c l =>
    cases l with
    | nil => simp [List.isPrefixOf]
    | cons d l =>
      have h1 := h d (List.mem_cons_of_mem _ (List.mem_cons_self ..))
      have : (p == d) = false := by
        rw [beq_eq_false_iff_ne]
        rintro rfl
        omega
      simp [List.isPrefixOf, this]
theorem pBase_dec (l : List UInt8) (h : ∀ c ∈ l, valOf c < 10) : pBase l = 10 ∧ pBody l = l := by
  have h1 := second_digit 120 (by decide) l h
  have h2 := second_digit 111 (by decide) l h
  have h3 := second_digit 98 (by decide) l h
  unfold pBase pBody
  rw [h1, h2, h3]
  exact ⟨rfl, rfl⟩
theorem dec_read (l : List UInt8) (h : ∀ c ∈ l, valOf c < 10) (h0 : l ≠ []) : (pOK l = true ∧ pVal l = (numOf 10 l : Nat)) ∧ (pOK (45 :: l) = true ∧ pVal (45 :: l) = -((numOf 10 l : Nat) : Int)) := by
  have hw : ∀ c ∈ l, isWh c = false := fun c hc => wh_digit c (by have := h c hc; omega)
  have s1 := strip_none l hw
  have s2 := strip_none (45 :: l) (fun c hc => by
    rcases List.mem_cons.1 hc with rfl | hc
    · decide
    · exact hw c hc)
  have p1 := head_digit 10 (by decide) 45 (by decide) l h
  have p2 := head_digit 10 (by decide) 43 (by decide) l h
  have r1 : pRest l = l := by unfold pRest; rw [p1, p2]; rfl
  have r2 : pRest (45 :: l) = l := by simp [pRest, List.isPrefixOf]
  have n1 : pNeg l = false := p1
  have n2 : pNeg (45 :: l) = true := by simp [pNeg, List.isPrefixOf]
  obtain ⟨b1, b2⟩ := pBase_dec l h
  have ho := rOK_of 10 l h h0
  unfold pOK pVal
  rw [s1, s2, r1, r2, b1, b2, n1, n2]
  exact ⟨⟨ho, rfl⟩, ho, rfl⟩
/-- the canonical text of an integer -/
def txt (z : Int) : List UInt8 := numText 10 z.natAbs (decide (z < 0))
theorem txt_read (z : Int) : pOK (txt z) = true ∧ pVal (txt z) = z := by
  unfold txt numText
  by_cases h0 : z.natAbs = 0
  · rw [if_pos h0]
    have hz : z = 0 := by omega
    subst hz
    have := (dec_read [48] (by decide) (by decide)).1
    exact ⟨this.1, this.2⟩
  · rw [if_neg h0]
    have hd := strOf_digits 10 z.natAbs (by decide) (by decide)
    have hne : strOf 10 z.natAbs ≠ [] := by
      intro h
      have h1 := strOf_length 10 z.natAbs
      rw [h] at h1
      have h2 := dlen_zero_iff 10 z.natAbs (by decide)
      simp at h1
      omega
    have hr := dec_read _ hd hne
    rw [numOf_strOf 10 _ (by decide) (by decide)] at hr
    by_cases hn : z < 0
    · rw [decide_eq_true hn, if_pos rfl]
      exact ⟨hr.2.1, by rw [hr.2.2]; omega⟩
    · rw [decide_eq_false hn, if_neg (by decide)]
      exact ⟨hr.1.1, by rw [hr.1.2]; omega⟩
theorem txt_len (z : Int) (h : z.natAbs < big600) : (txt z).length ≤ 601 := by
  unfold txt numText
  have h1 := strOf_length 10 z.natAbs
  have h2 := (digits_600 z.natAbs).2 h
  split
  · simp
  · split
    · simp; omega
    · omega
theorem resOf_small (z : Int) (h : z.natAbs < big600) : resOf z = (txt z, 0) := by
  unfold resOf txt; rw [if_pos h]
theorem txt_inj (x y : Int) (h : txt x = txt y) : x = y := by
  rw [← (txt_read x).2, ← (txt_read y).2, h]
/-- a number of few letters is small -/
theorem pVal_small (l : List UInt8) (h : l.length ≤ 60) (hok : pOK l = true) : (pVal l).natAbs < 2 ^ 240 := by
  unfold pVal
  rw [sgnInt_abs]
  unfold pOK at hok
  have hb : 2 ≤ pBase (pRest (strip l)) ∧ pBase (pRest (strip l)) ≤ 16 := by
    unfold pBase
    repeat' split
    all_goals decide
  have hl : (pBody (pRest (strip l))).length ≤ 60 := by
    have h1 := strip_len l
    have h2 : (pRest (strip l)).length ≤ (strip l).length := by
      unfold pRest
      split
      · rw [List.length_tail]; omega
      · exact Nat.le_refl _
    have h3 : (pBody (pRest (strip l))).length ≤ (pRest (strip l)).length := by
      unfold pBody
      split
      · rw [List.length_drop]; omega
      · exact Nat.le_refl _
    omega
  generalize pBody (pRest (strip l)) = T at *
  generalize pBase (pRest (strip l)) = b at *
  have hall : ∀ c ∈ T, valOf c < b := by
    unfold rOK at hok
    intro c hc
    exact of_decide_eq_true (List.all_eq_true.1 (Bool.and_eq_true_iff.1 hok).2 c hc)
  have h1 := numOf_lt b hb.1 T hall
  have h2 : b ^ T.length ≤ 16 ^ 60 := Nat.le_trans (Nat.pow_le_pow_left hb.2 _) (Nat.pow_le_pow_right (by decide) hl)
  have h3 : (16 : Nat) ^ 60 = 2 ^ 240 := by decide +kernel
  omega
theorem big600_ge : 2 ^ 500 ≤ big600 := by decide +kernel
end Go.Proofs.YtkhgoeippamobaaGreatDoor
