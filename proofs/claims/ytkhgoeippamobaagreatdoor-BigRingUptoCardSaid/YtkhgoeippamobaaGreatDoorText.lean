/-
  The texts of numbers, and what an operation tells.
-/
import Derived.Test.YtkhgoeippamobaaGreatDoorBased
import Derived.Test.YtkhgoeippamobaaGreatDoorNumOver
namespace Go.Proofs.YtkhgoeippamobaaGreatDoor
open Go.RowKit
theorem dlen_zero_iff (b n : Nat) (hb : 2 ≤ b) : dlen b n = 0 ↔ n = 0 := by
  have := dlen_le_iff b n 0 hb
  simp at this; omega
theorem strOf_isEmpty (b n : Nat) (hb : 2 ≤ b) : (strOf b n).isEmpty = decide (n = 0) := by
  have h1 := strOf_length b n
  have h2 := dlen_zero_iff b n hb
  by_cases h0 : n = 0
  · rw [decide_eq_true h0]
    rw [h2.2 h0] at h1
    rw [List.eq_nil_of_length_eq_zero h1]; rfl
  · rw [decide_eq_false h0]
    cases hs : strOf b n with
    | nil => rw [hs] at h1; simp at h1; omega
    | cons x l => rfl
/-- the text of a number with digits of a base -/
def numText (b n : Nat) (neg : Bool) : List UInt8 := if n = 0 then [48] else if neg then 45 :: strOf b n else strOf b n
theorem decimal_nat {v : Value} {n : Nat} {w : World} (h : NatRep w v n) (hl : nlen n ≤ 1000000) :
    Calls Tryz.prog 142 #[v] w fun e w' => e = .returned (.string ⟨(strOf 10 n).toArray⟩) ∧ Below w.heap.size w w' := by
  obtain ⟨a, cap, rfl⟩ := h.shape
  go_enter Tryz.func142, Tryz.ntmps142
  go_wp2_with fail
  refine (based_nat h hl 10 (by decide) (by decide)).mono ?_
  rintro e w1 ⟨rfl, hb⟩
  go_wp2
  go_ret
  exact ⟨rfl, hb⟩
set_option maxRecDepth 100000 in
set_option maxHeartbeats 2000000 in
theorem text_num {v : Value} {n : Nat} {neg lg : Bool} {w : World} (h : NumV w v n neg lg) (hl : nlen n ≤ 1000000) (b : Nat) (hb2 : 2 ≤ b) (hb36 : b ≤ 36) :
    Calls Tryz.prog 120 #[v, .int .i64 b] w fun e w' => e = .returned (.string ⟨(numText b n neg).toArray⟩) ∧ Below w.heap.size w w' := by
  obtain ⟨s, rfl, h⟩ := h
  obtain ⟨a, cap, rfl⟩ := h.shape
  have k1 := Blk.new w #[.slice a (nlen n) cap, .bool neg, .bool lg] 49
  have hb0 : Below w.heap.size w (w.alloc (.cells #[.slice a (nlen n) cap, .bool neg, .bool lg] 49)) := (Below.refl _ _).alloc (Nat.le_refl _) _
  have hc := hid (based_nat (h.below hb0) hl b hb2 hb36)
  have hlen := strOf_length b n
  have hdl := dlen_bound b n hb2
  have hem := strOf_isEmpty b n hb2
  go_enter Tryz.func120, Tryz.ntmps120
  go_wp2_with fail
  (with_reducible refine hc.out.mono ?_); rintro e w1 ⟨rfl, hb1⟩
  obtain ⟨⟨p1, p2, p3⟩, _⟩ := (k1.later hb1).three
  have hbw := hb0.trans (hb1.mono (by simp))
  have hsz : (strOf b n).length ≤ 32000000 := by omega
  clear hlen hdl
  by_cases h0 : n = 0
  · rw [decide_eq_true h0] at hem
    have hn : numText b n neg = [48] := by rw [numText, if_pos h0]
    have HN := hid hn
    clear h0 hn
    go_wp2
    go_ret
    exact ⟨by rw [HN.out]; rfl, hbw⟩
  · rw [decide_eq_false h0] at hem
    cases neg
    · have hn : numText b n false = strOf b n := by rw [numText, if_neg h0]; rfl
      have HN := hid hn
      clear h0 hn
      go_wp2
      go_ret
      exact ⟨by rw [HN.out]; rfl, hbw⟩
    · have hn : numText b n true = 45 :: strOf b n := by rw [numText, if_neg h0]; rfl
      have HN := hid hn
      clear h0 hn
      go_wp2
      go_ret
      exact ⟨by rw [HN.out]; rfl, hbw⟩
/-- how many digits a result may have -/
def big600 : Nat := ((10 ^ 60) ^ 2) ^ 5
/-- an integer's text, or the error that it is too long -/
def resOf (z : Int) : List UInt8 × Int := if z.natAbs < big600 then (numText 10 z.natAbs (decide (z < 0)), 0) else ([], 4)
theorem big600_le : big600 ≤ 2 ^ 2010 := by
  have h1 : (10 : Nat) ^ 60 ≤ 2 ^ 201 := by decide
  have h2 := Nat.pow_le_pow_left (Nat.pow_le_pow_left h1 2) 5
  have e : (2 : Nat) ^ 2010 = ((2 ^ 201) ^ 2) ^ 5 := by simp only [← Nat.pow_mul, Nat.reduceMul]
  rw [e]; exact h2
theorem pow_chain (t a b c k : Nat) (hk : k = a * b * c) : ((t ^ a) ^ b) ^ c = t ^ k := by
  rw [hk, Nat.pow_mul, Nat.pow_mul]
theorem big600_eq (k : Nat) (hk : k = 600) : big600 = 10 ^ k := by
  unfold big600
  exact pow_chain 10 60 2 5 k (by omega)
theorem bits_2010 (n : Nat) (h : n < big600) : nbits n ≤ 2010 := (nbits_le_iff n 2010).2 (Nat.lt_of_lt_of_le h big600_le)
theorem digits_600 (n : Nat) : (dlen 10 n ≤ 600) ↔ n < big600 := by
  have key : ∀ k, k = 600 → ((dlen 10 n ≤ k) ↔ n < big600) := by
    intro k hk
    rw [big600_eq k hk]
    exact dlen_le_iff 10 n k (by decide)
  exact key 600 rfl
theorem text_num10 {v : Value} {n : Nat} {neg lg : Bool} {w : World} (h : NumV w v n neg lg) (hl : nlen n ≤ 1000000) :
    Calls Tryz.prog 120 #[v, .int .i64 10] w fun e w' => e = .returned (.string ⟨(numText 10 n neg).toArray⟩) ∧ Below w.heap.size w w' :=
  text_num h hl 10 (by decide) (by decide)
set_option maxRecDepth 100000 in
set_option maxHeartbeats 2000000 in
theorem result_long {v : Value} {n : Nat} {neg : Bool} {w : World} (h : NumV w v n neg true) :
    Calls Tryz.prog 123 #[v] w fun e w' => e = .returned (.tuple #[.string ⟨#[]⟩, .int .i64 4]) ∧ Below w.heap.size w w' := by
  obtain ⟨s, rfl, h⟩ := h
  obtain ⟨a, cap, rfl⟩ := h.shape
  have hb0 : Below w.heap.size w (w.alloc (.cells #[.slice a (nlen n) cap, .bool neg, .bool true] 49)) := (Below.refl _ _).alloc (Nat.le_refl _) _
  go_enter Tryz.func123, Tryz.ntmps123
  go_wp2
  go_ret2
  exact ⟨rfl, hb0⟩
set_option maxRecDepth 100000 in
set_option maxHeartbeats 2000000 in
theorem result_num {v : Value} {n : Nat} {neg : Bool} {w : World} (h : NumV w v n neg false) (hl : nlen n ≤ 1000000) :
    Calls Tryz.prog 123 #[v] w fun e w' => e = .returned (if n < big600 then .tuple #[.string ⟨(numText 10 n neg).toArray⟩, .int .i64 0] else .tuple #[.string ⟨#[]⟩, .int .i64 4]) ∧ Below w.heap.size w w' := by
  obtain ⟨s, rfl, h⟩ := h
  obtain ⟨a, cap, rfl⟩ := h.shape
  have k1 := Blk.new w #[.slice a (nlen n) cap, .bool neg, .bool false] 49
  have hb0 : Below w.heap.size w (w.alloc (.cells #[.slice a (nlen n) cap, .bool neg, .bool false] 49)) := (Below.refl _ _).alloc (Nat.le_refl _) _
  have c1 := hid (bits_nat (h.below hb0) (by omega))
  have c2 := hid (decimal_nat (h.below hb0) hl)
  have hlen := strOf_length 10 n
  have hdg := digits_600 n
  have hbt := nbits_le_nlen n
  have hdl := dlen_bound 10 n (by decide)
  have hsz : (strOf 10 n).length ≤ 32000000 := by omega
  by_cases hbits : nbits n ≤ 2010
  · by_cases hn : n < big600
    · rw [if_pos hn]
      have hd : (strOf 10 n).length ≤ 600 := by rw [hlen]; exact hdg.2 hn
      have HN := hid hn
      clear hlen hdg hdl hn
      go_enter Tryz.func123, Tryz.ntmps123
      go_wp2_with fail
      (with_reducible refine c1.out.mono ?_); rintro e w' ⟨rfl, rfl⟩
      go_wp2_with fail
      (with_reducible refine c2.out.mono ?_); rintro e w1 ⟨rfl, hb1⟩
      obtain ⟨⟨p1, p2, p3⟩, _⟩ := (k1.later hb1).three
      have hbw := hb0.trans (hb1.mono (by simp))
      have c3 := hid (text_num10 (v := .agg #[.slice a (nlen n) cap, .bool neg, .bool false]) ⟨_, rfl, h.below hbw⟩ hl)
      go_wp2_with fail
      (with_reducible refine c3.out.mono ?_); rintro e w2 ⟨rfl, hb2⟩
      go_wp2
      go_ret2
      exact ⟨rfl, hbw.trans (hb2.mono hbw.size)⟩
    · rw [if_neg hn]
      have hd : 600 < (strOf 10 n).length := by
        rw [hlen]
        have : ¬ dlen 10 n ≤ 600 := fun hh => hn (hdg.1 hh)
        omega
      clear hlen hdg hdl hn
      go_enter Tryz.func123, Tryz.ntmps123
      go_wp2_with fail
      (with_reducible refine c1.out.mono ?_); rintro e w' ⟨rfl, rfl⟩
      go_wp2_with fail
      (with_reducible refine c2.out.mono ?_); rintro e w1 ⟨rfl, hb1⟩
      go_wp2
      go_ret2
      exact ⟨rfl, hb0.trans (hb1.mono (by simp))⟩
  · have hn : ¬ n < big600 := fun hh => hbits (bits_2010 n hh)
    rw [if_neg hn]
    clear hn hdg
    have hbits' : 2010 < nbits n := by omega
    go_enter Tryz.func123, Tryz.ntmps123
    go_wp2_with fail
    (with_reducible refine c1.out.mono ?_); rintro e w' ⟨rfl, rfl⟩
    go_wp2
    go_ret2
    exact ⟨rfl, hb0⟩
theorem result_int {v : Value} {z : Int} {w : World} (h : IntV w v z) (hl : nlen z.natAbs ≤ 1000000) :
    Calls Tryz.prog 123 #[v] w fun e w' => e = .returned (.tuple #[.string ⟨(resOf z).1.toArray⟩, .int .i64 (resOf z).2]) ∧ Below w.heap.size w w' := by
  refine (result_num h hl).mono ?_
  rintro e w' ⟨rfl, hb⟩
  refine ⟨?_, hb⟩
  unfold resOf
  split <;> rfl
end Go.Proofs.YtkhgoeippamobaaGreatDoor
