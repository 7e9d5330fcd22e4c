/-
  Part K11 of the proofs of this seat: contracts of functions and plain facts, merged from 8 texts.
-/
import Derived.Lib.TrimUEq
import Derived.Lib.ValidU
import Derived.Shelf.Unicode.ValidAny
import Derived.Lib.LaidU8T
import Derived.Lib.TrimByte
import Derived.WalkKit
import Derived.Test.YtihdndaibmgoiaaGreatDoorProg
import Derived.Lib.OthersKept
import Derived.Test.YtihdndaibmgoiaaGreatDoorK0
import Derived.Test.YtihdndaibmgoiaaGreatDoorK1
import Derived.Test.YtihdndaibmgoiaaGreatDoorK2
import Derived.Test.YtihdndaibmgoiaaGreatDoorK3
import Derived.Test.YtihdndaibmgoiaaGreatDoorK4
import Derived.Test.YtihdndaibmgoiaaGreatDoorK5
import Derived.Test.YtihdndaibmgoiaaGreatDoorK6
import Derived.Test.YtihdndaibmgoiaaGreatDoorK7
import Derived.Test.YtihdndaibmgoiaaGreatDoorK8
import Derived.Test.YtihdndaibmgoiaaGreatDoorK9
import Derived.Test.YtihdndaibmgoiaaGreatDoorK10
/-
  binary: code points (plain).
-/
namespace Go.Proofs.YtihdndaibmgoiaaGreatDoor.Pz
/-- so many bytes that go on, each with six bits -/
def contE : Nat → Nat → Str → Option Nat
  | 0, v, _ => some v
  | _ + 1, _, [] => none
  | k + 1, v, c :: t => if c.toNat / 64 = 2 then contE k (v * 64 + c.toNat % 64) t else none
def codedB (v : Int) : Bool := decide (0 ≤ v) && decide (v ≤ 1114111) && (decide (v < 55296) || decide (57343 < v))
def finP (k least : Nat) : Option Nat → Nat × Nat
  | none => (0, 0)
  | some v => if v < least then (0, 0) else if codedB v then (v, k) else (0, 0)
/-- the code point at the beginning, and how many bytes it takes; 0 bytes if there is none -/
def pointE : Str → Nat × Nat
  | [] => (0, 0)
  | c :: t => if c.toNat < 128 then (c.toNat, 1)
    else if 192 ≤ c.toNat ∧ c.toNat < 224 then finP 2 128 (contE 1 (c.toNat % 32) t)
    else if 224 ≤ c.toNat ∧ c.toNat < 240 then finP 3 2048 (contE 2 (c.toNat % 16) t)
    else if 240 ≤ c.toNat ∧ c.toNat < 248 then finP 4 65536 (contE 3 (c.toNat % 8) t)
    else (0, 0)
theorem codedB_iff (v : Nat) : codedB (v : Int) = true ↔ v ≤ 1114111 ∧ (v < 55296 ∨ 57343 < v) := by
  unfold codedB
  simp only [Bool.and_eq_true, Bool.or_eq_true, decide_eq_true_eq]
  omega
theorem finP_none (k least : Nat) : finP k least none = (0, 0) := rfl
theorem finP_some (k least v : Nat) : finP k least (some v) = if least ≤ v ∧ v ≤ 1114111 ∧ (v < 55296 ∨ 57343 < v) then (v, k) else (0, 0) := by
  show (if v < least then (0, 0) else if codedB (v : Int) then (v, k) else (0, 0)) = _
  by_cases h1 : v < least
  · rw [if_pos h1, if_neg (by omega)]
  · rw [if_neg h1]
    by_cases h2 : codedB v = true
    · rw [if_pos h2, if_pos (by have := (codedB_iff v).1 h2; omega)]
    · rw [if_neg h2, if_neg (fun h => h2 ((codedB_iff v).2 h.2))]
def pairB (p : Nat × Nat) : Nat × Nat := if p.1 = 65533 ∧ p.2 = 1 then (0, 0) else p
theorem pairB_eq (p : Nat × Nat) : (if p = (65533, 1) then (0, 0) else p) = pairB p := by
  obtain ⟨a, b⟩ := p
  unfold pairB
  by_cases h : a = 65533 ∧ b = 1
  · rw [if_pos h, if_pos (by rw [h.1, h.2])]
  · rw [if_neg h, if_neg (fun e => h (by cases e; exact ⟨rfl, rfl⟩))]
theorem pairB_bad : pairB (65533, 1) = (0, 0) := rfl
theorem pairB_good {a b : Nat} (h : b ≠ 1 ∨ a < 128) : pairB (a, b) = (a, b) := by
  unfold pairB
  rw [if_neg (by omega)]
theorem pairB_if (c : Prop) [Decidable c] (x y : Nat × Nat) : pairB (if c then x else y) = if c then pairB x else pairB y := by split <;> rfl
/-- it is the model's own, where that finds one -/
theorem pointE_eq (l : Str) (hl : l ≠ []) : pointE l = if Lib.decodeL l = (65533, 1) then (0, 0) else Lib.decodeL l := by
  cases l with
  | nil => exact absurd rfl hl
  | cons c t =>
    rw [pairB_eq, Lib.decodeL_N]
    have hc := c.toNat_lt
    simp only [List.length_cons, List.getD_cons_zero, List.getD_cons_succ]
    unfold Lib.decodeN pointE
    simp only [pairB_if, pairB_bad]
    generalize c.toNat = a at *
    by_cases h1 : a < 128
    · rw [if_pos h1, if_pos h1, pairB_good (.inr h1)]
    rw [if_neg h1, if_neg h1]
    by_cases h2 : 192 ≤ a ∧ a < 224
    · rw [if_pos h2]
      match t with
      | [] => rw [if_neg (show ¬ (a / 32 = 6 ∧ _) from fun h => absurd h.2.1 (by simp)), if_neg (show ¬ (a / 16 = 14 ∧ _) from fun h => by have := h.1; omega), if_neg (show ¬ (a / 8 = 30 ∧ _) from fun h => by have := h.1; omega)]; rfl
      | x :: t =>
        simp only [List.getD_cons_zero, List.length_cons]
        rw [show contE 1 (a % 32) (x :: t) = if x.toNat / 64 = 2 then some (a % 32 * 64 + x.toNat % 64) else none from rfl]
        have hx := x.toNat_lt
        generalize x.toNat = b at *
        by_cases hb : b / 64 = 2
        · rw [if_pos hb, if_pos (show a / 32 = 6 ∧ 1 < t.length + 1 + 1 ∧ b / 64 = 2 from ⟨by omega, by omega, hb⟩), finP_some, pairB_good (.inl (by decide))]
          by_cases hv : a % 32 * 64 + b % 64 ≥ 128
          · rw [if_pos hv, if_pos (by omega)]
          · rw [if_neg hv, if_neg (by omega)]
        · rw [if_neg hb, finP_none, if_neg (show ¬ (a / 32 = 6 ∧ _) from fun h => hb h.2.2), if_neg (show ¬ (a / 16 = 14 ∧ _) from fun h => by have := h.1; omega), if_neg (show ¬ (a / 8 = 30 ∧ _) from fun h => by have := h.1; omega)]
    rw [if_neg h2, if_neg (show ¬ (a / 32 = 6 ∧ _) from fun h => h2 (by have := h.1; omega))]
    by_cases h3 : 224 ≤ a ∧ a < 240
    · rw [if_pos h3]
      match t with
      | [] => rw [if_neg (show ¬ (a / 16 = 14 ∧ _) from fun h => absurd h.2.1.1 (by simp)), if_neg (show ¬ (a / 8 = 30 ∧ _) from fun h => by have := h.1; omega)]; rfl
      | [x] =>
        rw [show contE 2 (a % 16) [x] = if x.toNat / 64 = 2 then none else none from rfl, if_neg (show ¬ (a / 16 = 14 ∧ _) from fun h => absurd h.2.2.1 (by simp)), if_neg (show ¬ (a / 8 = 30 ∧ _) from fun h => by have := h.1; omega)]
        split <;> rfl
      | x :: y :: t =>
        simp only [List.getD_cons_zero, List.getD_cons_succ, List.length_cons]
        rw [show contE 2 (a % 16) (x :: y :: t) = if x.toNat / 64 = 2 then (if y.toNat / 64 = 2 then some ((a % 16 * 64 + x.toNat % 64) * 64 + y.toNat % 64) else none) else none from rfl]
        have hx := x.toNat_lt
        have hy := y.toNat_lt
        generalize x.toNat = b at *
        generalize y.toNat = d at *
        by_cases hb : b / 64 = 2
        · by_cases hd : d / 64 = 2
          · rw [if_pos hb, if_pos hd, if_pos (show a / 16 = 14 ∧ (1 < t.length + 1 + 1 + 1 ∧ b / 64 = 2) ∧ 2 < t.length + 1 + 1 + 1 ∧ d / 64 = 2 from ⟨by omega, ⟨by omega, hb⟩, by omega, hd⟩), finP_some, pairB_good (.inl (by decide)), show (a % 16 * 64 + b % 64) * 64 + d % 64 = a % 16 * 4096 + b % 64 * 64 + d % 64 by omega]
            by_cases hv : a % 16 * 4096 + b % 64 * 64 + d % 64 ≥ 2048 ∧ (a % 16 * 4096 + b % 64 * 64 + d % 64 < 55296 ∨ (57344 ≤ a % 16 * 4096 + b % 64 * 64 + d % 64 ∧ a % 16 * 4096 + b % 64 * 64 + d % 64 ≤ 1114111))
            · rw [if_pos hv, if_pos (by omega)]
            · rw [if_neg hv, if_neg (by omega)]
          · rw [if_pos hb, if_neg hd, finP_none, if_neg (show ¬ (a / 16 = 14 ∧ _) from fun h => hd h.2.2.2), if_neg (show ¬ (a / 8 = 30 ∧ _) from fun h => by have := h.1; omega)]
        · rw [if_neg hb, finP_none, if_neg (show ¬ (a / 16 = 14 ∧ _) from fun h => hb h.2.1.2), if_neg (show ¬ (a / 8 = 30 ∧ _) from fun h => by have := h.1; omega)]
    rw [if_neg h3, if_neg (show ¬ (a / 16 = 14 ∧ _) from fun h => h3 (by have := h.1; omega))]
    by_cases h4 : 240 ≤ a ∧ a < 248
    · rw [if_pos h4]
      match t with
      | [] => rw [if_neg (show ¬ (a / 8 = 30 ∧ _) from fun h => absurd h.2.1.1 (by simp))]; rfl
      | [x] =>
        rw [show contE 3 (a % 8) [x] = if x.toNat / 64 = 2 then none else none from rfl, if_neg (show ¬ (a / 8 = 30 ∧ _) from fun h => absurd h.2.2.1.1 (by simp))]
        split <;> rfl
      | [x, y] =>
        rw [show contE 3 (a % 8) [x, y] = if x.toNat / 64 = 2 then (if y.toNat / 64 = 2 then none else none) else none from rfl, if_neg (show ¬ (a / 8 = 30 ∧ _) from fun h => absurd h.2.2.2.1 (by simp))]
        split
        · split <;> rfl
        · rfl
      | x :: y :: z :: t =>
        simp only [List.getD_cons_zero, List.getD_cons_succ, List.length_cons]
        rw [show contE 3 (a % 8) (x :: y :: z :: t) = if x.toNat / 64 = 2 then (if y.toNat / 64 = 2 then (if z.toNat / 64 = 2 then some (((a % 8 * 64 + x.toNat % 64) * 64 + y.toNat % 64) * 64 + z.toNat % 64) else none) else none) else none from rfl]
        have hx := x.toNat_lt
        have hy := y.toNat_lt
        have hz := z.toNat_lt
        generalize x.toNat = b at *
        generalize y.toNat = d at *
        generalize z.toNat = e at *
        by_cases hb : b / 64 = 2
        · by_cases hd : d / 64 = 2
          · by_cases he : e / 64 = 2
            · rw [if_pos hb, if_pos hd, if_pos he, if_pos (show a / 8 = 30 ∧ (1 < t.length + 1 + 1 + 1 + 1 ∧ b / 64 = 2) ∧ (2 < t.length + 1 + 1 + 1 + 1 ∧ d / 64 = 2) ∧ 3 < t.length + 1 + 1 + 1 + 1 ∧ e / 64 = 2 from ⟨by omega, ⟨by omega, hb⟩, ⟨by omega, hd⟩, by omega, he⟩), finP_some, pairB_good (.inl (by decide)), show ((a % 8 * 64 + b % 64) * 64 + d % 64) * 64 + e % 64 = a % 8 * 262144 + b % 64 * 4096 + d % 64 * 64 + e % 64 by omega]
              by_cases hv : a % 8 * 262144 + b % 64 * 4096 + d % 64 * 64 + e % 64 ≥ 65536 ∧ (a % 8 * 262144 + b % 64 * 4096 + d % 64 * 64 + e % 64 < 55296 ∨ (57344 ≤ a % 8 * 262144 + b % 64 * 4096 + d % 64 * 64 + e % 64 ∧ a % 8 * 262144 + b % 64 * 4096 + d % 64 * 64 + e % 64 ≤ 1114111))
              · rw [if_pos hv, if_pos (by omega)]
              · rw [if_neg hv, if_neg (by omega)]
            · rw [if_pos hb, if_pos hd, if_neg he, finP_none, if_neg (show ¬ (a / 8 = 30 ∧ _) from fun h => he h.2.2.2.2)]
          · rw [if_pos hb, if_neg hd, finP_none, if_neg (show ¬ (a / 8 = 30 ∧ _) from fun h => hd h.2.2.1.2)]
        · rw [if_neg hb, finP_none, if_neg (show ¬ (a / 8 = 30 ∧ _) from fun h => hb h.2.1.2)]
    rw [if_neg h4, if_neg (show ¬ (a / 8 = 30 ∧ _) from fun h => h4 (by have := h.1; omega))]
/-- a code point's bytes -/
def encE (v : Nat) : Str :=
  if v < 128 then [UInt8.ofNat v] else if v < 2048 then [UInt8.ofNat (192 + v / 64), UInt8.ofNat (128 + v % 64)]
  else if v < 65536 then [UInt8.ofNat (224 + v / 4096), UInt8.ofNat (128 + v / 64 % 64), UInt8.ofNat (128 + v % 64)]
  else [UInt8.ofNat (240 + v / 262144), UInt8.ofNat (128 + v / 4096 % 64), UInt8.ofNat (128 + v / 64 % 64), UInt8.ofNat (128 + v % 64)]
theorem encE_len (v : Nat) : 1 ≤ (encE v).length ∧ (encE v).length ≤ 4 := by
  unfold encE
  split
  · simp
  · split
    · simp
    · split <;> simp
theorem ofNat_lt {n : Nat} (h : n < 256) : (UInt8.ofNat n).toNat = n := by
  rw [UInt8.toNat_ofNat']
  exact Nat.mod_eq_of_lt h
theorem point_enc (v : Nat) (hv : codedB v = true) (t : Str) : pointE (encE v ++ t) = (v, (encE v).length) := by
  have hc := (codedB_iff v).1 hv
  unfold encE
  by_cases h1 : v < 128
  · rw [if_pos h1]
    show (if (UInt8.ofNat v).toNat < 128 then _ else _) = _
    rw [ofNat_lt (by omega), if_pos h1]
    rfl
  rw [if_neg h1]
  by_cases h2 : v < 2048
  · rw [if_pos h2]
    simp only [List.cons_append, List.nil_append, pointE, contE, List.length_cons, List.length_nil]
    rw [ofNat_lt (show 192 + v / 64 < 256 by omega), ofNat_lt (show 128 + v % 64 < 256 by omega), if_neg (by omega), if_pos (by omega), if_pos (by omega), finP_some,
      show (192 + v / 64) % 32 * 64 + (128 + v % 64) % 64 = v by omega, if_pos (by omega)]
  rw [if_neg h2]
  by_cases h3 : v < 65536
  · rw [if_pos h3]
    simp only [List.cons_append, List.nil_append, pointE, contE, List.length_cons, List.length_nil]
    rw [ofNat_lt (show 224 + v / 4096 < 256 by omega), ofNat_lt (show 128 + v / 64 % 64 < 256 by omega), ofNat_lt (show 128 + v % 64 < 256 by omega), if_neg (by omega), if_neg (by omega), if_pos (by omega), if_pos (by omega), if_pos (by omega), finP_some,
      show ((224 + v / 4096) % 16 * 64 + (128 + v / 64 % 64) % 64) * 64 + (128 + v % 64) % 64 = v by omega, if_pos (by omega)]
  rw [if_neg h3]
  simp only [List.cons_append, List.nil_append, pointE, contE, List.length_cons, List.length_nil]
  rw [ofNat_lt (show 240 + v / 262144 < 256 by omega), ofNat_lt (show 128 + v / 4096 % 64 < 256 by omega), ofNat_lt (show 128 + v / 64 % 64 < 256 by omega), ofNat_lt (show 128 + v % 64 < 256 by omega), if_neg (by omega), if_neg (by omega), if_neg (by omega), if_pos (by omega), if_pos (by omega), if_pos (by omega), if_pos (by omega), finP_some,
    show (((240 + v / 262144) % 8 * 64 + (128 + v / 4096 % 64) % 64) * 64 + (128 + v / 64 % 64) % 64) * 64 + (128 + v % 64) % 64 = v by omega, if_pos (by omega)]
theorem contE_some : ∀ (k v : Nat) (t : Str) (r : Nat), contE k v t = some r → k ≤ t.length ∧ v * 64 ^ k ≤ r ∧ r < (v + 1) * 64 ^ k
  | 0, v, t, r, h => by
    rw [contE] at h
    cases h
    simp
  | k + 1, v, [], r, h => by rw [contE] at h; cases h
  | k + 1, v, c :: t, r, h => by
    rw [contE] at h
    split at h
    · obtain ⟨h1, h2, h3⟩ := contE_some k _ t r h
      have hm := Nat.mod_lt c.toNat (show 0 < 64 by decide)
      refine ⟨by simpa using h1, ?_, ?_⟩
      · rw [Nat.pow_succ, Nat.mul_comm (64 ^ k) 64, ← Nat.mul_assoc]
        exact Nat.le_trans (Nat.mul_le_mul_right _ (by omega)) h2
      · rw [Nat.pow_succ, Nat.mul_comm (64 ^ k) 64, ← Nat.mul_assoc]
        exact Nat.lt_of_lt_of_le h3 (Nat.mul_le_mul_right _ (by omega))
    · cases h
/-- what was found is written so -/
theorem enc_point {l : Str} (h : (pointE l).2 ≠ 0) : codedB (pointE l).1 = true ∧ l = encE (pointE l).1 ++ l.drop (pointE l).2 ∧ (pointE l).2 = (encE (pointE l).1).length := by
  cases l with
  | nil => exact absurd rfl h
  | cons c t =>
    have hc := c.toNat_lt
    have back : ∀ (x : UInt8) (n : Nat), x.toNat = n → UInt8.ofNat n = x := fun x n e => by rw [← e, UInt8.ofNat_toNat]
    by_cases h1 : c.toNat < 128
    · have e : pointE (c :: t) = (c.toNat, 1) := by rw [pointE, if_pos h1]
      rw [e]
      refine ⟨(codedB_iff _).2 (by omega), ?_, ?_⟩
      · show _ = encE c.toNat ++ t
        unfold encE
        rw [if_pos h1, UInt8.ofNat_toNat]
        rfl
      · show 1 = (encE c.toNat).length
        unfold encE
        rw [if_pos h1]
        rfl
    by_cases h2 : 192 ≤ c.toNat ∧ c.toNat < 224
    · have e : pointE (c :: t) = finP 2 128 (contE 1 (c.toNat % 32) t) := by rw [pointE, if_neg h1, if_pos h2]
      rw [e] at h ⊢
      cases hr : contE 1 (c.toNat % 32) t with
      | none => rw [hr] at h; exact absurd rfl h
      | some v =>
        rw [hr] at h
        rw [finP_some] at h ⊢
        by_cases hv : 128 ≤ v ∧ v ≤ 1114111 ∧ (v < 55296 ∨ 57343 < v)
        · rw [if_pos hv]
          match t, hr with
          | x :: t, hr =>
            have hx := x.toNat_lt
            rw [contE] at hr
            split at hr
            · rw [contE] at hr
              have hr := Option.some.inj hr
              refine ⟨(codedB_iff _).2 hv.2, ?_, ?_⟩
              · show c :: x :: t = encE v ++ t
                unfold encE
                rw [if_neg (by omega), if_pos (by omega), back c _ (by omega), back x _ (by omega)]
                rfl
              · show 2 = (encE v).length
                unfold encE
                rw [if_neg (by omega), if_pos (by omega)]
                rfl
            · cases hr
        · rw [if_neg hv] at h; exact absurd rfl h
    by_cases h3 : 224 ≤ c.toNat ∧ c.toNat < 240
    · have e : pointE (c :: t) = finP 3 2048 (contE 2 (c.toNat % 16) t) := by rw [pointE, if_neg h1, if_neg h2, if_pos h3]
      rw [e] at h ⊢
      cases hr : contE 2 (c.toNat % 16) t with
      | none => rw [hr] at h; exact absurd rfl h
      | some v =>
        rw [hr] at h
        rw [finP_some] at h ⊢
        by_cases hv : 2048 ≤ v ∧ v ≤ 1114111 ∧ (v < 55296 ∨ 57343 < v)
        · rw [if_pos hv]
          match t, hr with
          | [x], hr =>
            rw [contE] at hr
            split at hr
            · rw [contE] at hr; cases hr
            · cases hr
          | x :: y :: t, hr =>
            have hx := x.toNat_lt
            have hy := y.toNat_lt
            rw [contE] at hr
            split at hr
            · rw [contE] at hr
              split at hr
              · rw [contE] at hr
                have hr := Option.some.inj hr
                refine ⟨(codedB_iff _).2 hv.2, ?_, ?_⟩
                · show c :: x :: y :: t = encE v ++ t
                  unfold encE
                  rw [if_neg (by omega), if_neg (by omega), if_pos (by omega), back c _ (by omega), back x _ (by omega), back y _ (by omega)]
                  rfl
                · show 3 = (encE v).length
                  unfold encE
                  rw [if_neg (by omega), if_neg (by omega), if_pos (by omega)]
                  rfl
              · cases hr
            · cases hr
        · rw [if_neg hv] at h; exact absurd rfl h
    by_cases h4 : 240 ≤ c.toNat ∧ c.toNat < 248
    · have e : pointE (c :: t) = finP 4 65536 (contE 3 (c.toNat % 8) t) := by rw [pointE, if_neg h1, if_neg h2, if_neg h3, if_pos h4]
      rw [e] at h ⊢
      cases hr : contE 3 (c.toNat % 8) t with
      | none => rw [hr] at h; exact absurd rfl h
      | some v =>
        rw [hr] at h
        rw [finP_some] at h ⊢
        by_cases hv : 65536 ≤ v ∧ v ≤ 1114111 ∧ (v < 55296 ∨ 57343 < v)
        · rw [if_pos hv]
          match t, hr with
          | [x], hr =>
            rw [contE] at hr
            split at hr
            · rw [contE] at hr; cases hr
            · cases hr
          | [x, y], hr =>
            rw [contE] at hr
            split at hr
            · rw [contE] at hr
              split at hr
              · rw [contE] at hr; cases hr
              · cases hr
            · cases hr
          | x :: y :: z :: t, hr =>
            have hx := x.toNat_lt
            have hy := y.toNat_lt
            have hz := z.toNat_lt
            rw [contE] at hr
            split at hr
            · rw [contE] at hr
              split at hr
              · rw [contE] at hr
                split at hr
                · rw [contE] at hr
                  have hr := Option.some.inj hr
                  refine ⟨(codedB_iff _).2 hv.2, ?_, ?_⟩
                  · show c :: x :: y :: z :: t = encE v ++ t
                    unfold encE
                    rw [if_neg (by omega), if_neg (by omega), if_neg (by omega), back c _ (by omega), back x _ (by omega), back y _ (by omega), back z _ (by omega)]
                    rfl
                  · show 4 = (encE v).length
                    unfold encE
                    rw [if_neg (by omega), if_neg (by omega), if_neg (by omega)]
                    rfl
                · cases hr
              · cases hr
            · cases hr
        · rw [if_neg hv] at h; exact absurd rfl h
    · have e : pointE (c :: t) = (0, 0) := by rw [pointE, if_neg h1, if_neg h2, if_neg h3, if_neg h4]
      rw [e] at h
      exact absurd rfl h
/-- the code points of a text -/
def pointsF : Nat → Str → Option (List Nat)
  | _, [] => some []
  | 0, _ :: _ => none
  | k + 1, c :: t => if (pointE (c :: t)).2 = 0 then none else (pointsF k ((c :: t).drop (pointE (c :: t)).2)).map ((pointE (c :: t)).1 :: ·)
theorem pointsF_more : ∀ (n m : Nat) (l : Str), l.length ≤ n → l.length ≤ m → pointsF n l = pointsF m l
  | 0, 0, _, _, _ => rfl
  | 0, m + 1, [], _, _ => rfl
  | n + 1, 0, [], _, _ => rfl
  | n + 1, m + 1, [], _, _ => rfl
  | 0, m + 1, c :: t, h, _ => absurd h (by simp)
  | n + 1, 0, c :: t, _, h => absurd h (by simp)
  | n + 1, m + 1, c :: t, h1, h2 => by
    rw [pointsF, pointsF]
    split
    · rfl
    · rename_i hz
      have hd : ((c :: t).drop (pointE (c :: t)).2).length ≤ t.length := by rw [List.length_drop, List.length_cons]; omega
      have h3 : t.length ≤ n := by simpa using h1
      have h4 : t.length ≤ m := by simpa using h2
      rw [pointsF_more n m _ (by omega) (by omega)]
def pointsE (l : Str) : Option (List Nat) := pointsF l.length l
theorem pointsE_nil : pointsE [] = some [] := rfl
theorem pointsE_step {l : Str} (hl : l ≠ []) : pointsE l = if (pointE l).2 = 0 then none else (pointsE (l.drop (pointE l).2)).map ((pointE l).1 :: ·) := by
  cases l with
  | nil => exact absurd rfl hl
  | cons c t =>
    unfold pointsE
    rw [List.length_cons, pointsF]
    split
    · rfl
    · rename_i hz
      rw [pointsF_more t.length _ _ (by rw [List.length_drop, List.length_cons]; omega) (Nat.le_refl _)]
def encAll : List Nat → Str
  | [] => []
  | v :: l => encE v ++ encAll l
theorem points_enc : ∀ (l : List Nat), (∀ v ∈ l, codedB (v : Nat) = true) → pointsE (encAll l) = some l
  | [], _ => rfl
  | v :: l, h => by
    have hp := point_enc v (h v (List.mem_cons_self ..)) (encAll l)
    have h1 := (encE_len v).1
    rw [encAll, pointsE_step (by intro e; have := congrArg List.length e; rw [List.length_append, List.length_nil] at this; omega), hp, if_neg (by show ¬ (encE v).length = 0; omega)]
    show (pointsE ((encE v ++ encAll l).drop (encE v).length)).map _ = _
    rw [List.drop_left, points_enc l (fun x hx => h x (List.mem_cons_of_mem _ hx))]
    rfl
theorem enc_points : ∀ (n : Nat) (s : Str) (l : List Nat), s.length ≤ n → pointsE s = some l → encAll l = s ∧ ∀ v ∈ l, codedB (v : Nat) = true
  | _, [], l, _, h => by
    rw [pointsE_nil] at h
    cases h
    exact ⟨rfl, fun v hv => absurd hv (by simp)⟩
  | 0, c :: t, l, h, _ => absurd h (by simp)
  | n + 1, c :: t, l, hn, h => by
    rw [pointsE_step (by simp)] at h
    split at h
    · cases h
    · rename_i hz
      obtain ⟨h1, h2, h3⟩ := enc_point hz
      cases hr : pointsE ((c :: t).drop (pointE (c :: t)).2) with
      | none => rw [hr] at h; cases h
      | some m =>
        rw [hr] at h
        have h := Option.some.inj h
        have hd : ((c :: t).drop (pointE (c :: t)).2).length ≤ n := by rw [List.length_drop]; omega
        obtain ⟨e1, e2⟩ := enc_points n _ m hd hr
        rw [← h]
        refine ⟨?_, fun v hv => ?_⟩
        · show encE (pointE (c :: t)).1 ++ encAll m = _
          rw [e1, ← h2]
        · rcases List.mem_cons.1 hv with rfl | hv
          · exact h1
          · exact e2 v hv
/-- the model's check says whether there are code points -/
theorem validD_points : ∀ (n : Nat) (s : Str), s.length ≤ n → ∀ k, s.length ≤ k → Lib.validGoD k s = (pointsE s).isSome
  | _, [], _, k, _ => by
    cases k with
    | zero => rfl
    | succ k => rw [Lib.validGoD, if_pos rfl]; rfl
  | 0, c :: t, h, _, _ => absurd h (by simp)
  | n + 1, c :: t, hn, 0, hk => absurd hk (by simp)
  | n + 1, c :: t, hn, k + 1, hk => by
    rw [Lib.validGoD, if_neg (by simp), pointsE_step (by simp), pointE_eq _ (by simp)]
    by_cases hd : Lib.decodeL (c :: t) = (65533, 1)
    · rw [if_pos (by rw [hd]; exact ⟨rfl, rfl⟩), if_pos hd]
      rfl
    · have hd2 : ¬ ((Lib.decodeL (c :: t)).1 = 65533 ∧ (Lib.decodeL (c :: t)).2 = 1) := fun h => hd (Prod.ext h.1 h.2)
      have hp := pointE_eq (c :: t) (by simp)
      rw [if_neg hd] at hp
      rw [if_neg hd2, if_neg hd]
      have h0 : (Lib.decodeL (c :: t)).2 ≠ 0 := by
        rw [Lib.decodeL_N]
        unfold Lib.decodeN
        repeat' split
        all_goals simp
      rw [if_neg h0]
      have hl : ((c :: t).drop (Lib.decodeL (c :: t)).2).length ≤ t.length := by rw [List.length_drop, List.length_cons]; omega
      have h3 : t.length ≤ n := by simpa using hn
      have h4 : t.length ≤ k := by simpa using hk
      rw [validD_points n _ (by omega) k (by omega)]
      cases pointsE ((c :: t).drop (Lib.decodeL (c :: t)).2) <;> rfl
theorem valid_points (s : Str) : Lib.validD s = (pointsE s).isSome := validD_points s.length s (Nat.le_refl _) s.length (Nat.le_refl _)
theorem points_len : ∀ (n : Nat) (s : Str) (l : List Nat), s.length ≤ n → pointsE s = some l → l.length ≤ s.length
  | _, [], l, _, h => by
    rw [pointsE_nil] at h
    cases h
    exact Nat.le_refl _
  | 0, c :: t, l, h, _ => absurd h (by simp)
  | n + 1, c :: t, l, hn, h => by
    rw [pointsE_step (by simp)] at h
    split at h
    · cases h
    · rename_i hz
      cases hr : pointsE ((c :: t).drop (pointE (c :: t)).2) with
      | none => rw [hr] at h; cases h
      | some m =>
        rw [hr] at h
        have h := Option.some.inj h
        have hd : ((c :: t).drop (pointE (c :: t)).2).length ≤ t.length := by rw [List.length_drop, List.length_cons]; omega
        have h3 : t.length ≤ n := by simpa using hn
        have := points_len n _ m (by omega) hr
        rw [← h, List.length_cons, List.length_cons]
        omega
theorem points_wide : ∀ (n : Nat) (s : Str) (l : List Nat), s.length ≤ n → pointsE s = some l → (l.length < s.length ↔ ∃ v ∈ l, 127 < v)
  | _, [], l, _, h => by
    rw [pointsE_nil] at h
    cases h
    simp
  | 0, c :: t, l, h, _ => absurd h (by simp)
  | n + 1, c :: t, l, hn, h => by
    rw [pointsE_step (by simp)] at h
    split at h
    · cases h
    · rename_i hz
      obtain ⟨h1, h2, h3⟩ := enc_point hz
      cases hr : pointsE ((c :: t).drop (pointE (c :: t)).2) with
      | none => rw [hr] at h; cases h
      | some m =>
        rw [hr] at h
        have h := Option.some.inj h
        have ht : t.length ≤ n := by simpa using hn
        have hdl : ((c :: t).drop (pointE (c :: t)).2).length = t.length + 1 - (pointE (c :: t)).2 := by rw [List.length_drop, List.length_cons]
        have ih := points_wide n _ m (by omega) hr
        have hle := points_len n _ m (by omega) hr
        have hk1 := (encE_len (pointE (c :: t)).1).1
        have hlen := congrArg List.length h2
        rw [List.length_append, hdl, List.length_cons] at hlen
        rw [← h]
        rw [hdl] at ih hle
        generalize (pointE (c :: t)).1 = v at *
        generalize (pointE (c :: t)).2 = k at *
        have hv : k = 1 ↔ v < 128 := by
          rw [h3]
          unfold encE
          by_cases h9 : v < 128
          · rw [if_pos h9]
            exact ⟨fun _ => h9, fun _ => rfl⟩
          · rw [if_neg h9]
            refine ⟨fun e => absurd e ?_, fun e => absurd e h9⟩
            split
            · exact (by decide : ¬ 2 = 1)
            · split
              · exact (by decide : ¬ 3 = 1)
              · exact (by decide : ¬ 4 = 1)
        simp only [List.length_cons, List.mem_cons, exists_eq_or_imp]
        constructor
        · intro hlt
          by_cases h127 : 127 < v
          · exact .inl h127
          · exact .inr (ih.1 (by have := hv.2 (by omega); omega))
        · rintro (h127 | h9)
          · have : k ≠ 1 := fun e => by have := hv.1 e; omega
            omega
          · have := ih.2 h9
            omega
end Go.Proofs.YtihdndaibmgoiaaGreatDoor.Pz
/-
  Rows of ints of the call's own; several bytes put behind a row of bytes.
-/
namespace Go.Proofs.YtihdndaibmgoiaaGreatDoor.Pz
open Go.RowKit
theorem Tryz.infoI : (Tryz.prog.info? 3).map (fun i => (i.zero, i.size, i.bytes)) = some (some (.int .i64 0), 1, 8) := by kernel_rfl
def intCells (l : List Int) : List Value := l.map fun n => .int .i64 n
theorem intCells_len (l : List Int) : (intCells l).length = l.length := by simp [intCells]
theorem intCells_app (a b : List Int) : intCells (a ++ b) = intCells a ++ intCells b := by simp [intCells]
theorem intCells_one (l : List Int) : ∀ u ∈ intCells l, u.oneCell' = true := by
  intro u hu
  obtain ⟨s, _, rfl⟩ := List.mem_map.1 hu
  rfl
/-- a row of texts of the call's own -/
def RowI (B : Nat) (w : World) (v : Value) (l : List Int) : Prop := w.ownsRow B 3 1 v l.length (intCells l)
theorem RowI.nil (B : Nat) (w : World) : RowI B w (.slice none 0 0) [] := World.ownsRow_nil _ _ _ _
theorem RowI.lt {B : Nat} {w : World} {v : Value} {l : List Int} (h : RowI B w v l) : ∀ g, v.ownBlock = some g → g < w.heap.size ∧ B ≤ g := fun g hg => ⟨(ownsRow_lt h g hg).1, ownsRow_base h g hg⟩
theorem RowI.below {B C : Nat} {w w' : World} {v : Value} {l : List Int} (h : RowI B w v l) (hb : Below C w w') (hC : ∀ g, v.ownBlock = some g → g < C) : RowI B w' v l := ownsRow_heap h fun g hg => hb.block g (hC g hg)
theorem RowI.on {B : Nat} {w w' : World} {v : Value} {l : List Int} (h : RowI B w v l) (hb : Below w.heap.size w w') : RowI B w' v l := h.below hb fun g hg => (h.lt g hg).1
/-- the blocks that another row of the call's own leaves -/
theorem RowI.grown {C : Nat} {w w' : World} {v u : Value} {l : List Int} (h : RowI C w u l) (hg : w.grownBy w' v.ownBlock) (hv : ∀ g, v.ownBlock = some g → u.ownBlock ≠ some g) : RowI C w' u l := by
  refine ownsRow_heap h fun g hgu => hg.block g (h.lt g hgu).1 fun e => hv g e.symm hgu
theorem appI_one {w : World} {N : Nat} (hN : w.heap.size = N) {ops : Array Oper} {rest : List Oper} {o : Oper} {a : Act} {Q : Exit → Act → World → Prop} (hgd : o.guard = none) (s x : Operand)
    (ho : o.op = .call { callee := .builtin .append, args := #[s, x], argTypes := #[26, 26] }) (B : Nat) (v : Value) (l : List Int) (q : Int)
    (hs : a.eval s = v) (hown : RowI B w v l) (hx : a.eval x = .slice (some ⟨N, 0, none⟩) 1 1) (hB : B ≤ w.heap.size) (hl : l.length ≤ 10000000)
    (h : ∀ v' w', RowI B w' v' (l ++ [q]) → w.grownBy w' v.ownBlock → (∀ g, v'.ownBlock = some g → v.ownBlock = some g ∨ w.heap.size ≤ g) → wpList Tryz.prog ops Q rest (a.put o.dst v') w') :
    wpList Tryz.prog ops Q (o :: rest) a (w.alloc (.cells #[.int .i64 q] 3)) := by
  obtain ⟨i0, hi, hz0, hz1, hz2⟩ := info_parts Tryz.infoI
  subst hN
  have hown' : (w.alloc (.cells #[.int .i64 q] 3)).ownsRow B 3 1 v l.length (intCells l) := World.ownsRow.alloc hown _
  refine wpList_append_own_at _ hgd s x 26 ho B 3 i0 (.int .i64 0) 1 8 Tryz.underlying26 hi hz0 hz1 hz2 rfl (by decide) v l.length (intCells l) hs hown' ⟨w.heap.size, 0, none⟩ 1 1 [.int .i64 q] hx rfl (cell_one_new _ _ _) (intCells_one [q]) ?_ ?_ ?_ ?_
  · unfold maxLen; omega
  · omega
  · simp; omega
  · intro v' w' hrow hg _ hat
    refine h v' w' ?_ ?_ ?_
    · show w'.ownsRow B 3 1 v' (l ++ [q]).length (intCells (l ++ [q]))
      rw [intCells_app, List.length_append]
      exact hrow
    · refine ⟨hg.os, hg.tape, hg.output, ?_, fun k hk hr => ?_⟩
      · have := hg.size; simp at this; omega
      · rw [hg.block k (by simp; omega) hr]
        exact Below.heap_alloc _ _ _ (by omega)
    · intro g hgv
      rcases hat with h2 | h2
      · exact .inl (by rw [← h2]; exact hgv)
      · rw [h2] at hgv
        have := Option.some.inj hgv
        simp at this
        exact .inr (by omega)
theorem RowI.shape {B : Nat} {w : World} {v : Value} {l : List Int} (h : RowI B w v l) : ∃ a c, v = .slice a l.length c := by
  rcases h.2 with ⟨rfl, h0⟩ | ⟨g, cap, cur, rfl, _⟩
  · exact ⟨none, 0, by rw [h0]⟩
  · exact ⟨_, _, rfl⟩
theorem RowI.at {B : Nat} {w : World} {a : Option Addr} {n c : Nat} {l : List Int} (h : RowI B w (.slice a n c) l) {i : Nat} (hi : i < l.length) : ∃ g, a = some ⟨g, 0, none⟩ ∧ n = l.length ∧ w.cell? ⟨g, i, none⟩ = some (.int .i64 l[i]) := by
  rcases h.2 with ⟨_, h0⟩ | ⟨g, cap, cur, e, _⟩
  · omega
  · have hc := World.ownsRow.cells h (show (Value.slice a n c).ownBlock = some g by rw [e]; rfl) i (.int .i64 l[i]) (by simp [intCells, hi])
    simp only [Value.slice.injEq] at e
    rw [add_none, Nat.zero_add] at hc
    exact ⟨g, e.1, e.2.1, hc⟩
theorem RowI.mono {B C : Nat} {w : World} {v : Value} {l : List Int} (h : RowI B w v l) (hb : C ≤ B) : RowI C w v l := by
  refine ⟨h.1, ?_⟩
  rcases h.2 with hn | ⟨g, cap, cur, e, hB, rest⟩
  · exact .inl hn
  · exact .inr ⟨g, cap, cur, e, by omega, rest⟩
theorem RowI.ints {B : Nat} {w : World} {v : Value} {l : List Int} (h : RowI B w v l) : IntsAt w v l := by
  obtain ⟨a, c, rfl⟩ := h.shape
  have hcap : l.length ≤ c := by
    rcases h.2 with ⟨e, h0⟩ | ⟨g, cap, cur, e, _, _, hc, _⟩
    · omega
    · simp only [Value.slice.injEq] at e
      omega
  refine ⟨a, c, rfl, hcap, fun i hi => ?_⟩
  obtain ⟨g, rfl, _, hc⟩ := h.at hi
  exact ⟨⟨g, 0, none⟩, rfl, (h.lt g rfl).1, by rw [add_none, Nat.zero_add]; exact hc⟩
theorem appB_some {w : World} {N : Nat} (hN : w.heap.size = N) {ops : Array Oper} {rest : List Oper} {o : Oper} {a : Act} {Q : Exit → Act → World → Prop} (hgd : o.guard = none) (s x : Operand)
    (ho : o.op = .call { callee := .builtin .append, args := #[s, x], argTypes := #[46, 46] }) (B : Nat) (v : Value) (l : Str) (q : Str)
    (hs : a.eval s = v) (hown : RowY B w v l) (hx : a.eval x = .slice (some ⟨N, 0, none⟩) q.length q.length) (hB : B ≤ w.heap.size) (hl : l.length ≤ 1000000000) (hq : q.length ≤ 8)
    (h : ∀ v' w', RowY B w' v' (l ++ q) → w.grownBy w' v.ownBlock → (∀ g, v'.ownBlock = some g → v.ownBlock = some g ∨ w.heap.size ≤ g) → wpList Tryz.prog ops Q rest (a.put o.dst v') w') :
    wpList Tryz.prog ops Q (o :: rest) a (w.alloc (.cells (Lib.byteCells q).toArray 5)) := by
  obtain ⟨i0, hi, hz0, hz1, hz2⟩ := info_parts Tryz.info5
  subst hN
  have hown' : (w.alloc (.cells (Lib.byteCells q).toArray 5)).ownsRow B 5 1 v l.length (Lib.byteCells l) := World.ownsRow.alloc hown _
  refine wpList_append_own_at _ hgd s x 46 ho B 5 i0 (.int .u8 0) 1 1 Tryz.underlying46 hi hz0 hz1 hz2 rfl (by decide) v l.length (Lib.byteCells l) hs hown' ⟨w.heap.size, 0, none⟩ q.length q.length (Lib.byteCells q) hx (by rw [Lib.byteCells_length, Nat.mul_one]) (World.news_of_block (heap_alloc_new _ _)) (byteCells_one q) ?_ ?_ ?_ ?_
  · unfold maxLen; omega
  · omega
  · simp; omega
  · intro v' w' hrow hg _ hat
    refine h v' w' ?_ ?_ ?_
    · show w'.ownsRow B 5 1 v' (l ++ q).length (Lib.byteCells (l ++ q))
      rw [Lib.byteCells_append, List.length_append]
      exact hrow
    · refine ⟨hg.os, hg.tape, hg.output, ?_, fun k hk hr => ?_⟩
      · have := hg.size; simp at this; omega
      · rw [hg.block k (by simp; omega) hr]
        exact Below.heap_alloc _ _ _ (by omega)
    · intro g hgv
      rcases hat with h2 | h2
      · exact .inl (by rw [← h2]; exact hgv)
      · rw [h2] at hgv
        have := Option.some.inj hgv
        simp at this
        exact .inr (by omega)
end Go.Proofs.YtihdndaibmgoiaaGreatDoor.Pz
/-
  binary: coded, point.
-/
namespace Go.Proofs.YtihdndaibmgoiaaGreatDoor.Pz
open Go.RowKit
attribute [local go_sem] Oper.semAt_some
set_option maxHeartbeats 1000000 in
theorem coded_fn (v : Int) (w : World) : Calls Tryz.prog 90 #[.int .i64 v] w fun e w' => e = .returned (.bool (codedB v)) ∧ w' = w := by
  by_cases h1 : 0 ≤ v
  · by_cases h2 : v ≤ 1114111
    · by_cases h3 : v < 55296
      · have HC := hid (show codedB v = true by unfold codedB; simp [h1, h2, h3])
        go_enter Tryz.func90, Tryz.ntmps90
        go_wp2
        go_ret
        exact ⟨by rw [HC.out]; simp, rfl⟩
      · by_cases h4 : 57343 < v
        · have HC := hid (show codedB v = true by unfold codedB; simp [h1, h2, h4])
          go_enter Tryz.func90, Tryz.ntmps90
          go_wp2
          go_ret
          exact ⟨by rw [HC.out]; simp, rfl⟩
        · have HC := hid (show codedB v = false by unfold codedB; simp [h3, h4])
          go_enter Tryz.func90, Tryz.ntmps90
          go_wp2
          go_ret
          exact ⟨by rw [HC.out]; simp, rfl⟩
    · have HC := hid (show codedB v = false by unfold codedB; simp [h2])
      go_enter Tryz.func90, Tryz.ntmps90
      go_wp2
      go_ret
      exact ⟨by rw [HC.out]; simp, rfl⟩
  · have HC := hid (show codedB v = false by unfold codedB; simp [h1])
    go_enter Tryz.func90, Tryz.ntmps90
    go_wp2
    go_ret
    exact ⟨by rw [HC.out]; simp, rfl⟩
theorem contE_short : ∀ (k v : Nat) (t : Str), t.length < k → contE k v t = none
  | 0, _, _, h => absurd h (by omega)
  | _ + 1, _, [], _ => rfl
  | k + 1, v, c :: t, h => by
    rw [contE]
    split
    · exact contE_short k _ t (by simpa using h)
    · rfl
set_option maxRecDepth 100000 in
theorem and192 (x : UInt8) : bits .and .u8 (x.toNat : Int) 192 = ((x.toNat / 64 * 64 : Nat) : Int) := by
  have hx := x.toNat_lt
  have h := u8_and_nat x.toNat 192 hx (by decide)
  have h2 : x.toNat &&& 192 = x.toNat / 64 * 64 := by
    have := (show ∀ m : Fin 256, m.1 &&& 192 = m.1 / 64 * 64 from by decide) ⟨x.toNat, hx⟩
    exact this
  rw [h2] at h
  exact h
theorem and63 (x : UInt8) : bits .and .u8 (x.toNat : Int) 63 = ((x.toNat % 64 : Nat) : Int) := by
  have h := u8_and_nat x.toNat 63 x.toNat_lt (by decide)
  rw [nat_mask6] at h
  exact h
theorem and31 (a : Nat) (h : a < 256) : bits .and .i64 (a : Int) 31 = ((a % 32 : Nat) : Int) := by
  have h := i64_and_nat a 31 (by omega) (by decide)
  rw [nat_mask5] at h
  exact h
theorem and15 (a : Nat) (h : a < 256) : bits .and .i64 (a : Int) 15 = ((a % 16 : Nat) : Int) := i64_mask4 a (by omega)
theorem and7i (a : Nat) (h : a < 256) : bits .and .i64 (a : Int) 7 = ((a % 8 : Nat) : Int) := by
  have h := i64_and_nat a 7 (by omega) (by decide)
  rw [nat_mask3] at h
  exact h
/-- what point returns -/
def PointQ (l : Str) (w : World) (e : Ending) (w' : World) : Prop := e = .returned (.tuple #[.int .i64 ((pointE l).1 : Nat), .int .i64 ((pointE l).2 : Nat)]) ∧ w' = w
set_option maxRecDepth 100000 in
set_option maxHeartbeats 4000000 in
theorem point1_fn (c : UInt8) (t : Str) (hr : c.toNat < 128) (hs : (c :: t).length ≤ 1000000) (w : World) : Calls Tryz.prog 88 #[.string ⟨(c :: t).toArray⟩] w (PointQ (c :: t) w) := by
  have hpe : pointE (c :: t) = finP 1 0 (contE (1 - 1) c.toNat t) := by
    rw [pointE, if_pos hr]
    show _ = finP 1 0 (some c.toNat)
    rw [finP_some, if_pos ⟨Nat.zero_le _, by omega⟩]
  have hbyte := (At.start (c :: t)).byte
  have hcl := c.toNat_lt
  obtain ⟨l, hl⟩ : ∃ l, l = c :: t := ⟨_, rfl⟩
  have hln : l.length = t.length + 1 := by rw [hl]; rfl
  have hd1 : l.drop 1 = t := by rw [hl]; rfl
  rw [← hl] at hpe hbyte hs ⊢
  have hsz : (⟨l.toArray⟩ : ByteArray).size = l.length := Lib.size_mk _
  have hg0 : (0 : Int) < (l.length : Int) := by omega
  have hV0l : c.toNat < 256 := by omega
  have g1 : (c.toNat : Int) < 128 := by omega
  obtain ⟨R, hR⟩ : ∃ R, R = contE (1 - 1) c.toNat t := ⟨_, rfl⟩
  rw [← hR] at hpe
  have HPE := hid hpe
  have HR := hid hR
  have HD1 := hid hd1
  have HLN := hid hln
  unfold PointQ
  clear hpe hR hd1 hln hl hr
  by_cases hshort : l.length < 1
  · have hsI : (l.length : Int) < 1 := by omega
    have HP0 := hid (show pointE l = (0, 0) by rw [HPE.out, HR.out, contE_short _ _ _ (by have := HLN.out; omega)]; rfl)
    clear HPE
    go_enter Tryz.func88, Tryz.ntmps88
    go_wp2
    go_ret2
    exact ⟨by rw [HP0.out]; rfl, rfl⟩
  have hsI : ¬ ((l.length : Int) < 1) := by omega
  go_enter Tryz.func88, Tryz.ntmps88
  go_wp2_with fail
  go_loopg [6, 8] (1 - 1) (fun k vv iv wr => ∃ (i V : Nat), 1 ≤ i ∧ i ≤ 1 ∧ vv = .int .i64 (V : Nat) ∧ iv = .int .i64 (i : Nat) ∧ V < 256 * 64 ^ i ∧ R = contE (1 - i) V (l.drop i) ∧ wr = w ∧ k = 1 - i)
  case atStart => exact ⟨1, c.toNat, Nat.le_refl _, by omega, rfl, rfl, by omega, by rw [HR.out, HD1.out], rfl, rfl⟩
  case round =>
    obtain ⟨i, V, h1i, hiN, rfl, rfl, hVl, hR2, hw, hk⟩ := hrel
    replace hk := hk.symm
    subst hk
    replace hw := hw.symm
    subst hw
    have hV9 : V < 4294967296 := by
      have h2 : 64 ^ i ≤ 64 ^ 4 := Nat.pow_le_pow_right (by decide) (by omega)
      have h3 : (64 : Nat) ^ 4 = 16777216 := by decide
      omega
    have HVL := hid hVl
    have HR2 := hid hR2
    clear hVl hR2
    rcases Nat.lt_or_ge i 1 with hlt | hge
    · have hltI : (i : Int) < 1 := by omega
      have hil : i < l.length := by omega
      have hbi := (At.here hil).byte
      obtain ⟨x, hx⟩ : ∃ x, x = l[i] := ⟨_, rfl⟩
      have HDI := hid (show l.drop i = x :: l.drop (i + 1) by rw [hx]; exact List.drop_eq_getElem_cons hil)
      rw [← hx] at hbi
      have hilI : (i : Int) < (l.length : Int) := by omega
      have hxl := x.toNat_lt
      have ha192 := and192 x
      obtain ⟨q, hq⟩ : ∃ q, q = x.toNat / 64 * 64 := ⟨_, rfl⟩
      rw [← hq] at ha192
      have hNi : 1 - i = (1 - (i + 1)) + 1 := by omega
      have hRs : R = if x.toNat / 64 = 2 then contE (1 - (i + 1)) (V * 64 + x.toNat % 64) (l.drop (i + 1)) else none := by
        rw [HR2.out, HDI.out, hNi, contE]
      have HRS := hid hRs
      clear hx hRs hNi
      by_cases hx2 : x.toNat / 64 = 2
      · have hq2 : ((q : Int) != 128) = false := by
          rw [hq, hx2]; rfl
        have ha63 := and63 x
        obtain ⟨m, hm⟩ : ∃ m, m = x.toNat % 64 := ⟨_, rfl⟩
        rw [← hm] at ha63
        have hml : m < 64 := by omega
        have hm0 : (0 : Int) ≤ (m : Int) ∧ (m : Int) < 64 := by omega
        have hV0' : (0 : Int) ≤ (V : Int) ∧ (V : Int) < 4294967296 := by omega
        have hor := i64_or6 V m (by omega) hml
        have HR3 := hid (show R = contE (1 - (i + 1)) (V * 64 + m) (l.drop (i + 1)) by rw [HRS.out, if_pos hx2, hm])
        have HV3 := hid (show V * 64 + m < 256 * 64 ^ (i + 1) by have := HVL.out; rw [Nat.pow_succ]; omega)
        clear hq hx2 hm
        go_wp2
        go_roundg (1 - (i + 1))
        case measure => omega
        case rel => exact ⟨i + 1, V * 64 + m, by omega, hlt, by go_num, by go_num, HV3.out, HR3.out, rfl, rfl⟩
      · have hq2 : ((q : Int) != 128) = true := by
          simp only [bne_iff_ne, ne_eq]
          omega
        have HP0 := hid (show pointE l = (0, 0) by rw [HPE.out, HRS.out, if_neg hx2]; rfl)
        clear hq hx2
        go_wp2
        go_ret2
        exact ⟨by rw [HP0.out]; rfl, rfl⟩
    · obtain rfl : i = 1 := by omega
      have hPV : pointE l = if codedB (V : Int) then (V, 1) else (0, 0) := by
        rw [HPE.out, HR2.out]
        rfl
      have HPV := hid hPV
      have HCD := hid (fun u => coded_fn (V : Int) u)
      clear hPV
      rw [show ((1 : Nat) : Int) = 1 from rfl]
      have hV0' : (0 : Int) ≤ (V : Int) ∧ (V : Int) < 4294967296 := by omega
      cases hcd : codedB (V : Int) with
      | true =>
        have HP0 := hid (show pointE l = (V, 1) by rw [HPV.out, hcd]; rfl)
        rw [hcd] at HCD
        clear hcd
        go_wp2_with (go_at_call 90; refine (HCD.out _).mono ?_; rintro e w' ⟨rfl, rfl⟩)
        go_ret2
        exact ⟨by rw [HP0.out]; rfl, rfl⟩
      | false =>
        have HP0 := hid (show pointE l = (0, 0) by rw [HPV.out, hcd]; rfl)
        rw [hcd] at HCD
        clear hcd
        go_wp2_with (go_at_call 90; refine (HCD.out _).mono ?_; rintro e w' ⟨rfl, rfl⟩)
        go_ret2
        exact ⟨by rw [HP0.out]; rfl, rfl⟩
set_option maxRecDepth 100000 in
set_option maxHeartbeats 4000000 in
theorem point2_fn (c : UInt8) (t : Str) (hr : 192 ≤ c.toNat ∧ c.toNat < 224) (hs : (c :: t).length ≤ 1000000) (w : World) : Calls Tryz.prog 88 #[.string ⟨(c :: t).toArray⟩] w (PointQ (c :: t) w) := by
  have hpe : pointE (c :: t) = finP 2 128 (contE (2 - 1) (c.toNat % 32) t) := by
    rw [pointE, if_neg (by omega), if_pos hr]
  have hbyte := (At.start (c :: t)).byte
  have hcl := c.toNat_lt
  obtain ⟨l, hl⟩ : ∃ l, l = c :: t := ⟨_, rfl⟩
  have hln : l.length = t.length + 1 := by rw [hl]; rfl
  have hd1 : l.drop 1 = t := by rw [hl]; rfl
  rw [← hl] at hpe hbyte hs ⊢
  have hsz : (⟨l.toArray⟩ : ByteArray).size = l.length := Lib.size_mk _
  have hg0 : (0 : Int) < (l.length : Int) := by omega
  obtain ⟨V0, hV0⟩ : ∃ V0, V0 = c.toNat % 32 := ⟨_, rfl⟩
  rw [← hV0] at hpe
  have hV0l : V0 < 256 := by omega
  have g1 : ¬ ((c.toNat : Int) < 128) := by omega
  have g2 : (192 : Int) ≤ (c.toNat : Int) := by omega
  have g3 : (c.toNat : Int) < 224 := by omega
  have hand := and31 c.toNat hcl
  rw [← hV0] at hand
  obtain ⟨R, hR⟩ : ∃ R, R = contE (2 - 1) V0 t := ⟨_, rfl⟩
  rw [← hR] at hpe
  have HPE := hid hpe
  have HR := hid hR
  have HD1 := hid hd1
  have HLN := hid hln
  unfold PointQ
  clear hpe hR hd1 hln hl hV0 hr
  by_cases hshort : l.length < 2
  · have hsI : (l.length : Int) < 2 := by omega
    have HP0 := hid (show pointE l = (0, 0) by rw [HPE.out, HR.out, contE_short _ _ _ (by have := HLN.out; omega)]; rfl)
    clear HPE
    go_enter Tryz.func88, Tryz.ntmps88
    go_wp2
    go_ret2
    exact ⟨by rw [HP0.out]; rfl, rfl⟩
  have hsI : ¬ ((l.length : Int) < 2) := by omega
  go_enter Tryz.func88, Tryz.ntmps88
  go_wp2_with fail
  go_loopg [6, 8] (2 - 1) (fun k vv iv wr => ∃ (i V : Nat), 1 ≤ i ∧ i ≤ 2 ∧ vv = .int .i64 (V : Nat) ∧ iv = .int .i64 (i : Nat) ∧ V < 256 * 64 ^ i ∧ R = contE (2 - i) V (l.drop i) ∧ wr = w ∧ k = 2 - i)
  case atStart => exact ⟨1, V0, Nat.le_refl _, by omega, rfl, rfl, by omega, by rw [HR.out, HD1.out], rfl, rfl⟩
  case round =>
    obtain ⟨i, V, h1i, hiN, rfl, rfl, hVl, hR2, hw, hk⟩ := hrel
    replace hk := hk.symm
    subst hk
    replace hw := hw.symm
    subst hw
    have hV9 : V < 4294967296 := by
      have h2 : 64 ^ i ≤ 64 ^ 4 := Nat.pow_le_pow_right (by decide) (by omega)
      have h3 : (64 : Nat) ^ 4 = 16777216 := by decide
      omega
    have HVL := hid hVl
    have HR2 := hid hR2
    clear hVl hR2
    rcases Nat.lt_or_ge i 2 with hlt | hge
    · have hltI : (i : Int) < 2 := by omega
      have hil : i < l.length := by omega
      have hbi := (At.here hil).byte
      obtain ⟨x, hx⟩ : ∃ x, x = l[i] := ⟨_, rfl⟩
      have HDI := hid (show l.drop i = x :: l.drop (i + 1) by rw [hx]; exact List.drop_eq_getElem_cons hil)
      rw [← hx] at hbi
      have hilI : (i : Int) < (l.length : Int) := by omega
      have hxl := x.toNat_lt
      have ha192 := and192 x
      obtain ⟨q, hq⟩ : ∃ q, q = x.toNat / 64 * 64 := ⟨_, rfl⟩
      rw [← hq] at ha192
      have hNi : 2 - i = (2 - (i + 1)) + 1 := by omega
      have hRs : R = if x.toNat / 64 = 2 then contE (2 - (i + 1)) (V * 64 + x.toNat % 64) (l.drop (i + 1)) else none := by
        rw [HR2.out, HDI.out, hNi, contE]
      have HRS := hid hRs
      clear hx hRs hNi
      by_cases hx2 : x.toNat / 64 = 2
      · have hq2 : ((q : Int) != 128) = false := by
          rw [hq, hx2]; rfl
        have ha63 := and63 x
        obtain ⟨m, hm⟩ : ∃ m, m = x.toNat % 64 := ⟨_, rfl⟩
        rw [← hm] at ha63
        have hml : m < 64 := by omega
        have hm0 : (0 : Int) ≤ (m : Int) ∧ (m : Int) < 64 := by omega
        have hV0' : (0 : Int) ≤ (V : Int) ∧ (V : Int) < 4294967296 := by omega
        have hor := i64_or6 V m (by omega) hml
        have HR3 := hid (show R = contE (2 - (i + 1)) (V * 64 + m) (l.drop (i + 1)) by rw [HRS.out, if_pos hx2, hm])
        have HV3 := hid (show V * 64 + m < 256 * 64 ^ (i + 1) by have := HVL.out; rw [Nat.pow_succ]; omega)
        clear hq hx2 hm
        go_wp2
        go_roundg (2 - (i + 1))
        case measure => omega
        case rel => exact ⟨i + 1, V * 64 + m, by omega, hlt, by go_num, by go_num, HV3.out, HR3.out, rfl, rfl⟩
      · have hq2 : ((q : Int) != 128) = true := by
          simp only [bne_iff_ne, ne_eq]
          omega
        have HP0 := hid (show pointE l = (0, 0) by rw [HPE.out, HRS.out, if_neg hx2]; rfl)
        clear hq hx2
        go_wp2
        go_ret2
        exact ⟨by rw [HP0.out]; rfl, rfl⟩
    · obtain rfl : i = 2 := by omega
      have hPV : pointE l = if V < 128 then (0, 0) else if codedB (V : Int) then (V, 2) else (0, 0) := by
        rw [HPE.out, HR2.out]
        rfl
      have HPV := hid hPV
      have HCD := hid (fun u => coded_fn (V : Int) u)
      clear hPV
      rw [show ((2 : Nat) : Int) = 2 from rfl]
      have hV0' : (0 : Int) ≤ (V : Int) ∧ (V : Int) < 4294967296 := by omega
      by_cases hLs : V < 128
      · have hLI : (V : Int) < 128 := by omega
        have HP0 := hid (show pointE l = (0, 0) by rw [HPV.out, if_pos hLs])
        go_wp2
        go_ret2
        exact ⟨by rw [HP0.out]; rfl, rfl⟩
      have hLI : ¬ ((V : Int) < 128) := by omega
      replace HPV := hid (show pointE l = if codedB (V : Int) then (V, 2) else (0, 0) by rw [HPV.out, if_neg hLs])
      cases hcd : codedB (V : Int) with
      | true =>
        have HP0 := hid (show pointE l = (V, 2) by rw [HPV.out, hcd]; rfl)
        rw [hcd] at HCD
        clear hcd
        go_wp2_with (go_at_call 90; refine (HCD.out _).mono ?_; rintro e w' ⟨rfl, rfl⟩)
        go_ret2
        exact ⟨by rw [HP0.out]; rfl, rfl⟩
      | false =>
        have HP0 := hid (show pointE l = (0, 0) by rw [HPV.out, hcd]; rfl)
        rw [hcd] at HCD
        clear hcd
        go_wp2_with (go_at_call 90; refine (HCD.out _).mono ?_; rintro e w' ⟨rfl, rfl⟩)
        go_ret2
        exact ⟨by rw [HP0.out]; rfl, rfl⟩
set_option maxRecDepth 100000 in
set_option maxHeartbeats 4000000 in
theorem point3_fn (c : UInt8) (t : Str) (hr : 224 ≤ c.toNat ∧ c.toNat < 240) (hs : (c :: t).length ≤ 1000000) (w : World) : Calls Tryz.prog 88 #[.string ⟨(c :: t).toArray⟩] w (PointQ (c :: t) w) := by
  have hpe : pointE (c :: t) = finP 3 2048 (contE (3 - 1) (c.toNat % 16) t) := by
    rw [pointE, if_neg (by omega), if_neg (by omega), if_pos hr]
  have hbyte := (At.start (c :: t)).byte
  have hcl := c.toNat_lt
  obtain ⟨l, hl⟩ : ∃ l, l = c :: t := ⟨_, rfl⟩
  have hln : l.length = t.length + 1 := by rw [hl]; rfl
  have hd1 : l.drop 1 = t := by rw [hl]; rfl
  rw [← hl] at hpe hbyte hs ⊢
  have hsz : (⟨l.toArray⟩ : ByteArray).size = l.length := Lib.size_mk _
  have hg0 : (0 : Int) < (l.length : Int) := by omega
  obtain ⟨V0, hV0⟩ : ∃ V0, V0 = c.toNat % 16 := ⟨_, rfl⟩
  rw [← hV0] at hpe
  have hV0l : V0 < 256 := by omega
  have g1 : ¬ ((c.toNat : Int) < 128) := by omega
  have g2 : (192 : Int) ≤ (c.toNat : Int) := by omega
  have g3 : ¬ ((c.toNat : Int) < 224) := by omega
  have g4 : (224 : Int) ≤ (c.toNat : Int) := by omega
  have g5 : (c.toNat : Int) < 240 := by omega
  have hand := and15 c.toNat hcl
  rw [← hV0] at hand
  obtain ⟨R, hR⟩ : ∃ R, R = contE (3 - 1) V0 t := ⟨_, rfl⟩
  rw [← hR] at hpe
  have HPE := hid hpe
  have HR := hid hR
  have HD1 := hid hd1
  have HLN := hid hln
  unfold PointQ
  clear hpe hR hd1 hln hl hV0 hr
  by_cases hshort : l.length < 3
  · have hsI : (l.length : Int) < 3 := by omega
    have HP0 := hid (show pointE l = (0, 0) by rw [HPE.out, HR.out, contE_short _ _ _ (by have := HLN.out; omega)]; rfl)
    clear HPE
    go_enter Tryz.func88, Tryz.ntmps88
    go_wp2
    go_ret2
    exact ⟨by rw [HP0.out]; rfl, rfl⟩
  have hsI : ¬ ((l.length : Int) < 3) := by omega
  go_enter Tryz.func88, Tryz.ntmps88
  go_wp2_with fail
  go_loopg [6, 8] (3 - 1) (fun k vv iv wr => ∃ (i V : Nat), 1 ≤ i ∧ i ≤ 3 ∧ vv = .int .i64 (V : Nat) ∧ iv = .int .i64 (i : Nat) ∧ V < 256 * 64 ^ i ∧ R = contE (3 - i) V (l.drop i) ∧ wr = w ∧ k = 3 - i)
  case atStart => exact ⟨1, V0, Nat.le_refl _, by omega, rfl, rfl, by omega, by rw [HR.out, HD1.out], rfl, rfl⟩
  case round =>
    obtain ⟨i, V, h1i, hiN, rfl, rfl, hVl, hR2, hw, hk⟩ := hrel
    replace hk := hk.symm
    subst hk
    replace hw := hw.symm
    subst hw
    have hV9 : V < 4294967296 := by
      have h2 : 64 ^ i ≤ 64 ^ 4 := Nat.pow_le_pow_right (by decide) (by omega)
      have h3 : (64 : Nat) ^ 4 = 16777216 := by decide
      omega
    have HVL := hid hVl
    have HR2 := hid hR2
    clear hVl hR2
    rcases Nat.lt_or_ge i 3 with hlt | hge
    · have hltI : (i : Int) < 3 := by omega
      have hil : i < l.length := by omega
      have hbi := (At.here hil).byte
      obtain ⟨x, hx⟩ : ∃ x, x = l[i] := ⟨_, rfl⟩
      have HDI := hid (show l.drop i = x :: l.drop (i + 1) by rw [hx]; exact List.drop_eq_getElem_cons hil)
      rw [← hx] at hbi
      have hilI : (i : Int) < (l.length : Int) := by omega
      have hxl := x.toNat_lt
      have ha192 := and192 x
      obtain ⟨q, hq⟩ : ∃ q, q = x.toNat / 64 * 64 := ⟨_, rfl⟩
      rw [← hq] at ha192
      have hNi : 3 - i = (3 - (i + 1)) + 1 := by omega
      have hRs : R = if x.toNat / 64 = 2 then contE (3 - (i + 1)) (V * 64 + x.toNat % 64) (l.drop (i + 1)) else none := by
        rw [HR2.out, HDI.out, hNi, contE]
      have HRS := hid hRs
      clear hx hRs hNi
      by_cases hx2 : x.toNat / 64 = 2
      · have hq2 : ((q : Int) != 128) = false := by
          rw [hq, hx2]; rfl
        have ha63 := and63 x
        obtain ⟨m, hm⟩ : ∃ m, m = x.toNat % 64 := ⟨_, rfl⟩
        rw [← hm] at ha63
        have hml : m < 64 := by omega
        have hm0 : (0 : Int) ≤ (m : Int) ∧ (m : Int) < 64 := by omega
        have hV0' : (0 : Int) ≤ (V : Int) ∧ (V : Int) < 4294967296 := by omega
        have hor := i64_or6 V m (by omega) hml
        have HR3 := hid (show R = contE (3 - (i + 1)) (V * 64 + m) (l.drop (i + 1)) by rw [HRS.out, if_pos hx2, hm])
        have HV3 := hid (show V * 64 + m < 256 * 64 ^ (i + 1) by have := HVL.out; rw [Nat.pow_succ]; omega)
        clear hq hx2 hm
        go_wp2
        go_roundg (3 - (i + 1))
        case measure => omega
        case rel => exact ⟨i + 1, V * 64 + m, by omega, hlt, by go_num, by go_num, HV3.out, HR3.out, rfl, rfl⟩
      · have hq2 : ((q : Int) != 128) = true := by
          simp only [bne_iff_ne, ne_eq]
          omega
        have HP0 := hid (show pointE l = (0, 0) by rw [HPE.out, HRS.out, if_neg hx2]; rfl)
        clear hq hx2
        go_wp2
        go_ret2
        exact ⟨by rw [HP0.out]; rfl, rfl⟩
    · obtain rfl : i = 3 := by omega
      have hPV : pointE l = if V < 2048 then (0, 0) else if codedB (V : Int) then (V, 3) else (0, 0) := by
        rw [HPE.out, HR2.out]
        rfl
      have HPV := hid hPV
      have HCD := hid (fun u => coded_fn (V : Int) u)
      clear hPV
      rw [show ((3 : Nat) : Int) = 3 from rfl]
      have hV0' : (0 : Int) ≤ (V : Int) ∧ (V : Int) < 4294967296 := by omega
      by_cases hLs : V < 2048
      · have hLI : (V : Int) < 2048 := by omega
        have HP0 := hid (show pointE l = (0, 0) by rw [HPV.out, if_pos hLs])
        go_wp2
        go_ret2
        exact ⟨by rw [HP0.out]; rfl, rfl⟩
      have hLI : ¬ ((V : Int) < 2048) := by omega
      replace HPV := hid (show pointE l = if codedB (V : Int) then (V, 3) else (0, 0) by rw [HPV.out, if_neg hLs])
      cases hcd : codedB (V : Int) with
      | true =>
        have HP0 := hid (show pointE l = (V, 3) by rw [HPV.out, hcd]; rfl)
        rw [hcd] at HCD
        clear hcd
        go_wp2_with (go_at_call 90; refine (HCD.out _).mono ?_; rintro e w' ⟨rfl, rfl⟩)
        go_ret2
        exact ⟨by rw [HP0.out]; rfl, rfl⟩
      | false =>
        have HP0 := hid (show pointE l = (0, 0) by rw [HPV.out, hcd]; rfl)
        rw [hcd] at HCD
        clear hcd
        go_wp2_with (go_at_call 90; refine (HCD.out _).mono ?_; rintro e w' ⟨rfl, rfl⟩)
        go_ret2
        exact ⟨by rw [HP0.out]; rfl, rfl⟩
set_option maxRecDepth 100000 in
set_option maxHeartbeats 4000000 in
theorem point4_fn (c : UInt8) (t : Str) (hr : 240 ≤ c.toNat ∧ c.toNat < 248) (hs : (c :: t).length ≤ 1000000) (w : World) : Calls Tryz.prog 88 #[.string ⟨(c :: t).toArray⟩] w (PointQ (c :: t) w) := by
  have hpe : pointE (c :: t) = finP 4 65536 (contE (4 - 1) (c.toNat % 8) t) := by
    rw [pointE, if_neg (by omega), if_neg (by omega), if_neg (by omega), if_pos hr]
  have hbyte := (At.start (c :: t)).byte
  have hcl := c.toNat_lt
  obtain ⟨l, hl⟩ : ∃ l, l = c :: t := ⟨_, rfl⟩
  have hln : l.length = t.length + 1 := by rw [hl]; rfl
  have hd1 : l.drop 1 = t := by rw [hl]; rfl
  rw [← hl] at hpe hbyte hs ⊢
  have hsz : (⟨l.toArray⟩ : ByteArray).size = l.length := Lib.size_mk _
  have hg0 : (0 : Int) < (l.length : Int) := by omega
  obtain ⟨V0, hV0⟩ : ∃ V0, V0 = c.toNat % 8 := ⟨_, rfl⟩
  rw [← hV0] at hpe
  have hV0l : V0 < 256 := by omega
  have g1 : ¬ ((c.toNat : Int) < 128) := by omega
  have g2 : (192 : Int) ≤ (c.toNat : Int) := by omega
  have g3 : ¬ ((c.toNat : Int) < 224) := by omega
  have g4 : (224 : Int) ≤ (c.toNat : Int) := by omega
  have g5 : ¬ ((c.toNat : Int) < 240) := by omega
  have g6 : (240 : Int) ≤ (c.toNat : Int) := by omega
  have g7 : (c.toNat : Int) < 248 := by omega
  have hand := and7i c.toNat hcl
  rw [← hV0] at hand
  obtain ⟨R, hR⟩ : ∃ R, R = contE (4 - 1) V0 t := ⟨_, rfl⟩
  rw [← hR] at hpe
  have HPE := hid hpe
  have HR := hid hR
  have HD1 := hid hd1
  have HLN := hid hln
  unfold PointQ
  clear hpe hR hd1 hln hl hV0 hr
  by_cases hshort : l.length < 4
  · have hsI : (l.length : Int) < 4 := by omega
    have HP0 := hid (show pointE l = (0, 0) by rw [HPE.out, HR.out, contE_short _ _ _ (by have := HLN.out; omega)]; rfl)
    clear HPE
    go_enter Tryz.func88, Tryz.ntmps88
    go_wp2
    go_ret2
    exact ⟨by rw [HP0.out]; rfl, rfl⟩
  have hsI : ¬ ((l.length : Int) < 4) := by omega
  go_enter Tryz.func88, Tryz.ntmps88
  go_wp2_with fail
  go_loopg [6, 8] (4 - 1) (fun k vv iv wr => ∃ (i V : Nat), 1 ≤ i ∧ i ≤ 4 ∧ vv = .int .i64 (V : Nat) ∧ iv = .int .i64 (i : Nat) ∧ V < 256 * 64 ^ i ∧ R = contE (4 - i) V (l.drop i) ∧ wr = w ∧ k = 4 - i)
  case atStart => exact ⟨1, V0, Nat.le_refl _, by omega, rfl, rfl, by omega, by rw [HR.out, HD1.out], rfl, rfl⟩
  case round =>
    obtain ⟨i, V, h1i, hiN, rfl, rfl, hVl, hR2, hw, hk⟩ := hrel
    replace hk := hk.symm
    subst hk
    replace hw := hw.symm
    subst hw
    have hV9 : V < 4294967296 := by
      have h2 : 64 ^ i ≤ 64 ^ 4 := Nat.pow_le_pow_right (by decide) (by omega)
      have h3 : (64 : Nat) ^ 4 = 16777216 := by decide
      omega
    have HVL := hid hVl
    have HR2 := hid hR2
    clear hVl hR2
    rcases Nat.lt_or_ge i 4 with hlt | hge
    · have hltI : (i : Int) < 4 := by omega
      have hil : i < l.length := by omega
      have hbi := (At.here hil).byte
      obtain ⟨x, hx⟩ : ∃ x, x = l[i] := ⟨_, rfl⟩
      have HDI := hid (show l.drop i = x :: l.drop (i + 1) by rw [hx]; exact List.drop_eq_getElem_cons hil)
      rw [← hx] at hbi
      have hilI : (i : Int) < (l.length : Int) := by omega
      have hxl := x.toNat_lt
      have ha192 := and192 x
      obtain ⟨q, hq⟩ : ∃ q, q = x.toNat / 64 * 64 := ⟨_, rfl⟩
      rw [← hq] at ha192
      have hNi : 4 - i = (4 - (i + 1)) + 1 := by omega
      have hRs : R = if x.toNat / 64 = 2 then contE (4 - (i + 1)) (V * 64 + x.toNat % 64) (l.drop (i + 1)) else none := by
        rw [HR2.out, HDI.out, hNi, contE]
      have HRS := hid hRs
      clear hx hRs hNi
      by_cases hx2 : x.toNat / 64 = 2
      · have hq2 : ((q : Int) != 128) = false := by
          rw [hq, hx2]; rfl
        have ha63 := and63 x
        obtain ⟨m, hm⟩ : ∃ m, m = x.toNat % 64 := ⟨_, rfl⟩
        rw [← hm] at ha63
        have hml : m < 64 := by omega
        have hm0 : (0 : Int) ≤ (m : Int) ∧ (m : Int) < 64 := by omega
        have hV0' : (0 : Int) ≤ (V : Int) ∧ (V : Int) < 4294967296 := by omega
        have hor := i64_or6 V m (by omega) hml
        have HR3 := hid (show R = contE (4 - (i + 1)) (V * 64 + m) (l.drop (i + 1)) by rw [HRS.out, if_pos hx2, hm])
        have HV3 := hid (show V * 64 + m < 256 * 64 ^ (i + 1) by have := HVL.out; rw [Nat.pow_succ]; omega)
        clear hq hx2 hm
        go_wp2
        go_roundg (4 - (i + 1))
        case measure => omega
        case rel => exact ⟨i + 1, V * 64 + m, by omega, hlt, by go_num, by go_num, HV3.out, HR3.out, rfl, rfl⟩
      · have hq2 : ((q : Int) != 128) = true := by
          simp only [bne_iff_ne, ne_eq]
          omega
        have HP0 := hid (show pointE l = (0, 0) by rw [HPE.out, HRS.out, if_neg hx2]; rfl)
        clear hq hx2
        go_wp2
        go_ret2
        exact ⟨by rw [HP0.out]; rfl, rfl⟩
    · obtain rfl : i = 4 := by omega
      have hPV : pointE l = if V < 65536 then (0, 0) else if codedB (V : Int) then (V, 4) else (0, 0) := by
        rw [HPE.out, HR2.out]
        rfl
      have HPV := hid hPV
      have HCD := hid (fun u => coded_fn (V : Int) u)
      clear hPV
      rw [show ((4 : Nat) : Int) = 4 from rfl]
      have hV0' : (0 : Int) ≤ (V : Int) ∧ (V : Int) < 4294967296 := by omega
      by_cases hLs : V < 65536
      · have hLI : (V : Int) < 65536 := by omega
        have HP0 := hid (show pointE l = (0, 0) by rw [HPV.out, if_pos hLs])
        go_wp2
        go_ret2
        exact ⟨by rw [HP0.out]; rfl, rfl⟩
      have hLI : ¬ ((V : Int) < 65536) := by omega
      replace HPV := hid (show pointE l = if codedB (V : Int) then (V, 4) else (0, 0) by rw [HPV.out, if_neg hLs])
      cases hcd : codedB (V : Int) with
      | true =>
        have HP0 := hid (show pointE l = (V, 4) by rw [HPV.out, hcd]; rfl)
        rw [hcd] at HCD
        clear hcd
        go_wp2_with (go_at_call 90; refine (HCD.out _).mono ?_; rintro e w' ⟨rfl, rfl⟩)
        go_ret2
        exact ⟨by rw [HP0.out]; rfl, rfl⟩
      | false =>
        have HP0 := hid (show pointE l = (0, 0) by rw [HPV.out, hcd]; rfl)
        rw [hcd] at HCD
        clear hcd
        go_wp2_with (go_at_call 90; refine (HCD.out _).mono ?_; rintro e w' ⟨rfl, rfl⟩)
        go_ret2
        exact ⟨by rw [HP0.out]; rfl, rfl⟩
theorem point_fn (l : Str) (hl : l ≠ []) (hs : l.length ≤ 1000000) (w : World) : Calls Tryz.prog 88 #[.string ⟨l.toArray⟩] w (PointQ l w) := by
  cases l with
  | nil => exact absurd rfl hl
  | cons c t =>
    by_cases h1 : c.toNat < 128
    · exact point1_fn c t h1 hs w
    by_cases h2 : 192 ≤ c.toNat ∧ c.toNat < 224
    · exact point2_fn c t h2 hs w
    by_cases h3 : 224 ≤ c.toNat ∧ c.toNat < 240
    · exact point3_fn c t h3 hs w
    by_cases h4 : 240 ≤ c.toNat ∧ c.toNat < 248
    · exact point4_fn c t h4 hs w
    have HPE := hid (show pointE (c :: t) = (0, 0) by rw [pointE, if_neg h1, if_neg h2, if_neg h3, if_neg h4])
    have hsz : (⟨(c :: t).toArray⟩ : ByteArray).size = t.length + 1 := Lib.size_mk _
    have hbyte := (At.start (c :: t)).byte
    have hc := c.toNat_lt
    have hg0 : (0 : Int) < ((t.length : Int) + 1) := by omega
    obtain ⟨s, hs2⟩ : ∃ s, s = c :: t := ⟨_, rfl⟩
    unfold PointQ
    rw [← hs2] at hbyte hsz HPE ⊢
    rw [HPE.out]
    have g1 : ¬ ((c.toNat : Int) < 128) := by omega
    clear HPE hs2
    by_cases k1 : (192 : Int) ≤ (c.toNat : Int)
    · have k2 : ¬ ((c.toNat : Int) < 224) := by omega
      have k3 : (224 : Int) ≤ (c.toNat : Int) := by omega
      have k4 : ¬ ((c.toNat : Int) < 240) := by omega
      have k5 : (240 : Int) ≤ (c.toNat : Int) := by omega
      have k6 : ¬ ((c.toNat : Int) < 248) := by omega
      clear h1 h2 h3 h4
      go_enter Tryz.func88, Tryz.ntmps88
      go_wp2
      go_ret2
      exact ⟨rfl, rfl⟩
    · have k3 : ¬ ((224 : Int) ≤ (c.toNat : Int)) := by omega
      have k5 : ¬ ((240 : Int) ≤ (c.toNat : Int)) := by omega
      clear h1 h2 h3 h4
      go_enter Tryz.func88, Tryz.ntmps88
      go_wp2
      go_ret2
      exact ⟨rfl, rfl⟩
end Go.Proofs.YtihdndaibmgoiaaGreatDoor.Pz
/-
  binary: Points, OfPoints, Wide, Latin, Unlatin.
-/
namespace Go.Proofs.YtihdndaibmgoiaaGreatDoor.Pz
open Go.RowKit
attribute [local go_sem] Oper.semAt_some
def intsOf (l : List Nat) : List Int := l.map fun (n : Nat) => ((n : Nat) : Int)
/-- what Points answers -/
def ptsRes (s : Str) : List Int × Int := match pointsE s with
  | none => ([], 2)
  | some l => (intsOf l, 0)
def PtsQ (s : Str) (w : World) (e : Ending) (w' : World) : Prop := ∃ v, e = .returned (.tuple #[v, .int .i64 (ptsRes s).2]) ∧ RowI w.heap.size w' v (ptsRes s).1 ∧ Below w.heap.size w w'
set_option maxRecDepth 100000 in
set_option maxHeartbeats 4000000 in
theorem points_fn (s : Str) (hs : s.length ≤ 1000000) (w : World) : Calls Tryz.prog 29 #[.string ⟨s.toArray⟩] w (PtsQ s w) := by
  obtain ⟨P, hP⟩ : ∃ P, P = pointsE s := ⟨_, rfl⟩
  have HP := hid hP
  clear hP
  unfold PtsQ
  go_enter Tryz.func29, Tryz.ntmps29
  go_wp2_with fail
  go_loopg [0, 4] (s.length + 1) (fun k sv lv wr => ∃ (t : Str) (out : List Nat), sv = .string ⟨t.toArray⟩ ∧ t.length ≤ 1000000 ∧ out.length + t.length ≤ s.length ∧ RowI w.heap.size wr lv (intsOf out) ∧ P = (pointsE t).map (out ++ ·) ∧ Below w.heap.size w wr ∧ k = t.length + 1)
  case atStart => exact ⟨s, [], rfl, hs, by simp, RowI.nil _ _, by rw [HP.out]; cases pointsE s <;> rfl, Below.refl _ _, rfl⟩
  case round =>
    obtain ⟨t, out, rfl, htl, hol, hrow, hPt, hbl, hk⟩ := hrel
    replace hk := hk.symm
    subst hk
    have hsz : (⟨t.toArray⟩ : ByteArray).size = t.length := Lib.size_mk _
    obtain ⟨ao, co, he⟩ := hrow.shape
    obtain ⟨no, hno⟩ : ∃ no, no = (intsOf out).length := ⟨_, rfl⟩
    rw [← hno] at he
    have hnl : (intsOf out).length ≤ 10000000 := by unfold intsOf; rw [List.length_map]; omega
    have HROW := hid hrow
    have HPT := hid hPt
    have HBL := hid hbl
    have hBr := hbl.size
    clear hrow hPt hbl hno
    subst he
    cases t with
    | nil =>
      have HRS := hid (show ptsRes s = (intsOf out, 0) by
        unfold ptsRes
        rw [← HP.out, HPT.out, pointsE_nil]
        simp)
      go_wp2
      go_ret2
      exact ⟨_, by rw [HRS.out]; rfl, by rw [HRS.out]; exact HROW.out, HBL.out⟩
    | cons c t2 =>
      have HPF := hid (fun u => point_fn (c :: t2) (by simp) htl u)
      have hpt2 := HPT.out
      rw [pointsE_step (by simp)] at hpt2
      obtain ⟨t, ht⟩ : ∃ t, t = c :: t2 := ⟨_, rfl⟩
      have hne1 : t.toArray.toList ≠ [] := by rw [ht]; simp
      have hne2 : t ≠ [] := by rw [ht]; simp
      have hne3 : t.isEmpty = false := by rw [ht]; rfl
      have hne4 : decide (t = []) = false := by rw [ht]; simp
      rw [← ht] at HPF hpt2 htl hsz hol ⊢
      obtain ⟨V, n, hVn⟩ : ∃ V n, pointE t = (V, n) := ⟨_, _, rfl⟩
      have HPE := hid (fun (h : (pointE t).2 ≠ 0) => (enc_point h).2.2)
      have HLE := hid (fun (h : (pointE t).2 ≠ 0) => congrArg List.length (enc_point h).2.1)
      unfold PointQ at HPF
      rw [hVn] at HPF hpt2 HPE HLE
      dsimp only at HPF hpt2 HPE HLE
      have HPT2 := hid hpt2
      have HTC := hid ht
      clear hpt2 hVn HPT ht
      by_cases hn : n = 0
      · have hnI : ((n : Int) == 0) = true := by rw [hn]; rfl
        have HRS := hid (show ptsRes s = ([], 2) by
          unfold ptsRes
          rw [← HP.out, HPT2.out, if_pos hn]
          rfl)
        clear hn
        go_wp2_with ((with_reducible refine (HPF.out _).mono ?_); rintro e w1 ⟨rfl, rfl⟩)
        go_ret2
        exact ⟨_, by rw [HRS.out]; rfl, by rw [HRS.out]; exact RowI.nil _ _, HBL.out⟩
      · have hnI : ((n : Int) == 0) = false := by simp only [beq_eq_false_iff_ne, ne_eq]; omega
        have hnt : n ≤ t.length := by
          have h1 := HLE.out hn
          rw [List.length_append, List.length_drop] at h1
          have h2 := HPE.out hn
          omega
        have hntI : (n : Int) ≤ (t.length : Int) := by omega
        have hext : (⟨t.toArray⟩ : ByteArray).extract n t.length = ⟨(t.drop n).toArray⟩ := by
          rw [Lib.extract_mk]
          congr 2
          rw [List.take_of_length_le (by rw [List.length_drop]; exact Nat.le_refl _)]
        obtain ⟨u, hu⟩ : ∃ u, u = t.drop n := ⟨_, rfl⟩
        have hul : u.length = t.length - n := by rw [hu, List.length_drop]
        rw [← hu] at hext
        have HP3 := hid (show P = (pointsE u).map ((out ++ [V]) ++ ·) by
          rw [HPT2.out, if_neg hn, ← hu]
          cases pointsE u with
          | none => rfl
          | some l => simp)
        have HUL := hid hul
        have hn1 : 1 ≤ n := by omega
        have hap : intsOf (out ++ [V]) = intsOf out ++ [(V : Int)] := by unfold intsOf; simp
        have HAP := hid hap
        clear hn hu hul hap
        go_wp2_with (first | ((with_reducible refine (HPF.out _).mono ?_); rintro e w1 ⟨rfl, rfl⟩) | (at_builtin; refine appI_one rfl rfl (.tmp 16) (.tmp 18) rfl w.heap.size _ _ (V : Int) rfl HROW.out rfl hBr hnl ?_; intro v9 w9 hr9 hg9 hv9; have HR9 := hid hr9; have HG9 := hid hg9; clear hr9 hg9 hv9))
        go_roundg (u.length + 1)
        case measure =>
          have h1 := HUL.out
          have h2 := HTC.out
          rw [← h2]
          omega
        case rel => exact ⟨u, out ++ [V], rfl, by have := HUL.out; omega, by rw [List.length_append, List.length_singleton]; have := HUL.out; omega, by rw [HAP.out]; exact HR9.out, HP3.out, HBL.out.grown HG9.out hBr (fun k hk => (HROW.out.lt k hk).2), rfl⟩
/-- what OfPoints answers -/
def ofPtsE : List Int → Option Str
  | [] => some []
  | v :: l => if codedB v then (ofPtsE l).map (encE v.toNat ++ ·) else none
def ofPtsRes (l : List Int) : Str × Int := match ofPtsE l with
  | none => ([], 7)
  | some s => (s, 0)
def TxtQ (r : Str × Int) (w : World) (e : Ending) (w' : World) : Prop := e = .returned (.tuple #[.string ⟨r.1.toArray⟩, .int .i64 r.2]) ∧ Below w.heap.size w w'
theorem u8wrap (c : UInt8) : IntKind.u8.wrap (c.toNat : Int) = (c.toNat : Int) := by
  have := c.toNat_lt
  rw [IntKind.wrap_u8]
  omega
theorem or_sum (A m k : Nat) (hA : A % 2 ^ k = 0) (hm : m < 2 ^ k) (h : A + m < 256) : bits .or .i64 (A : Int) (m : Int) = (((UInt8.ofNat (A + m)).toNat : Nat) : Int) := by
  have h1 := i64_or_nat A m (by omega) (by omega)
  rw [nat_join k A m hA hm] at h1
  rw [h1, ofNat_lt h]
theorem and63i (v : Nat) (h : v < 9223372036854775808) : bits .and .i64 (v : Int) 63 = ((v % 64 : Nat) : Int) := i64_mask6 v h
set_option maxRecDepth 1000000 in
set_option maxHeartbeats 16000000 in
theorem ofPoints_fn (l : List Int) (v : Value) (w : World) (hv : IntsAt w v l) (hl : l.length ≤ 1000000) : Calls Tryz.prog 31 #[v] w (TxtQ (ofPtsRes l) w) := by
  obtain ⟨a, cap, rfl, hcap, hcell⟩ := hv
  obtain ⟨n, hn⟩ : ∃ n, n = l.length := ⟨_, rfl⟩
  have HN := hid hn
  have HV := hid hcell
  obtain ⟨P, hP⟩ : ∃ P, P = ofPtsE l := ⟨_, rfl⟩
  have HP := hid hP
  rw [← hn] at hl ⊢
  unfold TxtQ
  clear hcell hn hcap hP
  go_enter Tryz.func31, Tryz.ntmps31
  go_wp2_with fail
  go_loopg [4, 9] n (fun k lv iv wr => ∃ (i : Nat) (out : Str), iv = .int .i64 (i : Nat) ∧ i ≤ n ∧ RowY w.heap.size wr lv out ∧ out.length ≤ 4 * i ∧ P = (ofPtsE (l.drop i)).map (out ++ ·) ∧ Below w.heap.size w wr ∧ k = n - i)
  case atStart => exact ⟨0, [], rfl, Nat.zero_le _, RowY.nil _ _, by simp, by rw [HP.out, List.drop_zero]; cases ofPtsE l <;> rfl, Below.refl _ _, rfl⟩
  case round =>
    obtain ⟨i, out, rfl, hin, hrow, hol, hPi, hbl, hk⟩ := hrel
    replace hk := hk.symm
    subst hk
    have hstr := hrow.str
    obtain ⟨ao, co, he⟩ := hrow.shape
    obtain ⟨no, hno⟩ : ∃ no, no = out.length := ⟨_, rfl⟩
    rw [← hno] at he
    have hnl : out.length ≤ 1000000000 := by omega
    have HROW := hid hrow
    have HPI := hid hPi
    have HBL := hid hbl
    have hBr := hbl.size
    clear hrow hPi hbl hno
    subst he
    rcases Nat.lt_or_ge i n with hlt | hge
    · have hltI : (i : Int) < (n : Int) := by omega
      have hil : i < l.length := by rw [← HN.out]; exact hlt
      obtain ⟨p, rfl, hpb, hpc⟩ := HV.out i hil
      obtain ⟨x, hx⟩ : ∃ x, x = l[i] := ⟨_, rfl⟩
      rw [← hx] at hpc
      have hpw : wr.cell? (p.add i) = some (.int .i64 x) := by rw [HBL.out.cell (p := p.add i) (by rw [add_block]; exact hpb)]; exact hpc
      have hPx : P = if codedB x then (ofPtsE (l.drop (i + 1))).map ((out ++ encE x.toNat) ++ ·) else none := by
        rw [HPI.out, List.drop_eq_getElem_cons hil, ofPtsE, ← hx]
        split
        · cases ofPtsE (l.drop (i + 1)) with
          | none => rfl
          | some r => simp
        · rfl
      have HPX := hid hPx
      have HCD := hid (fun u => coded_fn x u)
      clear hPx hx hpc hstr
      cases hcd : codedB x with
      | false =>
        have HRS := hid (show ofPtsRes l = ([], 7) by unfold ofPtsRes; rw [← HP.out, HPX.out, hcd]; rfl)
        rw [hcd] at HCD
        clear hcd
        by_cases h0 : i = 0
        · subst h0
          replace hpw : wr.cell? p = some (.int .i64 x) := hpw
          go_wp2_with (go_at_call 90; refine (HCD.out _).mono ?_; rintro e w' ⟨rfl, rfl⟩)
          go_ret2
          exact ⟨by rw [HRS.out]; rfl, HBL.out⟩
        · go_wp2_with (go_at_call 90; refine (HCD.out _).mono ?_; rintro e w' ⟨rfl, rfl⟩)
          go_ret2
          exact ⟨by rw [HRS.out]; rfl, HBL.out⟩
      | true =>
        have hxc := hcd
        rw [hcd] at HCD
        replace HPX := hid (show P = (ofPtsE (l.drop (i + 1))).map ((out ++ encE x.toNat) ++ ·) by rw [HPX.out, hcd]; rfl)
        obtain ⟨V, rfl⟩ : ∃ V : Nat, x = (V : Int) := by
          refine ⟨x.toNat, ?_⟩
          unfold codedB at hcd
          simp only [Bool.and_eq_true, decide_eq_true_eq] at hcd
          omega
        have hVc := (codedB_iff V).1 hxc
        rw [Int.toNat_natCast] at HPX
        have hV0 : (0 : Int) ≤ (V : Int) ∧ (V : Int) ≤ 1114111 := by omega
        clear hcd hxc
        by_cases g1 : V < 128
        · have g1I : (V : Int) < 128 := by omega
          have hen : encE V = [UInt8.ofNat V] := by unfold encE; rw [if_pos g1]
          have hcv : IntKind.u8.wrap (V : Int) = ((UInt8.ofNat V).toNat : Int) := by rw [ofNat_lt (by omega), IntKind.wrap_u8]; omega
          have HEN := hid hen
          obtain ⟨c0, hc0⟩ : ∃ c0, c0 = UInt8.ofNat V := ⟨_, rfl⟩
          rw [← hc0] at hcv HEN
          clear hen hc0 hVc g1
          by_cases h0 : i = 0
          · subst h0
            replace hpw : wr.cell? p = some (.int .i64 (V : Int)) := hpw
            go_wp2_with (first | (go_at_call 90; refine (HCD.out _).mono ?_; rintro e w' ⟨rfl, rfl⟩) | (at_builtin; refine appB_some rfl rfl (.tmp 41) (.tmp 44) rfl w.heap.size _ _ [c0] rfl HROW.out rfl hBr hnl (by decide : (1 : Nat) ≤ 8) ?_; intro v9 w9 hr9 hg9 hv9; have HR9 := hid hr9; have HG9 := hid hg9; clear hr9 hg9 hv9))
            go_roundg (n - (0 + 1))
            case measure => omega
            case rel => exact ⟨0 + 1, out ++ [c0], by go_num, hlt, HR9.out, by rw [List.length_append]; simp only [List.length_cons, List.length_nil]; omega, by rw [HPX.out, HEN.out], HBL.out.grown HG9.out hBr (fun k hk => (HROW.out.lt k hk).2), rfl⟩
          · go_wp2_with (first | (go_at_call 90; refine (HCD.out _).mono ?_; rintro e w' ⟨rfl, rfl⟩) | (at_builtin; refine appB_some rfl rfl (.tmp 41) (.tmp 44) rfl w.heap.size _ _ [c0] rfl HROW.out rfl hBr hnl (by decide : (1 : Nat) ≤ 8) ?_; intro v9 w9 hr9 hg9 hv9; have HR9 := hid hr9; have HG9 := hid hg9; clear hr9 hg9 hv9))
            go_roundg (n - (i + 1))
            case measure => omega
            case rel => exact ⟨i + 1, out ++ [c0], by go_num, hlt, HR9.out, by rw [List.length_append]; simp only [List.length_cons, List.length_nil]; omega, by rw [HPX.out, HEN.out], HBL.out.grown HG9.out hBr (fun k hk => (HROW.out.lt k hk).2), rfl⟩
        have g1I : ¬ ((V : Int) < 128) := by omega
        by_cases g2 : V < 2048
        · have g2I : (V : Int) < 2048 := by omega
          have hen : encE V = [UInt8.ofNat (192 + V / 64), UInt8.ofNat (128 + V % 64)] := by unfold encE; rw [if_neg g1, if_pos g2]
          obtain ⟨z, hz⟩ : ∃ z, z = V / 64 := ⟨_, rfl⟩
          have hzI : (V : Int) / 64 = (z : Int) := by omega
          have ho0 := or_sum 192 z 5 (by decide) (by omega) (by omega)
          have hm1 := and63i V (by omega)
          obtain ⟨m, hm⟩ : ∃ m, m = V % 64 := ⟨_, rfl⟩
          rw [← hm] at hm1
          have ho1 := or_sum 128 m 6 (by decide) (by omega) (by omega)
          rw [← hz, ← hm] at hen
          obtain ⟨c0, hc0⟩ : ∃ c0, c0 = UInt8.ofNat (192 + z) := ⟨_, rfl⟩
          obtain ⟨c1, hc1⟩ : ∃ c1, c1 = UInt8.ofNat (128 + m) := ⟨_, rfl⟩
          rw [← hc0] at ho0 hen
          rw [← hc1] at ho1 hen
          have w0 := u8wrap c0
          have w1 := u8wrap c1
          have HEN := hid hen
          replace ho0 : bits .or .i64 192 (z : Int) = (c0.toNat : Int) := ho0
          replace ho1 : bits .or .i64 128 (m : Int) = (c1.toNat : Int) := ho1
          clear hen hc0 hc1 hVc g1 g2 hz hm
          by_cases h0 : i = 0
          · subst h0
            replace hpw : wr.cell? p = some (.int .i64 (V : Int)) := hpw
            go_wp2_with (first | (go_at_call 90; refine (HCD.out _).mono ?_; rintro e w' ⟨rfl, rfl⟩) | (at_builtin; refine appB_some rfl rfl (.tmp 49) (.tmp 58) rfl w.heap.size _ _ [c0, c1] rfl HROW.out rfl hBr hnl (by decide : (2 : Nat) ≤ 8) ?_; intro v9 w9 hr9 hg9 hv9; have HR9 := hid hr9; have HG9 := hid hg9; clear hr9 hg9 hv9))
            go_roundg (n - (0 + 1))
            case measure => omega
            case rel => exact ⟨0 + 1, out ++ [c0, c1], by go_num, hlt, HR9.out, by rw [List.length_append]; simp only [List.length_cons, List.length_nil]; omega, by rw [HPX.out, HEN.out], HBL.out.grown HG9.out hBr (fun k hk => (HROW.out.lt k hk).2), rfl⟩
          · go_wp2_with (first | (go_at_call 90; refine (HCD.out _).mono ?_; rintro e w' ⟨rfl, rfl⟩) | (at_builtin; refine appB_some rfl rfl (.tmp 49) (.tmp 58) rfl w.heap.size _ _ [c0, c1] rfl HROW.out rfl hBr hnl (by decide : (2 : Nat) ≤ 8) ?_; intro v9 w9 hr9 hg9 hv9; have HR9 := hid hr9; have HG9 := hid hg9; clear hr9 hg9 hv9))
            go_roundg (n - (i + 1))
            case measure => omega
            case rel => exact ⟨i + 1, out ++ [c0, c1], by go_num, hlt, HR9.out, by rw [List.length_append]; simp only [List.length_cons, List.length_nil]; omega, by rw [HPX.out, HEN.out], HBL.out.grown HG9.out hBr (fun k hk => (HROW.out.lt k hk).2), rfl⟩
        have g2I : ¬ ((V : Int) < 2048) := by omega
        by_cases g3 : V < 65536
        · have g3I : decide ((V : Int) < 65536) = true := decide_eq_true (by omega)
          have hen : encE V = [UInt8.ofNat (224 + V / 4096), UInt8.ofNat (128 + V / 64 % 64), UInt8.ofNat (128 + V % 64)] := by unfold encE; rw [if_neg g1, if_neg g2, if_pos g3]
          obtain ⟨z, hz⟩ : ∃ z, z = V / 4096 := ⟨_, rfl⟩
          have hzI : (V : Int) / 4096 = (z : Int) := by omega
          have ho0 := or_sum 224 z 4 (by decide) (by omega) (by omega)
          obtain ⟨y, hy⟩ : ∃ y, y = V / 64 := ⟨_, rfl⟩
          have hyI : (V : Int) / 64 = (y : Int) := by omega
          have hm2 := and63i y (by omega)
          obtain ⟨k, hk⟩ : ∃ k, k = y % 64 := ⟨_, rfl⟩
          rw [← hk] at hm2
          have ho2 := or_sum 128 k 6 (by decide) (by omega) (by omega)
          have hm1 := and63i V (by omega)
          obtain ⟨m, hm⟩ : ∃ m, m = V % 64 := ⟨_, rfl⟩
          rw [← hm] at hm1
          have ho1 := or_sum 128 m 6 (by decide) (by omega) (by omega)
          rw [← hz, ← hy, ← hk, ← hm] at hen
          obtain ⟨c0, hc0⟩ : ∃ c0, c0 = UInt8.ofNat (224 + z) := ⟨_, rfl⟩
          obtain ⟨c1, hc1⟩ : ∃ c1, c1 = UInt8.ofNat (128 + k) := ⟨_, rfl⟩
          obtain ⟨c2, hc2⟩ : ∃ c2, c2 = UInt8.ofNat (128 + m) := ⟨_, rfl⟩
          rw [← hc0] at ho0 hen
          rw [← hc1] at ho2 hen
          rw [← hc2] at ho1 hen
          have w0 := u8wrap c0
          have w1 := u8wrap c1
          have w2 := u8wrap c2
          have HEN := hid hen
          replace ho0 : bits .or .i64 224 (z : Int) = (c0.toNat : Int) := ho0
          replace ho2 : bits .or .i64 128 (k : Int) = (c1.toNat : Int) := ho2
          replace ho1 : bits .or .i64 128 (m : Int) = (c2.toNat : Int) := ho1
          clear hen hc0 hc1 hc2 hVc g1 g2 g3 hz hm hy hk
          by_cases h0 : i = 0
          · subst h0
            replace hpw : wr.cell? p = some (.int .i64 (V : Int)) := hpw
            go_wp2_with (first | (go_at_call 90; refine (HCD.out _).mono ?_; rintro e w' ⟨rfl, rfl⟩) | (at_builtin; refine appB_some rfl rfl (.tmp 63) (.tmp 77) rfl w.heap.size _ _ [c0, c1, c2] rfl HROW.out rfl hBr hnl (by decide : (3 : Nat) ≤ 8) ?_; intro v9 w9 hr9 hg9 hv9; have HR9 := hid hr9; have HG9 := hid hg9; clear hr9 hg9 hv9))
            go_roundg (n - (0 + 1))
            case measure => omega
            case rel => exact ⟨0 + 1, out ++ [c0, c1, c2], by go_num, hlt, HR9.out, by rw [List.length_append]; simp only [List.length_cons, List.length_nil]; omega, by rw [HPX.out, HEN.out], HBL.out.grown HG9.out hBr (fun k hk => (HROW.out.lt k hk).2), rfl⟩
          · go_wp2_with (first | (go_at_call 90; refine (HCD.out _).mono ?_; rintro e w' ⟨rfl, rfl⟩) | (at_builtin; refine appB_some rfl rfl (.tmp 63) (.tmp 77) rfl w.heap.size _ _ [c0, c1, c2] rfl HROW.out rfl hBr hnl (by decide : (3 : Nat) ≤ 8) ?_; intro v9 w9 hr9 hg9 hv9; have HR9 := hid hr9; have HG9 := hid hg9; clear hr9 hg9 hv9))
            go_roundg (n - (i + 1))
            case measure => omega
            case rel => exact ⟨i + 1, out ++ [c0, c1, c2], by go_num, hlt, HR9.out, by rw [List.length_append]; simp only [List.length_cons, List.length_nil]; omega, by rw [HPX.out, HEN.out], HBL.out.grown HG9.out hBr (fun k hk => (HROW.out.lt k hk).2), rfl⟩
        have g3I : decide ((V : Int) < 65536) = false := decide_eq_false (by omega)
        have hen : encE V = [UInt8.ofNat (240 + V / 262144), UInt8.ofNat (128 + V / 4096 % 64), UInt8.ofNat (128 + V / 64 % 64), UInt8.ofNat (128 + V % 64)] := by unfold encE; rw [if_neg g1, if_neg g2, if_neg g3]
        obtain ⟨z, hz⟩ : ∃ z, z = V / 262144 := ⟨_, rfl⟩
        have hzI : (V : Int) / 262144 = (z : Int) := by omega
        have ho0 := or_sum 240 z 3 (by decide) (by omega) (by omega)
        obtain ⟨x9, hx9⟩ : ∃ x9, x9 = V / 4096 := ⟨_, rfl⟩
        have hxI : (V : Int) / 4096 = (x9 : Int) := by omega
        have hm3 := and63i x9 (by omega)
        obtain ⟨j, hj⟩ : ∃ j, j = x9 % 64 := ⟨_, rfl⟩
        rw [← hj] at hm3
        have ho3 := or_sum 128 j 6 (by decide) (by omega) (by omega)
        obtain ⟨y, hy⟩ : ∃ y, y = V / 64 := ⟨_, rfl⟩
        have hyI : (V : Int) / 64 = (y : Int) := by omega
        have hm2 := and63i y (by omega)
        obtain ⟨k, hk⟩ : ∃ k, k = y % 64 := ⟨_, rfl⟩
        rw [← hk] at hm2
        have ho2 := or_sum 128 k 6 (by decide) (by omega) (by omega)
        have hm1 := and63i V (by omega)
        obtain ⟨m, hm⟩ : ∃ m, m = V % 64 := ⟨_, rfl⟩
        rw [← hm] at hm1
        have ho1 := or_sum 128 m 6 (by decide) (by omega) (by omega)
        rw [← hz, ← hx9, ← hj, ← hy, ← hk, ← hm] at hen
        obtain ⟨c0, hc0⟩ : ∃ c0, c0 = UInt8.ofNat (240 + z) := ⟨_, rfl⟩
        obtain ⟨c1, hc1⟩ : ∃ c1, c1 = UInt8.ofNat (128 + j) := ⟨_, rfl⟩
        obtain ⟨c2, hc2⟩ : ∃ c2, c2 = UInt8.ofNat (128 + k) := ⟨_, rfl⟩
        obtain ⟨c3, hc3⟩ : ∃ c3, c3 = UInt8.ofNat (128 + m) := ⟨_, rfl⟩
        rw [← hc0] at ho0 hen
        rw [← hc1] at ho3 hen
        rw [← hc2] at ho2 hen
        rw [← hc3] at ho1 hen
        have w0 := u8wrap c0
        have w1 := u8wrap c1
        have w2 := u8wrap c2
        have w3 := u8wrap c3
        have HEN := hid hen
        replace ho0 : bits .or .i64 240 (z : Int) = (c0.toNat : Int) := ho0
        replace ho3 : bits .or .i64 128 (j : Int) = (c1.toNat : Int) := ho3
        replace ho2 : bits .or .i64 128 (k : Int) = (c2.toNat : Int) := ho2
        replace ho1 : bits .or .i64 128 (m : Int) = (c3.toNat : Int) := ho1
        clear hen hc0 hc1 hc2 hc3 hVc g1 g2 g3 hz hm hy hk hx9 hj
        by_cases h0 : i = 0
        · subst h0
          replace hpw : wr.cell? p = some (.int .i64 (V : Int)) := hpw
          go_wp2_with (first | (go_at_call 90; refine (HCD.out _).mono ?_; rintro e w' ⟨rfl, rfl⟩) | (at_builtin; refine appB_some rfl rfl (.tmp 13) (.tmp 32) rfl w.heap.size _ _ [c0, c1, c2, c3] rfl HROW.out rfl hBr hnl (by decide : (4 : Nat) ≤ 8) ?_; intro v9 w9 hr9 hg9 hv9; have HR9 := hid hr9; have HG9 := hid hg9; clear hr9 hg9 hv9))
          go_roundg (n - (0 + 1))
          case measure => omega
          case rel => exact ⟨0 + 1, out ++ [c0, c1, c2, c3], by go_num, hlt, HR9.out, by rw [List.length_append]; simp only [List.length_cons, List.length_nil]; omega, by rw [HPX.out, HEN.out], HBL.out.grown HG9.out hBr (fun k hk => (HROW.out.lt k hk).2), rfl⟩
        · go_wp2_with (first | (go_at_call 90; refine (HCD.out _).mono ?_; rintro e w' ⟨rfl, rfl⟩) | (at_builtin; refine appB_some rfl rfl (.tmp 13) (.tmp 32) rfl w.heap.size _ _ [c0, c1, c2, c3] rfl HROW.out rfl hBr hnl (by decide : (4 : Nat) ≤ 8) ?_; intro v9 w9 hr9 hg9 hv9; have HR9 := hid hr9; have HG9 := hid hg9; clear hr9 hg9 hv9))
          go_roundg (n - (i + 1))
          case measure => omega
          case rel => exact ⟨i + 1, out ++ [c0, c1, c2, c3], by go_num, hlt, HR9.out, by rw [List.length_append]; simp only [List.length_cons, List.length_nil]; omega, by rw [HPX.out, HEN.out], HBL.out.grown HG9.out hBr (fun k hk => (HROW.out.lt k hk).2), rfl⟩
    · obtain rfl : i = n := by omega
      have HRS := hid (show ofPtsRes l = (out, 0) by
        unfold ofPtsRes
        rw [← HP.out, HPI.out, List.drop_eq_nil_of_le (by rw [← HN.out]; exact Nat.le_refl _), ofPtsE]
        simp)
      go_wp2
      go_ret2
      exact ⟨by rw [HRS.out]; rfl, HBL.out⟩
end Go.Proofs.YtihdndaibmgoiaaGreatDoor.Pz
/-
  binary: Wide, Latin, Unlatin.
-/
namespace Go.Proofs.YtihdndaibmgoiaaGreatDoor.Pz
open Go.RowKit
attribute [local go_sem] Oper.semAt_some
def wideE (s : Str) : Bool := match pointsE s with
  | none => false
  | some l => decide (l.length < s.length)
def latE : List Nat → Option Str
  | [] => some []
  | v :: l => if 255 < v then none else (latE l).map (UInt8.ofNat v :: ·)
/-- what Latin answers -/
def latO : Option Str → Str × Int
  | none => ([], 7)
  | some t => (t, 0)
def latRes (s : Str) : Str × Int := match pointsE s with
  | none => ([], 2)
  | some l => latO (latE l)
/-- what Unlatin answers -/
def unlE (s : Str) : Str := encAll (s.map (·.toNat))
def unlRes (s : Str) : Str × Int := if 65536 < (unlE s).length then ([], 4) else (unlE s, 0)
theorem latE_bytes : ∀ s : Str, latE (s.map (·.toNat)) = some s
  | [] => rfl
  | c :: t => by
    have := c.toNat_lt
    rw [List.map_cons, latE, if_neg (by omega), latE_bytes t, UInt8.ofNat_toNat]
    rfl
theorem codedB_byte (c : UInt8) : codedB (c.toNat : Nat) = true := (codedB_iff _).2 (by have := c.toNat_lt; omega)
theorem ofPtsE_nats : ∀ l : List Nat, (∀ v ∈ l, codedB (v : Nat) = true) → ofPtsE (intsOf l) = some (encAll l)
  | [], _ => rfl
  | v :: l, h => by
    show (if codedB (v : Int) then (ofPtsE (intsOf l)).map (encE (v : Int).toNat ++ ·) else none) = _
    rw [if_pos (h v (List.mem_cons_self ..)), ofPtsE_nats l (fun x hx => h x (List.mem_cons_of_mem _ hx)), Int.toNat_natCast]
    rfl
theorem encAll_len : ∀ l : List Nat, (encAll l).length ≤ 4 * l.length
  | [] => Nat.le_refl _
  | v :: l => by
    have h1 := (encE_len v).2
    have h2 := encAll_len l
    rw [encAll, List.length_append, List.length_cons]
    omega
theorem unl_of (s : Str) : ofPtsRes (intsOf (s.map (·.toNat))) = (unlE s, 0) := by
  unfold ofPtsRes unlE
  rw [ofPtsE_nats _ (fun v hv => by
    obtain ⟨c, _, rfl⟩ := List.mem_map.1 hv
    exact codedB_byte c)]
theorem lat_unl (s : Str) : latRes (unlE s) = (s, 0) := by
  unfold latRes unlE
  rw [points_enc _ (fun v hv => by
    obtain ⟨c, _, rfl⟩ := List.mem_map.1 hv
    exact codedB_byte c)]
  show latO (latE (s.map (·.toNat))) = _
  rw [latE_bytes]
  rfl
theorem of_pts {s : Str} {l : List Nat} (h : pointsE s = some l) : ofPtsRes (intsOf l) = (s, 0) := by
  obtain ⟨h1, h2⟩ := enc_points _ s l (Nat.le_refl _) h
  unfold ofPtsRes
  rw [ofPtsE_nats l h2, h1]
theorem intsOf_get (l : List Nat) (i : Nat) (h : i < l.length) (h2 : i < (intsOf l).length) : (intsOf l)[i] = ((l[i] : Nat) : Int) := by
  simp [intsOf]
theorem intsOf_len (l : List Nat) : (intsOf l).length = l.length := by unfold intsOf; exact List.length_map _
set_option maxRecDepth 100000 in
theorem wide_fn (s : Str) (hs : s.length ≤ 1000000) (w : World) : Calls Tryz.prog 38 #[.string ⟨s.toArray⟩] w fun e w' => e = .returned (.bool (wideE s)) ∧ Below w.heap.size w w' := by
  have hsz : (⟨s.toArray⟩ : ByteArray).size = s.length := Lib.size_mk _
  have hp := points_fn s hs w
  unfold PtsQ at hp
  cases hpe : pointsE s with
  | none =>
    have HRS := hid (show wideE s = false by unfold wideE; rw [hpe])
    rw [show ptsRes s = ([], 2) by unfold ptsRes; rw [hpe]] at hp
    dsimp only at hp
    have HP := hid hp
    clear hpe hp
    go_enter Tryz.func38, Tryz.ntmps38
    go_wp2_with (go_at_call 29; refine HP.out.mono ?_; rintro e w1 ⟨v, rfl, hr1, hb1⟩; obtain ⟨a1, c1, he⟩ := hr1.shape; have HB1 := hid hb1; clear hr1 hb1; subst he)
    go_ret
    exact ⟨by rw [HRS.out]; rfl, HB1.out⟩
  | some l =>
    have hll := points_len _ s l (Nat.le_refl _) hpe
    have HRS := hid (show wideE s = decide (l.length < s.length) by unfold wideE; rw [hpe])
    rw [show ptsRes s = (intsOf l, 0) by unfold ptsRes; rw [hpe]] at hp
    dsimp only at hp
    have HP := hid hp
    clear hpe hp
    obtain ⟨n, hn⟩ : ∃ n, n = (intsOf l).length := ⟨_, rfl⟩
    have hnl : n = l.length := by rw [hn, intsOf_len]
    rw [← hnl] at HRS
    have HN := hid hn
    have hn6 : n ≤ 1000000 := by omega
    clear hn hnl hll
    by_cases hlt : n < s.length
    · have hltD : decide (n < s.length) = true := decide_eq_true hlt
      have hltI : (n : Int) < (s.length : Int) := by omega
      rw [hltD] at HRS
      go_enter Tryz.func38, Tryz.ntmps38
      go_wp2_with (go_at_call 29; refine HP.out.mono ?_; rintro e w1 ⟨v, rfl, hr1, hb1⟩; obtain ⟨a1, c1, he⟩ := hr1.shape; have he2 : v = .slice a1 n c1 := (by rw [he, HN.out]); clear he; have HB1 := hid hb1; clear hr1 hb1; subst he2)
      go_ret
      exact ⟨by rw [HRS.out]; rfl, HB1.out⟩
    · have hltD : decide (n < s.length) = false := decide_eq_false hlt
      have hltI : ¬ ((n : Int) < (s.length : Int)) := by omega
      rw [hltD] at HRS
      go_enter Tryz.func38, Tryz.ntmps38
      go_wp2_with (go_at_call 29; refine HP.out.mono ?_; rintro e w1 ⟨v, rfl, hr1, hb1⟩; obtain ⟨a1, c1, he⟩ := hr1.shape; have he2 : v = .slice a1 n c1 := (by rw [he, HN.out]); clear he; have HB1 := hid hb1; clear hr1 hb1; subst he2)
      go_ret
      exact ⟨by rw [HRS.out]; rfl, HB1.out⟩
set_option maxRecDepth 100000 in
set_option maxHeartbeats 4000000 in
theorem latin_fn (s : Str) (hs : s.length ≤ 1000000) (w : World) : Calls Tryz.prog 33 #[.string ⟨s.toArray⟩] w (TxtQ (latRes s) w) := by
  have hp := points_fn s hs w
  unfold PtsQ at hp
  unfold TxtQ
  cases hpe : pointsE s with
  | none =>
    have HRS := hid (show latRes s = ([], 2) by unfold latRes; rw [hpe])
    rw [show ptsRes s = ([], 2) by unfold ptsRes; rw [hpe]] at hp
    dsimp only at hp
    have HP := hid hp
    clear hpe hp
    go_enter Tryz.func33, Tryz.ntmps33
    go_wp2_with (go_at_call 29; refine HP.out.mono ?_; rintro e w1 ⟨v, rfl, hr1, hb1⟩; obtain ⟨a1, c1, he⟩ := hr1.shape; have HB1 := hid hb1; clear hr1 hb1; subst he)
    go_ret2
    exact ⟨by rw [HRS.out]; rfl, HB1.out⟩
  | some l =>
    have hll := points_len _ s l (Nat.le_refl _) hpe
    obtain ⟨P, hP⟩ : ∃ P, P = latE l := ⟨_, rfl⟩
    have HP9 := hid hP
    have HRS0 := hid (show latRes s = latO P by unfold latRes; rw [hpe, hP])
    rw [show ptsRes s = (intsOf l, 0) by unfold ptsRes; rw [hpe]] at hp
    dsimp only at hp
    have HP := hid hp
    clear hpe hp hP
    obtain ⟨n, hn⟩ : ∃ n, n = (intsOf l).length := ⟨_, rfl⟩
    have hnl : n = l.length := by rw [hn, intsOf_len]
    have hn6 : n ≤ 1000000 := by omega
    have HN := hid hn
    have HNL := hid hnl
    clear hn hnl hll
    go_enter Tryz.func33, Tryz.ntmps33
    go_wp2_with (go_at_call 29; refine HP.out.mono ?_; rintro e w1 ⟨v, rfl, hr1, hb1⟩; obtain ⟨a1, c1, he⟩ := hr1.shape; have he2 : v = .slice a1 n c1 := (by rw [he, HN.out]); clear he; have HR1 := hid hr1; have HB1 := hid hb1; clear hr1 hb1; subst he2)
    go_loopg [6, 19] n (fun k lv iv wr => ∃ (i : Nat) (out : Str), iv = .int .i64 (i : Nat) ∧ i ≤ n ∧ RowY w1.heap.size wr lv out ∧ out.length ≤ i ∧ P = (latE (l.drop i)).map (out ++ ·) ∧ Below w1.heap.size w1 wr ∧ k = n - i)
    case atStart => exact ⟨0, [], rfl, Nat.zero_le _, RowY.nil _ _, Nat.le_refl _, by rw [HP9.out, List.drop_zero]; cases latE l <;> rfl, Below.refl _ _, rfl⟩
    case round =>
      obtain ⟨i, out, rfl, hin, hrow, hol, hPi, hbl, hk⟩ := hrel
      replace hk := hk.symm
      subst hk
      have hstr := hrow.str
      obtain ⟨ao, co, he⟩ := hrow.shape
      obtain ⟨no, hno⟩ : ∃ no, no = out.length := ⟨_, rfl⟩
      rw [← hno] at he
      have hnl : out.length ≤ 1000000000 := by omega
      have HROW := hid hrow
      have HPI := hid hPi
      have HBL := hid hbl
      have hBr := hbl.size
      clear hrow hPi hbl hno
      subst he
      rcases Nat.lt_or_ge i n with hlt | hge
      · have hltI : (i : Int) < (n : Int) := by omega
        have hil : i < l.length := by rw [← HNL.out]; exact hlt
        have hil2 : i < (intsOf l).length := by rw [← HN.out]; exact hlt
        obtain ⟨g, hag, -, hcc⟩ := HR1.out.at hil2
        subst hag
        rw [intsOf_get l i hil hil2] at hcc
        have hgl := (HR1.out.lt g rfl).1
        obtain ⟨x, hx⟩ : ∃ x, x = l[i] := ⟨_, rfl⟩
        rw [← hx] at hcc
        have hpw : wr.cell? ⟨g, i, none⟩ = some (.int .i64 (x : Nat)) := by rw [HBL.out.cell (p := ⟨g, i, none⟩) hgl]; exact hcc
        have hPx : P = if 255 < x then none else (latE (l.drop (i + 1))).map ((out ++ [UInt8.ofNat x]) ++ ·) := by
          rw [HPI.out, List.drop_eq_getElem_cons hil, latE, ← hx]
          split
          · rfl
          · cases latE (l.drop (i + 1)) with
            | none => rfl
            | some r => simp
        have HPX := hid hPx
        clear hPx hx hcc hstr
        by_cases hbig : 255 < x
        · have hbI : (255 : Int) < (x : Int) := by omega
          have HRS := hid (show latRes s = ([], 7) by rw [HRS0.out, HPX.out, if_pos hbig]; rfl)
          clear hbig
          go_wp2
          go_ret2
          exact ⟨by rw [HRS.out]; rfl, HB1.out.trans (HBL.out.mono HB1.out.size)⟩
        · have hbI : ¬ ((255 : Int) < (x : Int)) := by omega
          have hcv : IntKind.u8.wrap (x : Int) = ((UInt8.ofNat x).toNat : Int) := by rw [ofNat_lt (by omega), IntKind.wrap_u8]; omega
          replace HPX := hid (show P = (latE (l.drop (i + 1))).map ((out ++ [UInt8.ofNat x]) ++ ·) by rw [HPX.out, if_neg hbig])
          obtain ⟨c0, hc0⟩ : ∃ c0, c0 = UInt8.ofNat x := ⟨_, rfl⟩
          rw [← hc0] at hcv HPX
          clear hc0 hbig
          go_wp2_with (at_builtin; refine appB_one rfl rfl (.tmp 25) (.tmp 28) rfl w1.heap.size _ _ c0 rfl HROW.out rfl hBr hnl ?_; intro v9 w9 hr9 hg9 hv9; have HR9 := hid hr9; have HG9 := hid hg9; clear hr9 hg9 hv9)
          go_roundg (n - (i + 1))
          case measure => omega
          case rel => exact ⟨i + 1, out ++ [c0], by go_num, hlt, HR9.out, by rw [List.length_append]; simp only [List.length_cons, List.length_nil]; omega, HPX.out, HBL.out.grown HG9.out hBr (fun k hk => (HROW.out.lt k hk).2), rfl⟩
      · obtain rfl : i = n := by omega
        have HRS := hid (show latRes s = (out, 0) by
          rw [HRS0.out, HPI.out, List.drop_eq_nil_of_le (by rw [← HNL.out]; exact Nat.le_refl _), latE]
          show latO (some (out ++ [])) = _
          rw [List.append_nil]
          rfl)
        go_wp2
        go_ret2
        exact ⟨by rw [HRS.out]; rfl, HB1.out.trans (HBL.out.mono HB1.out.size)⟩
set_option maxRecDepth 100000 in
set_option maxHeartbeats 4000000 in
theorem unlatin_fn (s : Str) (hs : s.length ≤ 1000000) (w : World) : Calls Tryz.prog 35 #[.string ⟨s.toArray⟩] w (TxtQ (unlRes s) w) := by
  have hsz : (⟨s.toArray⟩ : ByteArray).size = s.length := Lib.size_mk _
  unfold TxtQ
  go_enter Tryz.func35, Tryz.ntmps35
  go_wp2_with fail
  go_loopg [4, 10] s.length (fun k lv iv wr => ∃ (i : Nat) (l : Str), iv = .int .i64 (i : Nat) ∧ At s l i ∧ RowI w.heap.size wr lv (intsOf ((s.take i).map (·.toNat))) ∧ Below w.heap.size w wr ∧ k = l.length)
  case atStart => exact ⟨0, s, rfl, At.start s, RowI.nil _ _, Below.refl _ _, rfl⟩
  case round =>
    obtain ⟨i, l, rfl, ha, hrow, hbl, hk⟩ := hrel
    replace hk := hk.symm
    subst hk
    have hlen := ha.len
    have hol : (intsOf ((s.take i).map (·.toNat))).length = i := by rw [intsOf_len, List.length_map, List.length_take]; omega
    obtain ⟨ao, co, he⟩ := hrow.shape
    rw [hol] at he
    have hnl : (intsOf ((s.take i).map (·.toNat))).length ≤ 10000000 := by omega
    have HROW := hid hrow
    have HBL := hid hbl
    have hBr := hbl.size
    have HA := hid ha
    clear hrow hbl hol ha
    subst he
    cases l with
    | nil =>
      have hie : i = s.length := by simpa using hlen
      have hge : ¬ ((i : Int) < (s.length : Int)) := by omega
      have hof := ofPoints_fn _ _ wr HROW.out.ints (by rw [intsOf_len, List.length_map, List.length_take]; omega)
      rw [hie, List.take_length, unl_of] at hof
      unfold TxtQ at hof
      have hul : (unlE s).length ≤ 4000000 := by
        unfold unlE
        have := encAll_len (s.map (·.toNat))
        rw [List.length_map] at this
        omega
      have HUR := hid (show unlRes s = if 65536 < (unlE s).length then ([], 4) else (unlE s, 0) from rfl)
      obtain ⟨u, hu⟩ : ∃ u, u = unlE s := ⟨_, rfl⟩
      rw [← hu] at hof hul HUR
      have husz : (⟨u.toArray⟩ : ByteArray).size = u.length := Lib.size_mk _
      obtain rfl : i = s.length := hie
      have HOF := hid hof
      clear hof hu
      by_cases hbig : 65536 < u.length
      · have hbI : (65536 : Int) < (u.length : Int) := by omega
        have HRS := hid (show unlRes s = ([], 4) by rw [HUR.out, if_pos hbig])
        clear hbig
        go_wp2_with (go_at_call 31; refine HOF.out.mono ?_; rintro e w5 ⟨rfl, hb5⟩; have HB5 := hid (HBL.out.trans (hb5.mono hBr)); clear hb5)
        go_ret2
        exact ⟨by rw [HRS.out]; rfl, HB5.out⟩
      · have hbI : ¬ ((65536 : Int) < (u.length : Int)) := by omega
        have HRS := hid (show unlRes s = (u, 0) by rw [HUR.out, if_neg hbig])
        clear hbig
        go_wp2_with (go_at_call 31; refine HOF.out.mono ?_; rintro e w5 ⟨rfl, hb5⟩; have HB5 := hid (HBL.out.trans (hb5.mono hBr)); clear hb5)
        go_ret2
        exact ⟨by rw [HRS.out]; rfl, HB5.out⟩
    | cons c t =>
      have hlt := HA.out.lt
      have hbyte := HA.out.byte
      have hltI : (i : Int) < (s.length : Int) := by omega
      have hcl := c.toNat_lt
      have hsn : intsOf ((s.take (i + 1)).map (·.toNat)) = intsOf ((s.take i).map (·.toNat)) ++ [(c.toNat : Int)] := by
        have h9 := HA.out.head
        rw [List.getElem?_eq_getElem hlt] at h9
        rw [List.take_succ_eq_append_getElem hlt, Option.some.inj h9]
        unfold intsOf
        simp
      have HSN := hid hsn
      clear hsn
      go_wp2_with (at_builtin; refine appI_one rfl rfl (.tmp 13) (.tmp 18) rfl w.heap.size _ _ (c.toNat : Int) rfl HROW.out rfl hBr hnl ?_; intro v9 w9 hr9 hg9 hv9; have HR9 := hid hr9; have HG9 := hid hg9; clear hr9 hg9 hv9)
      go_roundg t.length
      case measure => simp
      case rel => exact ⟨i + 1, t, by go_num, HA.out.tail, by rw [HSN.out]; exact HR9.out, HBL.out.grown HG9.out hBr (fun k hk => (HROW.out.lt k hk).2), rfl⟩
end Go.Proofs.YtihdndaibmgoiaaGreatDoor.Pz
/-
  utf8.ValidString's contract, laid at this program.
-/
namespace Go.Proofs.YtihdndaibmgoiaaGreatDoor.Pz
open Go.Shelf Go.RowKit
def Tryz.l196_ren : Go.Shelf.Ren := ⟨fun | 196 => 89 | 259 => 135 | n => n, fun | 46 => 98 | 53 => 44 | 119 => 153 | 138 => 155 | 139 => 156 | n => n, fun | 3 => 0 | 4 => 1 | n => n⟩
theorem Tryz.l196 : Go.Proofs.Lays.n196 Tryz.prog Tryz.l196_ren := {
  mixed := by kernel_rfl
  f196 := Tryz.func89.trans (congrArg some (by kernel_rfl))
  f259 := Tryz.func135.trans (congrArg some (by kernel_rfl))
  t0 := Tryz.underlying0
  a0 := Tryz.isAgg0
  z0 := Tryz.sizeOf0
  v0 := Tryz.zeroValue0
  t3 := Tryz.underlying3
  a3 := Tryz.isAgg3
  z3 := Tryz.sizeOf3
  v3 := Tryz.zeroValue3
  t4 := Tryz.underlying4
  a4 := Tryz.isAgg4
  z4 := Tryz.sizeOf4
  v4 := Tryz.zeroValue4
  t5 := Tryz.underlying5
  a5 := Tryz.isAgg5
  z5 := Tryz.sizeOf5
  v5 := Tryz.zeroValue5
  t9 := Tryz.underlying9
  a9 := Tryz.isAgg9
  z9 := Tryz.sizeOf9
  v9 := Tryz.zeroValue9
  t12 := Tryz.underlying12
  a12 := Tryz.isAgg12
  z12 := Tryz.sizeOf12
  v12 := Tryz.zeroValue12
  t46 := Tryz.underlying98
  a46 := Tryz.isAgg98
  z46 := Tryz.sizeOf98
  v46 := Tryz.zeroValue98
  t53 := Tryz.underlying44
  a53 := Tryz.isAgg44
  z53 := Tryz.sizeOf44
  v53 := Tryz.zeroValue44
  t119 := Tryz.underlying153
  a119 := Tryz.isAgg153
  z119 := Tryz.sizeOf153
  t138 := Tryz.underlying155
  a138 := Tryz.isAgg155
  z138 := Tryz.sizeOf155
  v138 := Tryz.zeroValue155
  t139 := Tryz.underlying156
  a139 := Tryz.isAgg156
  z139 := Tryz.sizeOf156
  v139 := Tryz.zeroValue156
  g3 := by kernel_rfl
  g4 := by kernel_rfl
}
/-- the two tables of unicode/utf8 -/
def U8 (w : World) : Prop := Lib.Utf8Tabs 0 1 w
theorem valid8_fn (s : List UInt8) (hs : s.length ≤ 1000000) (w : World) (hT : U8 w) : Calls Tryz.prog 89 #[.string ⟨s.toArray⟩] w fun e w' => e = .returned (.bool (Lib.validD s)) ∧ Below w.heap.size w w' :=
  Any.utf8_ValidString Tryz.l196 ⟨s.toArray⟩ w (by rw [Lib.size_mk]; omega) hT
end Go.Proofs.YtihdndaibmgoiaaGreatDoor.Pz
/-
  The reference 10: Points, OfPoints, Wide, Latin, Unlatin.
-/
namespace Go.Proofs.YtihdndaibmgoiaaGreatDoor.Pz
open Go.RowKit
attribute [local go_sem] Oper.semAt_some
theorem RowI.iter {B : Nat} {w : World} {v : Value} {l : List Int} {k : Nat} {s : ByteArray} {pos : Nat} (h : RowI B w v l) (hk : w.heap[k]? = some (.stringIter s pos)) (pos' : Nat) : RowI B (w.iterAt k s pos') v l :=
  ownsRow_heap2 h fun g cur _ hc => (Lib.iterAt_other w k g s pos' (fun e => by rw [e, hk] at hc; cases hc)).trans hc
set_option maxRecDepth 100000 in
set_option maxHeartbeats 4000000 in
theorem pointsR_fn (s : Str) (hs : s.length ≤ 1000000) (w : World) (hT : U8 w) : Calls Tryz.prog 30 #[.string ⟨s.toArray⟩] w (PtsQ s w) := by
  have hsz : (⟨s.toArray⟩ : ByteArray).size = s.length := Lib.size_mk _
  have hv := valid8_fn s hs w hT
  rw [valid_points] at hv
  clear hT
  cases hpe : pointsE s with
  | none =>
    have HRS := hid (show ptsRes s = ([], 2) by unfold ptsRes; rw [hpe])
    rw [hpe] at hv
    have HV := hid (show Calls Tryz.prog 89 #[.string ⟨s.toArray⟩] w fun e w' => e = .returned (.bool false) ∧ Below w.heap.size w w' from hv)
    clear hv hpe
    unfold PtsQ
    go_enter Tryz.func30, Tryz.ntmps30
    go_wp2_with (go_at_call 89; refine HV.out.mono ?_; rintro e w1 ⟨rfl, hb1⟩; have HB1 := hid hb1; clear hb1)
    go_ret2
    exact ⟨_, by rw [HRS.out]; rfl, by rw [HRS.out]; exact RowI.nil _ _, HB1.out⟩
  | some L =>
    have HRS := hid (show ptsRes s = (intsOf L, 0) by unfold ptsRes; rw [hpe])
    rw [hpe] at hv
    have HV := hid (show Calls Tryz.prog 89 #[.string ⟨s.toArray⟩] w fun e w' => e = .returned (.bool true) ∧ Below w.heap.size w w' from hv)
    have HPE := hid hpe
    clear hv hpe
    unfold PtsQ
    go_enter Tryz.func30, Tryz.ntmps30
    go_wp2_with (go_at_call 89; refine HV.out.mono ?_; rintro e w1 ⟨rfl, hb1⟩; have HB1 := hid hb1; clear hb1)
    have hb1s := HB1.out.size
    obtain ⟨q, hq⟩ : ∃ q, q = w1.heap.size := ⟨_, rfl⟩
    obtain ⟨W0, hW0⟩ : ∃ W0, W0 = w1.iter ⟨s.toArray⟩ 0 := ⟨_, rfl⟩
    have hit0 : W0.heap[q]? = some (.stringIter ⟨s.toArray⟩ 0) := by rw [hW0, hq]; exact World.iter_heap _ _ _
    have hb0 : Below q w1 W0 := by rw [hW0, hq]; exact (Below.refl _ _).alloc (Nat.le_refl _) _
    rw [← hW0, ← hq]
    have HIT0 := hid hit0
    have HB0 := hid hb0
    have HQ := hid hq
    clear hW0 hq hit0 hb0
    go_loopg [4] (s.length + 1) (fun k lv wr => ∃ (i : Nat) (t : Str) (out : List Nat), At s t i ∧ wr.heap[q]? = some (.stringIter ⟨s.toArray⟩ i) ∧ RowI q wr lv (intsOf out) ∧ out.length + t.length ≤ s.length ∧ some L = (pointsE t).map (out ++ ·) ∧ Below q w1 wr ∧ k = t.length + 1)
    case atStart => exact ⟨0, s, [], At.start s, HIT0.out, RowI.nil _ _, by simp, by rw [HPE.out]; rfl, HB0.out, rfl⟩
    case round =>
      obtain ⟨i, t, out, ha, hit, hrow, hol, hL, hbl, hk⟩ := hrel
      replace hk := hk.symm
      subst hk
      have hlen := ha.len
      have hlq : q < wr.heap.size := (Array.getElem?_eq_some_iff.1 hit).1
      obtain ⟨ao, co, he⟩ := hrow.shape
      rw [intsOf_len] at he
      have hnl : (intsOf out).length ≤ 10000000 := by rw [intsOf_len]; omega
      cases t with
      | nil =>
        have hie : i = s.length := by simpa using hlen
        have hnx : ∀ ty, (Instr.next (.pointer (some ⟨q, 0, none⟩)) true ty).run Tryz.prog wr = .ok (.tuple #[.bool false]) wr := fun ty => Lib.run_next_end_at wr q ⟨s.toArray⟩ i ty hit (by rw [hsz]; omega)
        have HL := hid (show L = out by rw [pointsE_nil] at hL; simpa using hL)
        have HROW := hid hrow
        have HBL := hid hbl
        clear hit hrow hL hbl ha
        subst he
        go_wp2
        go_ret2
        refine ⟨_, by rw [HRS.out]; rfl, ?_, ?_⟩
        · rw [HRS.out, HL.out]
          exact HROW.out.mono (by have := HQ.out; omega)
        · exact HB1.out.trans (HBL.out.mono (by have := HQ.out; omega))
      | cons c t2 =>
        obtain ⟨t, ht⟩ : ∃ t, t = c :: t2 := ⟨_, rfl⟩
        have htn : t ≠ [] := by rw [ht]; simp
        rw [← ht] at ha hol hL hlen
        have HTC := hid ht
        rw [pointsE_step htn] at hL
        have hz : (pointE t).2 ≠ 0 := fun h => by rw [if_pos h] at hL; cases hL
        rw [if_neg hz] at hL
        obtain ⟨e1, e2, e3⟩ := enc_point hz
        have hpeq := pointE_eq t htn
        have hdec : Utf8.decode ⟨s.toArray⟩ i = pointE t := by
          have h1 := Lib.decodeL_drop ⟨s.toArray⟩ i
          rw [show (⟨s.toArray⟩ : ByteArray).data.toList = s from rfl, ha.rest] at h1
          rw [← h1, hpeq]
          split
          · rename_i h9
            rw [if_pos h9] at hpeq
            exact absurd (by rw [hpeq]) hz
          · rfl
        have hi : i < s.length := by have := congrArg List.length ht; rw [List.length_cons] at this; omega
        have hnx := fun ty => Lib.run_next_any_at (P := Tryz.prog) wr q ⟨s.toArray⟩ i ty hit (by rw [hsz]; exact hi)
        rw [hdec] at hnx
        have hVc := (codedB_iff _).1 e1
        have hl2 := congrArg List.length e2
        rw [List.length_append, List.length_drop] at hl2
        have hat2 : At s (t.drop (pointE t).2) (i + (pointE t).2) := by
          refine ⟨by rw [List.length_drop]; omega, ?_⟩
          rw [← ha.rest, List.drop_drop]
        obtain ⟨V, n, hVn⟩ : ∃ V n, pointE t = (V, n) := ⟨_, _, rfl⟩
        rw [hVn] at hnx hVc hl2 hat2 hL e3 hz
        dsimp only at hnx hVc hl2 hat2 hL e3 hz
        obtain ⟨W2, hW2⟩ : ∃ W2, W2 = wr.iterAt q ⟨s.toArray⟩ (i + n) := ⟨_, rfl⟩
        have hit2 : W2.heap[q]? = some (.stringIter ⟨s.toArray⟩ (i + n)) := by rw [hW2]; exact Lib.iterAt_heap wr q _ i _ hit
        have hrow1 : RowI q wr (.slice ao out.length co) (intsOf out) := by rw [← he]; exact hrow
        have hrow2 : RowI q W2 (.slice ao out.length co) (intsOf out) := by rw [hW2]; exact hrow1.iter hit _
        have hb2 : Below q w1 W2 := by rw [hW2]; exact Lib.below_iterAt hbl (Nat.le_refl _) _ _
        have hq2 : q < W2.heap.size := (Array.getElem?_eq_some_iff.1 hit2).1
        rw [← hW2] at hnx
        obtain ⟨u, hu⟩ : ∃ u, u = t.drop n := ⟨_, rfl⟩
        have hul : u.length + n = t.length := by rw [hu, List.length_drop]; omega
        rw [← hu] at hL hat2
        have HL := hid (show some L = (pointsE u).map ((out ++ [V]) ++ ·) by
          rw [hL]
          cases pointsE u with
          | none => rfl
          | some l => simp)
        have hcv : IntKind.i64.wrap (V : Int) = (V : Int) := IntWalk.i64_in _ (by omega)
        have hqb : q ≤ W2.heap.size := by omega
        have HAP := hid (show intsOf (out ++ [V]) = intsOf out ++ [(V : Int)] by unfold intsOf; simp)
        have HAT := hid hat2
        have HIT := hid hit2
        have HROW := hid hrow2
        have HB2 := hid hb2
        have HUL := hid hul
        have HE3 := hid (show 1 ≤ n by have := (encE_len V).1; omega)
        have HOL := hid (show (out ++ [V]).length + u.length ≤ s.length by rw [List.length_append, List.length_singleton]; have := (encE_len V).1; omega)
        have hV0 : (0 : Int) ≤ (V : Int) ∧ (V : Int) ≤ 1114111 := by omega
        clear hit hrow hrow1 hL hbl ha hdec hpeq e1 e2 e3 hVn hW2 hat2 hit2 hrow2 hb2 hu hul hl2 hVc hz htn ht hlen hol hi hlq
        subst he
        go_wp2_with (at_builtin; refine appI_one rfl rfl (.tmp 15) (.tmp 18) rfl q _ _ (V : Int) rfl HROW.out rfl hqb hnl ?_; intro v9 w9 hr9 hg9 hv9; have HR9 := hid hr9; have HG9 := hid hg9; clear hr9 hg9 hv9)
        go_roundg (u.length + 1)
        case measure =>
          have h1 := HUL.out
          have h2 := HE3.out
          have h3 := congrArg List.length HTC.out
          omega
        case rel =>
          refine ⟨i + n, u, out ++ [V], HAT.out, ?_, by rw [HAP.out]; exact HR9.out, HOL.out, HL.out, HB2.out.grown HG9.out hqb (fun k hk => (HROW.out.lt k hk).2), rfl⟩
          exact (HG9.out.block q hq2 (fun e => by
            obtain ⟨_, cur, hc⟩ := ownsRow_lt HROW.out q e.symm
            rw [HIT.out] at hc
            cases hc)).trans HIT.out
theorem enc_eq (v : Int) (hv : codedB v = true) : Utf8.encode v = ⟨(encE v.toNat).toArray⟩ := by
  obtain ⟨V, rfl⟩ : ∃ V : Nat, v = (V : Int) := by
    refine ⟨v.toNat, ?_⟩
    unfold codedB at hv
    simp only [Bool.and_eq_true, decide_eq_true_eq] at hv
    omega
  have h := (codedB_iff V).1 hv
  have hval : Utf8.valid (V : Int) = true := by
    unfold Utf8.valid
    simp only [Bool.or_eq_true, Bool.and_eq_true, decide_eq_true_eq]
    omega
  unfold Utf8.encode encE
  rw [hval, if_pos rfl, Int.toNat_natCast]
  dsimp only
  split
  · rfl
  · split
    · rfl
    · split <;> rfl
set_option maxRecDepth 100000 in
set_option maxHeartbeats 4000000 in
theorem ofPointsR_fn (l : List Int) (v : Value) (w : World) (hv : IntsAt w v l) (hl : l.length ≤ 1000000) : Calls Tryz.prog 32 #[v] w (TxtQ (ofPtsRes l) w) := by
  obtain ⟨a, cap, rfl, hcap, hcell⟩ := hv
  obtain ⟨n, hn⟩ : ∃ n, n = l.length := ⟨_, rfl⟩
  have HN := hid hn
  have HV := hid hcell
  obtain ⟨P, hP⟩ : ∃ P, P = ofPtsE l := ⟨_, rfl⟩
  have HP := hid hP
  rw [← hn] at hl ⊢
  unfold TxtQ
  clear hcell hn hcap hP
  go_enter Tryz.func32, Tryz.ntmps32
  go_wp2_with fail
  go_loopg [4, 9] n (fun k lv iv wr => ∃ (i : Nat) (out : Str), lv = .string ⟨out.toArray⟩ ∧ iv = .int .i64 (i : Nat) ∧ i ≤ n ∧ out.length ≤ 4 * i ∧ P = (ofPtsE (l.drop i)).map (out ++ ·) ∧ wr = w ∧ k = n - i)
  case atStart => exact ⟨0, [], rfl, rfl, Nat.zero_le _, by simp, by rw [HP.out, List.drop_zero]; cases ofPtsE l <;> rfl, rfl, rfl⟩
  case round =>
    obtain ⟨i, out, rfl, rfl, hin, hol, hPi, hw, hk⟩ := hrel
    replace hk := hk.symm
    subst hk
    replace hw := hw.symm
    subst hw
    have hosz : (⟨out.toArray⟩ : ByteArray).size = out.length := Lib.size_mk _
    have HPI := hid hPi
    clear hPi
    rcases Nat.lt_or_ge i n with hlt | hge
    · have hltI : (i : Int) < (n : Int) := by omega
      have hil : i < l.length := by rw [← HN.out]; exact hlt
      obtain ⟨p, rfl, hpb, hpc⟩ := HV.out i hil
      obtain ⟨x, hx⟩ : ∃ x, x = l[i] := ⟨_, rfl⟩
      rw [← hx] at hpc
      have hPx : P = if codedB x then (ofPtsE (l.drop (i + 1))).map ((out ++ encE x.toNat) ++ ·) else none := by
        rw [HPI.out, List.drop_eq_getElem_cons hil, ofPtsE, ← hx]
        split
        · cases ofPtsE (l.drop (i + 1)) with
          | none => rfl
          | some r => simp
        · rfl
      have HPX := hid hPx
      clear hPx hx
      cases hcd : codedB x with
      | false =>
        have HRS := hid (show ofPtsRes l = ([], 7) by unfold ofPtsRes; rw [← HP.out, HPX.out, hcd]; rfl)
        have hbad : x < 0 ∨ 1114111 < x ∨ (55296 ≤ x ∧ x ≤ 57343) := by
          unfold codedB at hcd
          simp only [Bool.and_eq_false_iff, Bool.or_eq_false_iff, decide_eq_false_iff_not] at hcd
          omega
        clear hcd
        rcases hbad with g | g | ⟨g, g2⟩
        · by_cases h0 : i = 0
          · subst h0
            replace hpc : w.cell? p = some (.int .i64 x) := hpc
            go_wp2
            go_ret2
            exact ⟨by rw [HRS.out]; rfl, Below.refl _ _⟩
          · go_wp2
            go_ret2
            exact ⟨by rw [HRS.out]; rfl, Below.refl _ _⟩
        · have g0 : ¬ (x < 0) := by omega
          by_cases h0 : i = 0
          · subst h0
            replace hpc : w.cell? p = some (.int .i64 x) := hpc
            go_wp2
            go_ret2
            exact ⟨by rw [HRS.out]; rfl, Below.refl _ _⟩
          · go_wp2
            go_ret2
            exact ⟨by rw [HRS.out]; rfl, Below.refl _ _⟩
        · have g0 : ¬ (x < 0) := by omega
          have g1 : ¬ (1114111 < x) := by omega
          by_cases h0 : i = 0
          · subst h0
            replace hpc : w.cell? p = some (.int .i64 x) := hpc
            go_wp2
            go_ret2
            exact ⟨by rw [HRS.out]; rfl, Below.refl _ _⟩
          · go_wp2
            go_ret2
            exact ⟨by rw [HRS.out]; rfl, Below.refl _ _⟩
      | true =>
        have henc := enc_eq x hcd
        replace HPX := hid (show P = (ofPtsE (l.drop (i + 1))).map ((out ++ encE x.toNat) ++ ·) by rw [HPX.out, hcd]; rfl)
        have hgood : 0 ≤ x ∧ x ≤ 1114111 ∧ (x < 55296 ∨ 57343 < x) := by
          unfold codedB at hcd
          simp only [Bool.and_eq_true, Bool.or_eq_true, decide_eq_true_eq] at hcd
          omega
        have hw32 : IntKind.i32.wrap x = x := by rw [IntKind.wrap_i32]; omega
        have hel := (encE_len x.toNat).2
        obtain ⟨u, hu⟩ : ∃ u, u = encE x.toNat := ⟨_, rfl⟩
        rw [← hu] at henc HPX hel
        have husz : (⟨u.toArray⟩ : ByteArray).size = u.length := Lib.size_mk _
        have hcat : (⟨out.toArray⟩ : ByteArray) ++ ⟨u.toArray⟩ = ⟨(out ++ u).toArray⟩ := by
          apply ByteArray.ext
          simp
        have HCAT := hid hcat
        have g0 : ¬ (x < 0) := by omega
        have g1 : ¬ (1114111 < x) := by omega
        obtain ⟨-, -, hg3⟩ := hgood
        clear hcd hu hcat
        by_cases g3 : 55296 ≤ x
        · have g4 : ¬ (x ≤ 57343) := by omega
          clear hg3
          by_cases h0 : i = 0
          · subst h0
            replace hpc : w.cell? p = some (.int .i64 x) := hpc
            go_wp2
            go_roundg (n - (0 + 1))
            case measure => omega
            case rel => exact ⟨0 + 1, out ++ u, by rw [HCAT.out], by go_num, hlt, by rw [List.length_append]; omega, HPX.out, rfl, rfl⟩
          · go_wp2
            go_roundg (n - (i + 1))
            case measure => omega
            case rel => exact ⟨i + 1, out ++ u, by rw [HCAT.out], by go_num, hlt, by rw [List.length_append]; omega, HPX.out, rfl, rfl⟩
        · clear hg3
          by_cases h0 : i = 0
          · subst h0
            replace hpc : w.cell? p = some (.int .i64 x) := hpc
            go_wp2
            go_roundg (n - (0 + 1))
            case measure => omega
            case rel => exact ⟨0 + 1, out ++ u, by rw [HCAT.out], by go_num, hlt, by rw [List.length_append]; omega, HPX.out, rfl, rfl⟩
          · go_wp2
            go_roundg (n - (i + 1))
            case measure => omega
            case rel => exact ⟨i + 1, out ++ u, by rw [HCAT.out], by go_num, hlt, by rw [List.length_append]; omega, HPX.out, rfl, rfl⟩
    · obtain rfl : i = n := by omega
      have HRS := hid (show ofPtsRes l = (out, 0) by
        unfold ofPtsRes
        rw [← HP.out, HPI.out, List.drop_eq_nil_of_le (by rw [← HN.out]; exact Nat.le_refl _), ofPtsE]
        simp)
      go_wp2
      go_ret2
      exact ⟨by rw [HRS.out]; rfl, Below.refl _ _⟩
set_option maxRecDepth 100000 in
set_option maxHeartbeats 4000000 in
theorem latinR_fn (s : Str) (hs : s.length ≤ 1000000) (w : World) (hT : U8 w) : Calls Tryz.prog 34 #[.string ⟨s.toArray⟩] w (TxtQ (latRes s) w) := by
  have hp := pointsR_fn s hs w hT
  unfold PtsQ at hp
  unfold TxtQ
  cases hpe : pointsE s with
  | none =>
    have HRS := hid (show latRes s = ([], 2) by unfold latRes; rw [hpe])
    rw [show ptsRes s = ([], 2) by unfold ptsRes; rw [hpe]] at hp
    dsimp only at hp
    have HP := hid hp
    clear hpe hp
    go_enter Tryz.func34, Tryz.ntmps34
    go_wp2_with (go_at_call 30; refine HP.out.mono ?_; rintro e w1 ⟨v, rfl, hr1, hb1⟩; obtain ⟨a1, c1, he⟩ := hr1.shape; have HB1 := hid hb1; clear hr1 hb1; subst he)
    go_ret2
    exact ⟨by rw [HRS.out]; rfl, HB1.out⟩
  | some l =>
    have hll := points_len _ s l (Nat.le_refl _) hpe
    obtain ⟨P, hP⟩ : ∃ P, P = latE l := ⟨_, rfl⟩
    have HP9 := hid hP
    have HRS0 := hid (show latRes s = latO P by unfold latRes; rw [hpe, hP])
    rw [show ptsRes s = (intsOf l, 0) by unfold ptsRes; rw [hpe]] at hp
    dsimp only at hp
    have HP := hid hp
    clear hpe hp hP
    obtain ⟨n, hn⟩ : ∃ n, n = (intsOf l).length := ⟨_, rfl⟩
    have hnl : n = l.length := by rw [hn, intsOf_len]
    have hn6 : n ≤ 1000000 := by omega
    have HN := hid hn
    have HNL := hid hnl
    clear hn hnl hll
    go_enter Tryz.func34, Tryz.ntmps34
    go_wp2_with (go_at_call 30; refine HP.out.mono ?_; rintro e w1 ⟨v, rfl, hr1, hb1⟩; obtain ⟨a1, c1, he⟩ := hr1.shape; have he2 : v = .slice a1 n c1 := (by rw [he, HN.out]); clear he; have HR1 := hid hr1; have HB1 := hid hb1; clear hr1 hb1; subst he2)
    go_loopg [6, 19] n (fun k lv iv wr => ∃ (i : Nat) (out : Str), iv = .int .i64 (i : Nat) ∧ i ≤ n ∧ RowY w1.heap.size wr lv out ∧ out.length ≤ i ∧ P = (latE (l.drop i)).map (out ++ ·) ∧ Below w1.heap.size w1 wr ∧ k = n - i)
    case atStart => exact ⟨0, [], rfl, Nat.zero_le _, RowY.nil _ _, Nat.le_refl _, by rw [HP9.out, List.drop_zero]; cases latE l <;> rfl, Below.refl _ _, rfl⟩
    case round =>
      obtain ⟨i, out, rfl, hin, hrow, hol, hPi, hbl, hk⟩ := hrel
      replace hk := hk.symm
      subst hk
      have hstr := hrow.str
      obtain ⟨ao, co, he⟩ := hrow.shape
      obtain ⟨no, hno⟩ : ∃ no, no = out.length := ⟨_, rfl⟩
      rw [← hno] at he
      have hnl : out.length ≤ 1000000000 := by omega
      have HROW := hid hrow
      have HPI := hid hPi
      have HBL := hid hbl
      have hBr := hbl.size
      clear hrow hPi hbl hno
      subst he
      rcases Nat.lt_or_ge i n with hlt | hge
      · have hltI : (i : Int) < (n : Int) := by omega
        have hil : i < l.length := by rw [← HNL.out]; exact hlt
        have hil2 : i < (intsOf l).length := by rw [← HN.out]; exact hlt
        obtain ⟨g, hag, -, hcc⟩ := HR1.out.at hil2
        subst hag
        rw [intsOf_get l i hil hil2] at hcc
        have hgl := (HR1.out.lt g rfl).1
        obtain ⟨x, hx⟩ : ∃ x, x = l[i] := ⟨_, rfl⟩
        rw [← hx] at hcc
        have hpw : wr.cell? ⟨g, i, none⟩ = some (.int .i64 (x : Nat)) := by rw [HBL.out.cell (p := ⟨g, i, none⟩) hgl]; exact hcc
        have hPx : P = if 255 < x then none else (latE (l.drop (i + 1))).map ((out ++ [UInt8.ofNat x]) ++ ·) := by
          rw [HPI.out, List.drop_eq_getElem_cons hil, latE, ← hx]
          split
          · rfl
          · cases latE (l.drop (i + 1)) with
            | none => rfl
            | some r => simp
        have HPX := hid hPx
        clear hPx hx hcc hstr
        by_cases hbig : 255 < x
        · have hbI : (255 : Int) < (x : Int) := by omega
          have HRS := hid (show latRes s = ([], 7) by rw [HRS0.out, HPX.out, if_pos hbig]; rfl)
          clear hbig
          go_wp2
          go_ret2
          exact ⟨by rw [HRS.out]; rfl, HB1.out.trans (HBL.out.mono HB1.out.size)⟩
        · have hbI : ¬ ((255 : Int) < (x : Int)) := by omega
          have hcv : IntKind.u8.wrap (x : Int) = ((UInt8.ofNat x).toNat : Int) := by rw [ofNat_lt (by omega), IntKind.wrap_u8]; omega
          replace HPX := hid (show P = (latE (l.drop (i + 1))).map ((out ++ [UInt8.ofNat x]) ++ ·) by rw [HPX.out, if_neg hbig])
          obtain ⟨c0, hc0⟩ : ∃ c0, c0 = UInt8.ofNat x := ⟨_, rfl⟩
          rw [← hc0] at hcv HPX
          clear hc0 hbig
          go_wp2_with (at_builtin; refine appB_one rfl rfl (.tmp 25) (.tmp 28) rfl w1.heap.size _ _ c0 rfl HROW.out rfl hBr hnl ?_; intro v9 w9 hr9 hg9 hv9; have HR9 := hid hr9; have HG9 := hid hg9; clear hr9 hg9 hv9)
          go_roundg (n - (i + 1))
          case measure => omega
          case rel => exact ⟨i + 1, out ++ [c0], by go_num, hlt, HR9.out, by rw [List.length_append]; simp only [List.length_cons, List.length_nil]; omega, HPX.out, HBL.out.grown HG9.out hBr (fun k hk => (HROW.out.lt k hk).2), rfl⟩
      · obtain rfl : i = n := by omega
        have HRS := hid (show latRes s = (out, 0) by
          rw [HRS0.out, HPI.out, List.drop_eq_nil_of_le (by rw [← HNL.out]; exact Nat.le_refl _), latE]
          show latO (some (out ++ [])) = _
          rw [List.append_nil]
          rfl)
        go_wp2
        go_ret2
        exact ⟨by rw [HRS.out]; rfl, HB1.out.trans (HBL.out.mono HB1.out.size)⟩
set_option maxRecDepth 100000 in
set_option maxHeartbeats 4000000 in
theorem unlatinR_fn (s : Str) (hs : s.length ≤ 1000000) (w : World) : Calls Tryz.prog 36 #[.string ⟨s.toArray⟩] w (TxtQ (unlRes s) w) := by
  have hsz : (⟨s.toArray⟩ : ByteArray).size = s.length := Lib.size_mk _
  unfold TxtQ
  go_enter Tryz.func36, Tryz.ntmps36
  go_wp2_with fail
  go_loopg [4, 10] s.length (fun k lv iv wr => ∃ (i : Nat) (l : Str), iv = .int .i64 (i : Nat) ∧ At s l i ∧ RowI w.heap.size wr lv (intsOf ((s.take i).map (·.toNat))) ∧ Below w.heap.size w wr ∧ k = l.length)
  case atStart => exact ⟨0, s, rfl, At.start s, RowI.nil _ _, Below.refl _ _, rfl⟩
  case round =>
    obtain ⟨i, l, rfl, ha, hrow, hbl, hk⟩ := hrel
    replace hk := hk.symm
    subst hk
    have hlen := ha.len
    have hol : (intsOf ((s.take i).map (·.toNat))).length = i := by rw [intsOf_len, List.length_map, List.length_take]; omega
    obtain ⟨ao, co, he⟩ := hrow.shape
    rw [hol] at he
    have hnl : (intsOf ((s.take i).map (·.toNat))).length ≤ 10000000 := by omega
    have HROW := hid hrow
    have HBL := hid hbl
    have hBr := hbl.size
    have HA := hid ha
    clear hrow hbl hol ha
    subst he
    cases l with
    | nil =>
      have hie : i = s.length := by simpa using hlen
      have hge : ¬ ((i : Int) < (s.length : Int)) := by omega
      have hof := ofPointsR_fn _ _ wr HROW.out.ints (by rw [intsOf_len, List.length_map, List.length_take]; omega)
      rw [hie, List.take_length, unl_of] at hof
      unfold TxtQ at hof
      have hul : (unlE s).length ≤ 4000000 := by
        unfold unlE
        have := encAll_len (s.map (·.toNat))
        rw [List.length_map] at this
        omega
      have HUR := hid (show unlRes s = if 65536 < (unlE s).length then ([], 4) else (unlE s, 0) from rfl)
      obtain ⟨u, hu⟩ : ∃ u, u = unlE s := ⟨_, rfl⟩
      rw [← hu] at hof hul HUR
      have husz : (⟨u.toArray⟩ : ByteArray).size = u.length := Lib.size_mk _
      obtain rfl : i = s.length := hie
      have HOF := hid hof
      clear hof hu
      by_cases hbig : 65536 < u.length
      · have hbI : (65536 : Int) < (u.length : Int) := by omega
        have HRS := hid (show unlRes s = ([], 4) by rw [HUR.out, if_pos hbig])
        clear hbig
        go_wp2_with (go_at_call 32; refine HOF.out.mono ?_; rintro e w5 ⟨rfl, hb5⟩; have HB5 := hid (HBL.out.trans (hb5.mono hBr)); clear hb5)
        go_ret2
        exact ⟨by rw [HRS.out]; rfl, HB5.out⟩
      · have hbI : ¬ ((65536 : Int) < (u.length : Int)) := by omega
        have HRS := hid (show unlRes s = (u, 0) by rw [HUR.out, if_neg hbig])
        clear hbig
        go_wp2_with (go_at_call 32; refine HOF.out.mono ?_; rintro e w5 ⟨rfl, hb5⟩; have HB5 := hid (HBL.out.trans (hb5.mono hBr)); clear hb5)
        go_ret2
        exact ⟨by rw [HRS.out]; rfl, HB5.out⟩
    | cons c t =>
      have hlt := HA.out.lt
      have hbyte := HA.out.byte
      have hltI : (i : Int) < (s.length : Int) := by omega
      have hcl := c.toNat_lt
      have hsn : intsOf ((s.take (i + 1)).map (·.toNat)) = intsOf ((s.take i).map (·.toNat)) ++ [(c.toNat : Int)] := by
        have h9 := HA.out.head
        rw [List.getElem?_eq_getElem hlt] at h9
        rw [List.take_succ_eq_append_getElem hlt, Option.some.inj h9]
        unfold intsOf
        simp
      have HSN := hid hsn
      clear hsn
      go_wp2_with (at_builtin; refine appI_one rfl rfl (.tmp 13) (.tmp 18) rfl w.heap.size _ _ (c.toNat : Int) rfl HROW.out rfl hBr hnl ?_; intro v9 w9 hr9 hg9 hv9; have HR9 := hid hr9; have HG9 := hid hg9; clear hr9 hg9 hv9)
      go_roundg t.length
      case measure => simp
      case rel => exact ⟨i + 1, t, by go_num, HA.out.tail, by rw [HSN.out]; exact HR9.out, HBL.out.grown HG9.out hBr (fun k hk => (HROW.out.lt k hk).2), rfl⟩
end Go.Proofs.YtihdndaibmgoiaaGreatDoor.Pz
/-
  The reference 10: Wide; laws 10: BinaryPoints.
-/
namespace Go.Proofs.YtihdndaibmgoiaaGreatDoor.Pz
open Go.RowKit
attribute [local go_sem] Oper.semAt_some
def ptsL (s : Str) : List Nat := match pointsE s with
  | none => []
  | some l => l
theorem ptsRes_L (s : Str) : (ptsRes s).1 = intsOf (ptsL s) := by
  unfold ptsRes ptsL
  cases pointsE s <;> rfl
theorem ptsL_len (s : Str) : (ptsL s).length ≤ s.length := by
  unfold ptsL
  cases h : pointsE s with
  | none => exact Nat.zero_le _
  | some l => exact points_len _ s l (Nat.le_refl _) h
theorem wide_any (s : Str) : wideE s = (decide ((ptsRes s).2 = 0) && (ptsL s).any fun v => decide (127 < v)) := by
  unfold wideE ptsRes ptsL
  cases h : pointsE s with
  | none => rfl
  | some l =>
    have hw := points_wide _ s l (Nat.le_refl _) h
    show decide (l.length < s.length) = (true && l.any fun v => decide (127 < v))
    rw [Bool.true_and]
    by_cases h2 : l.length < s.length
    · rw [decide_eq_true h2]
      obtain ⟨v, hv, hl⟩ := hw.1 h2
      exact (List.any_eq_true.2 ⟨v, hv, decide_eq_true hl⟩).symm
    · rw [decide_eq_false h2]
      refine (List.any_eq_false.2 fun v hv => ?_).symm
      simp only [decide_eq_true_eq]
      intro hl
      exact h2 (hw.2 ⟨v, hv, hl⟩)
set_option maxRecDepth 100000 in
set_option maxHeartbeats 4000000 in
theorem wideR_fn (s : Str) (hs : s.length ≤ 1000000) (w : World) (hT : U8 w) : Calls Tryz.prog 39 #[.string ⟨s.toArray⟩] w fun e w' => e = .returned (.bool (wideE s)) ∧ Below w.heap.size w w' := by
  have hp := pointsR_fn s hs w hT
  unfold PtsQ at hp
  rw [ptsRes_L] at hp
  have hw := wide_any s
  have hll := ptsL_len s
  obtain ⟨l, hl⟩ : ∃ l, l = ptsL s := ⟨_, rfl⟩
  obtain ⟨er, her⟩ : ∃ er, er = (ptsRes s).2 := ⟨_, rfl⟩
  rw [← hl] at hp hw hll
  rw [← her] at hp hw
  obtain ⟨R, hR⟩ : ∃ R, R = wideE s := ⟨_, rfl⟩
  rw [← hR] at hw ⊢
  have HP := hid hp
  have HW := hid hw
  obtain ⟨n, hn⟩ : ∃ n, n = (intsOf l).length := ⟨_, rfl⟩
  have hnl : n = l.length := by rw [hn, intsOf_len]
  have hn6 : n ≤ 1000000 := by omega
  have HN := hid hn
  have HNL := hid hnl
  clear hT hp hw hl her hR hn hnl hll
  go_enter Tryz.func39, Tryz.ntmps39
  go_wp2_with (go_at_call 30; refine HP.out.mono ?_; rintro e w1 ⟨v, rfl, hr1, hb1⟩; obtain ⟨a1, c1, he⟩ := hr1.shape; have he2 : v = .slice a1 n c1 := (by rw [he, HN.out]); clear he; have HR1 := hid hr1; have HB1 := hid hb1; clear hr1 hb1; subst he2)
  go_loopg [5, 15] n (fun k bv iv wr => ∃ (i : Nat), iv = .int .i64 (i : Nat) ∧ i ≤ n ∧ bv = .bool ((l.take i).any fun v => decide (127 < v)) ∧ wr = w1 ∧ k = n - i)
  case atStart => exact ⟨0, rfl, Nat.zero_le _, rfl, rfl, rfl⟩
  case round =>
    obtain ⟨i, rfl, hin, rfl, hw, hk⟩ := hrel
    replace hk := hk.symm
    subst hk
    replace hw := hw.symm
    subst hw
    rcases Nat.lt_or_ge i n with hlt | hge
    · have hltI : (i : Int) < (n : Int) := by omega
      have hil : i < l.length := by rw [← HNL.out]; exact hlt
      have hil2 : i < (intsOf l).length := by rw [← HN.out]; exact hlt
      obtain ⟨g, hag, -, hcc⟩ := HR1.out.at hil2
      subst hag
      rw [intsOf_get l i hil hil2] at hcc
      obtain ⟨x, hx⟩ : ∃ x, x = l[i] := ⟨_, rfl⟩
      rw [← hx] at hcc
      have HSN := hid (show (l.take (i + 1)).any (fun v => decide (127 < v)) = ((l.take i).any (fun v => decide (127 < v)) || decide (127 < x)) by
        rw [List.take_succ_eq_append_getElem hil, List.any_append, ← hx]
        simp)
      clear hx
      cases hb : (l.take i).any fun v => decide (127 < v) with
      | true =>
        have HB := hid hb
        clear hb
        go_wp2
        go_roundg (n - (i + 1))
        case measure => omega
        case rel => exact ⟨i + 1, by go_num, hlt, by rw [HSN.out, HB.out]; rfl, rfl, rfl⟩
      | false =>
        have HB := hid hb
        clear hb
        by_cases hx : 127 < x
        · have hxI : (127 : Int) < (x : Int) := by omega
          have HX := hid hx
          clear hx
          go_wp2
          go_roundg (n - (i + 1))
          case measure => omega
          case rel => exact ⟨i + 1, by go_num, hlt, by rw [HSN.out, HB.out, decide_eq_true HX.out]; rfl, rfl, rfl⟩
        · have hxI : ¬ ((127 : Int) < (x : Int)) := by omega
          have HX := hid hx
          clear hx
          go_wp2
          go_roundg (n - (i + 1))
          case measure => omega
          case rel => exact ⟨i + 1, by go_num, hlt, by rw [HSN.out, HB.out, decide_eq_false HX.out]; rfl, rfl, rfl⟩
    · obtain rfl : i = n := by omega
      have HT := hid (show l.take i = l by rw [HNL.out]; exact List.take_length)
      rw [HT.out]
      cases hb : l.any fun v => decide (127 < v) with
      | true =>
        by_cases h0 : er = 0
        · have hIe : (er == 0) = true := by simpa using h0
          have HRR := hid (show R = true by rw [HW.out, hb, decide_eq_true h0]; rfl)
          clear hb h0
          go_wp2
          go_ret
          exact ⟨by rw [HRR.out]; rfl, HB1.out⟩
        · have hIe : (er == 0) = false := by simpa using h0
          have HRR := hid (show R = false by rw [HW.out, hb, decide_eq_false h0]; rfl)
          clear hb h0
          go_wp2
          go_ret
          exact ⟨by rw [HRR.out]; rfl, HB1.out⟩
      | false =>
        have HRR := hid (show R = false by rw [HW.out, hb, Bool.and_false])
        clear hb
        by_cases h0 : er = 0
        · have hIe : (er == 0) = true := by simpa using h0
          clear h0
          go_wp2
          go_ret
          exact ⟨by rw [HRR.out]; rfl, HB1.out⟩
        · have hIe : (er == 0) = false := by simpa using h0
          clear h0
          go_wp2
          go_ret
          exact ⟨by rw [HRR.out]; rfl, HB1.out⟩
end Go.Proofs.YtihdndaibmgoiaaGreatDoor.Pz
