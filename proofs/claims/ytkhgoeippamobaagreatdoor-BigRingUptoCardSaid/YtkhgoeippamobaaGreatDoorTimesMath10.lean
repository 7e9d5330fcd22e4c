/-
  Products digit by digit, to the base 10 (no program in sight).
-/
import Derived.Test.YtkhgoeippamobaaGreatDoorRefG
namespace Go.Proofs.YtkhgoeippamobaaGreatDoor
theorem pow10_pos (i : Nat) : 0 < 10 ^ i := Nat.pow_pos (by decide)
theorem mod_split10 (n i : Nat) : n % 10 ^ (i + 1) = n % 10 ^ i + 10 ^ i * dgt 10 n i := by
  rw [mod10_succ, Nat.mul_comm, Nat.add_comm]
theorem dgt_congr (x y t : Nat) (h : x % 10 ^ (t + 1) = y % 10 ^ (t + 1)) : dgt 10 x t = dgt 10 y t := by
  have e : ∀ z, dgt 10 z t = z % 10 ^ (t + 1) / 10 ^ t := by
    intro z
    rw [mod_split10, Nat.add_mul_div_left _ _ (pow10_pos t), Nat.div_eq_of_lt (Nat.mod_lt _ (pow10_pos t)), Nat.zero_add]
  rw [e, e, h]
/-- behind i rounds: the low digits of m times n -/
def sX (m n i : Nat) : Nat := m % 10 ^ i * n
/-- within round i, behind k digits of n -/
def tX (m n i k : Nat) : Nat := sX m n i % 10 ^ (i + k) + dgt 10 m i * (10 ^ i * (n % 10 ^ k))
def cX (m n i k : Nat) : Nat := tX m n i k / 10 ^ (i + k)
/-- the sum of a step -/
def uX (m n i k : Nat) : Nat := dgt 10 (sX m n i) (i + k) + dgt 10 m i * dgt 10 n k + cX m n i k
theorem tX_zero (m n i : Nat) : tX m n i 0 = sX m n i % 10 ^ i := by simp [tX, Nat.mod_one]
theorem cX_zero (m n i : Nat) : cX m n i 0 = 0 := by
  unfold cX; rw [tX_zero, Nat.add_zero]; exact Nat.div_eq_of_lt (Nat.mod_lt _ (pow10_pos i))
theorem tX_succ (m n i k : Nat) : tX m n i (k + 1) = tX m n i k + 10 ^ (i + k) * (dgt 10 (sX m n i) (i + k) + dgt 10 m i * dgt 10 n k) := by
  unfold tX
  rw [show i + (k + 1) = (i + k) + 1 by omega, mod_split10 (sX m n i) (i + k), mod_split10 n k]
  have e : dgt 10 m i * (10 ^ i * (n % 10 ^ k + 10 ^ k * dgt 10 n k)) = dgt 10 m i * (10 ^ i * (n % 10 ^ k)) + 10 ^ (i + k) * (dgt 10 m i * dgt 10 n k) := by
    rw [Nat.pow_add, Nat.mul_add (10 ^ i), Nat.mul_add (dgt 10 m i)]
    congr 1
    ac_rfl
  rw [e, Nat.mul_add (10 ^ (i + k))]
  omega
theorem uX_eq (m n i k : Nat) : uX m n i k = tX m n i (k + 1) / 10 ^ (i + k) := by
  rw [tX_succ, Nat.add_mul_div_left _ _ (pow10_pos _)]
  unfold uX cX
  omega
theorem uX_div (m n i k : Nat) : uX m n i k / 10 = cX m n i (k + 1) := by
  rw [uX_eq, Nat.div_div_eq_div_mul]
  unfold cX
  rw [show i + (k + 1) = (i + k) + 1 by omega, Nat.pow_succ]
theorem uX_mod (m n i k : Nat) : uX m n i k % 10 = dgt 10 (tX m n i (k + 1)) (i + k) := by
  rw [uX_eq]; rfl
theorem tX_low (m n i k t : Nat) (h : t < i + k) : dgt 10 (tX m n i k) t = dgt 10 (tX m n i (k + 1)) t := by
  apply dgt_congr
  rw [tX_succ]
  have e : 10 ^ (i + k) = 10 ^ (t + 1) * 10 ^ (i + k - (t + 1)) := by rw [← Nat.pow_add]; congr 1; omega
  rw [e, Nat.mul_assoc, Nat.add_mul_mod_self_left]
theorem cX_lt (m n i k : Nat) : cX m n i k < 10 := by
  induction k with
  | zero => rw [cX_zero]; decide
  | succ k ih =>
    rw [← uX_div]
    unfold uX
    have h1 := dgt_lt 10 (sX m n i) (i + k) (by decide)
    have h2 := dgt_lt 10 m i (by decide)
    have h3 := dgt_lt 10 n k (by decide)
    have h4 : dgt 10 m i * dgt 10 n k ≤ 9 * 9 := Nat.mul_le_mul (by omega) (by omega)
    omega
theorem sX_lt (m n i : Nat) : sX m n i < 10 ^ (i + dlen 10 n) := by
  unfold sX
  rw [Nat.pow_add]
  exact Nat.mul_lt_mul'' (Nat.mod_lt _ (pow10_pos i)) (dlen_lt 10 n (by decide))
theorem sX_succ (m n i : Nat) : sX m n (i + 1) = sX m n i + dgt 10 m i * (10 ^ i * n) := by
  unfold sX
  rw [mod_split10 m i, Nat.add_mul, Nat.mul_assoc, Nat.mul_left_comm]
theorem sX_zero (m n : Nat) : sX m n 0 = 0 := by simp [sX, Nat.mod_one]
theorem sX_all (m n : Nat) : sX m n (dlen 10 m) = m * n := by
  unfold sX; rw [Nat.mod_eq_of_lt (dlen_lt 10 m (by decide))]
theorem tX_end (m n i k : Nat) (hk : dlen 10 n ≤ k) : tX m n i k = sX m n (i + 1) := by
  have h1 := (dlen_le_iff 10 n k (by decide)).1 hk
  have h2 : sX m n i < 10 ^ (i + k) := Nat.lt_of_lt_of_le (sX_lt m n i) (Nat.pow_le_pow_right (by decide) (by omega))
  unfold tX
  rw [Nat.mod_eq_of_lt h1, Nat.mod_eq_of_lt h2, sX_succ]
theorem cX_in (m n i k : Nat) (hk : dlen 10 n ≤ k) (h : 0 < cX m n i k) : i + k < i + 1 + dlen 10 n := by
  unfold cX at h
  rw [tX_end m n i k hk] at h
  have h1 := sX_lt m n (i + 1)
  rcases Nat.lt_or_ge (i + k) (i + 1 + dlen 10 n) with h2 | h2
  · exact h2
  · rw [Nat.div_eq_of_lt (Nat.lt_of_lt_of_le h1 (Nat.pow_le_pow_right (by decide) h2))] at h
    omega
theorem dgt_high (x k t : Nat) (h : x < 10 ^ k) (ht : k ≤ t) : dgt 10 x t = 0 := dgt_out x t (Nat.le_trans ((dlen_le_iff 10 x k (by decide)).2 h) ht)
/-- the round's end: what is left of the row is as it shall be -/
theorem tX_rest (m n i k t : Nat) (hk : dlen 10 n ≤ k) (h : cX m n i k = 0) (ht : i + k ≤ t) : dgt 10 (sX m n i) t = dgt 10 (sX m n (i + 1)) t := by
  have h1 : sX m n (i + 1) < 10 ^ (i + k) := by
    unfold cX at h
    rw [tX_end m n i k hk] at h
    exact (Nat.div_eq_zero_iff_lt (pow10_pos _)).1 h
  rw [dgt_high _ _ _ h1 ht, dgt_high _ _ _ (Nat.lt_of_lt_of_le (sX_lt m n i) (Nat.pow_le_pow_right (by decide) (show i + dlen 10 n ≤ i + k by omega))) ht]
theorem tX_start (m n i t : Nat) (h : t < i) : dgt 10 (tX m n i 0) t = dgt 10 (sX m n i) t := by
  rw [tX_zero]
  apply dgt_congr
  have e : 10 ^ i = 10 ^ (t + 1) * 10 ^ (i - (t + 1)) := by rw [← Nat.pow_add]; congr 1; omega
  rw [e, Nat.mod_mul_right_mod]
theorem mulX_lt (m n : Nat) : m * n < 10 ^ (dlen 10 m + dlen 10 n) := by rw [← sX_all]; exact sX_lt m n _
end Go.Proofs.YtkhgoeippamobaaGreatDoor
