/-
  Products digit by digit (no program in sight).
-/
import Derived.Test.YtkhgoeippamobaaGreatDoorNat
namespace Go.Proofs.YtkhgoeippamobaaGreatDoor
/-- behind i rounds: the low digits of m times n -/
def sT (m n i : Nat) : Nat := m % 2 ^ (32 * i) * n
/-- within round i, behind k digits of n -/
def tT (m n i k : Nat) : Nat := sT m n i % 2 ^ (32 * (i + k)) + D m i * (2 ^ (32 * i) * (n % 2 ^ (32 * k)))
def cT (m n i k : Nat) : Nat := tT m n i k / 2 ^ (32 * (i + k))
/-- the sum of a step -/
def uT (m n i k : Nat) : Nat := cT m n i k + (D (sT m n i) (i + k) + D m i * D n k)
theorem tT_zero (m n i : Nat) : tT m n i 0 = sT m n i % 2 ^ (32 * i) := by simp [tT, Nat.mod_one]
theorem cT_zero (m n i : Nat) : cT m n i 0 = 0 := by
  unfold cT; rw [tT_zero, Nat.add_zero]; exact Nat.div_eq_of_lt (Nat.mod_lt _ (pow32_pos i))
theorem pow32_add (i k : Nat) : 2 ^ (32 * (i + k)) = 2 ^ (32 * i) * 2 ^ (32 * k) := by rw [Nat.mul_add, Nat.pow_add]
theorem tT_succ (m n i k : Nat) : tT m n i (k + 1) = tT m n i k + 2 ^ (32 * (i + k)) * (D (sT m n i) (i + k) + D m i * D n k) := by
  unfold tT
  rw [show i + (k + 1) = (i + k) + 1 by omega, mod_split (sT m n i) (i + k), mod_split n k]
  have e : D m i * (2 ^ (32 * i) * (n % 2 ^ (32 * k) + 2 ^ (32 * k) * D n k)) = D m i * (2 ^ (32 * i) * (n % 2 ^ (32 * k))) + 2 ^ (32 * (i + k)) * (D m i * D n k) := by
    rw [pow32_add i k, Nat.mul_add (2 ^ (32 * i)), Nat.mul_add (D m i)]
    congr 1
    ac_rfl
  rw [e, Nat.mul_add (2 ^ (32 * (i + k)))]
  omega
theorem uT_eq (m n i k : Nat) : uT m n i k = tT m n i (k + 1) / 2 ^ (32 * (i + k)) := by
  rw [tT_succ, Nat.add_mul_div_left _ _ (pow32_pos _)]
  rfl
theorem uT_div (m n i k : Nat) : uT m n i k / 4294967296 = cT m n i (k + 1) := by
  rw [uT_eq, Nat.div_div_eq_div_mul]
  unfold cT
  rw [show i + (k + 1) = (i + k) + 1 by omega, pow32_succ]
theorem uT_mod (m n i k : Nat) : uT m n i k % 4294967296 = D (tT m n i (k + 1)) (i + k) := by
  rw [uT_eq]; rfl
theorem tT_low (m n i k t : Nat) (h : t < i + k) : D (tT m n i k) t = D (tT m n i (k + 1)) t := by
  apply D_congr
  rw [tT_succ]
  have e : 2 ^ (32 * (i + k)) = 2 ^ (32 * (t + 1)) * 2 ^ (32 * (i + k - (t + 1))) := by rw [← Nat.pow_add]; congr 1; omega
  rw [e, Nat.mul_assoc, Nat.add_mul_mod_self_left]
theorem cT_lt (m n i k : Nat) : cT m n i k < 4294967296 := by
  induction k with
  | zero => rw [cT_zero]; decide
  | succ k ih =>
    rw [← uT_div]
    unfold uT
    have h1 := D_lt (sT m n i) (i + k)
    have h2 := mul_lt_u64 _ _ (D_lt m i) (D_lt n k)
    omega
theorem uT_lt (m n i k : Nat) : uT m n i k < 18446744073709551616 := by
  unfold uT
  have h0 := cT_lt m n i k
  have h1 := D_lt (sT m n i) (i + k)
  have h2 := mul_lt_u64 _ _ (D_lt m i) (D_lt n k)
  omega
theorem uT_wrap1 (m n i k : Nat) : IntKind.u64.wrap ((D m i : Int) * (D n k : Int)) = (D m i : Int) * (D n k : Int) := by
  have := mul_lt_u64 _ _ (D_lt m i) (D_lt n k)
  rw [← Int.natCast_mul]
  exact wrap_u64_nat _ (by omega)
theorem uT_wrap2 (m n i k s : Nat) (h : s < 4294967296) : IntKind.u64.wrap ((s : Int) + (D m i : Int) * (D n k : Int)) = (s : Int) + (D m i : Int) * (D n k : Int) := by
  have := mul_lt_u64 _ _ (D_lt m i) (D_lt n k)
  rw [← Int.natCast_mul, ← Int.natCast_add]
  exact wrap_u64_nat _ (by omega)
theorem uT_wrap3 (m n i k : Nat) : IntKind.u64.wrap ((cT m n i k : Int) + ((D (sT m n i) (i + k) : Int) + (D m i : Int) * (D n k : Int))) = (uT m n i k : Int) := by
  have := uT_lt m n i k
  rw [← Int.natCast_mul, ← Int.natCast_add, ← Int.natCast_add]
  exact wrap_u64_nat _ this
theorem sT_lt (m n i : Nat) : sT m n i < 2 ^ (32 * (i + nlen n)) := by
  unfold sT
  rw [pow32_add]
  exact Nat.mul_lt_mul'' (Nat.mod_lt _ (pow32_pos i)) (lt_nlen n)
theorem tT_end (m n i : Nat) : tT m n i (nlen n) = sT m n (i + 1) := by
  unfold tT
  rw [Nat.mod_eq_of_lt (sT_lt m n i), Nat.mod_eq_of_lt (lt_nlen n)]
  unfold sT
  rw [mod_split m i, Nat.add_mul, Nat.mul_assoc, Nat.mul_left_comm]
theorem cT_end (m n i : Nat) : cT m n i (nlen n) = D (sT m n (i + 1)) (i + nlen n) := by
  unfold cT
  rw [tT_end, D_eq]
  rw [show i + nlen n + 1 = i + 1 + nlen n by omega]
  exact sT_lt m n (i + 1)
theorem sT_zero (m n : Nat) : sT m n 0 = 0 := by simp [sT, Nat.mod_one]
theorem sT_all (m n : Nat) : sT m n (nlen m) = m * n := by
  unfold sT; rw [Nat.mod_eq_of_lt (lt_nlen m)]
theorem mul_lt_pow (m n : Nat) : m * n < 2 ^ (32 * (nlen m + nlen n)) := by rw [← sT_all]; exact sT_lt m n _
theorem tT_start (m n i t : Nat) (h : t < i) : D (tT m n i 0) t = D (sT m n i) t := by
  rw [tT_zero]
  apply D_congr
  have e : 2 ^ (32 * i) = 2 ^ (32 * (t + 1)) * 2 ^ (32 * (i - (t + 1))) := by rw [← Nat.pow_add]; congr 1; omega
  rw [e, Nat.mod_mul_right_mod]
theorem D_high (x k t : Nat) (h : x < 2 ^ (32 * k)) (ht : k ≤ t) : D x t = 0 := D_out x t (Nat.le_trans ((nlen_le_iff x k).2 h) ht)
end Go.Proofs.YtkhgoeippamobaaGreatDoor
