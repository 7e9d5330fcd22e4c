/-
  Plain arithmetic: digits to the base 2^32 (no program in sight).
-/
import Derived.WalkKit
namespace Go.Proofs.YtkhgoeippamobaaGreatDoor
open Go.RowKit
/-- the digit number i to the base 2^32 -/
def D (n i : Nat) : Nat := n / 2 ^ (32 * i) % 4294967296
/-- how many digits to the base 2^32 -/
def nlen (n : Nat) : Nat := if n = 0 then 0 else Nat.log2 n / 32 + 1
theorem D_lt (n i : Nat) : D n i < 4294967296 := Nat.mod_lt _ (by decide)
theorem nlen_zero : nlen 0 = 0 := rfl
theorem pow32_pos (k : Nat) : 0 < 2 ^ (32 * k) := Nat.pow_pos (by decide)
theorem lt_nlen (n : Nat) : n < 2 ^ (32 * nlen n) := by
  unfold nlen
  by_cases h : n = 0
  · simp [h]
  · rw [if_neg h]
    exact (Nat.log2_lt h).1 (by omega)
theorem nlen_le_iff (n k : Nat) : nlen n ≤ k ↔ n < 2 ^ (32 * k) := by
  constructor
  · intro h
    exact Nat.lt_of_lt_of_le (lt_nlen n) (Nat.pow_le_pow_right (by decide) (by omega))
  · intro h
    unfold nlen
    by_cases h0 : n = 0
    · simp [h0]
    · rw [if_neg h0]
      have := (Nat.log2_lt h0).2 h
      omega
theorem lt_nlen_iff (n k : Nat) : k < nlen n ↔ 2 ^ (32 * k) ≤ n := by
  have := nlen_le_iff n k
  omega
theorem nlen_eq_zero (n : Nat) : nlen n = 0 ↔ n = 0 := by
  have := nlen_le_iff n 0
  simp at this; omega
theorem nlen_mono {m n : Nat} (h : m ≤ n) : nlen m ≤ nlen n := (nlen_le_iff m _).2 (Nat.lt_of_le_of_lt h (lt_nlen n))
theorem D_out (n i : Nat) (h : nlen n ≤ i) : D n i = 0 := by
  have := (nlen_le_iff n i).1 h
  unfold D
  rw [Nat.div_eq_of_lt this]
theorem D_zero (i : Nat) : D 0 i = 0 := by simp [D]
theorem pow32_succ (k : Nat) : 2 ^ (32 * (k + 1)) = 2 ^ (32 * k) * 4294967296 := by
  rw [Nat.mul_add, Nat.pow_add]
theorem div_split (n i : Nat) : n / 2 ^ (32 * i) = D n i + 4294967296 * (n / 2 ^ (32 * (i + 1))) := by
  unfold D
  rw [pow32_succ, ← Nat.div_div_eq_div_mul]
  have := Nat.mod_add_div (n / 2 ^ (32 * i)) 4294967296
  omega
theorem mod_split (n i : Nat) : n % 2 ^ (32 * (i + 1)) = n % 2 ^ (32 * i) + 2 ^ (32 * i) * D n i := by
  unfold D
  rw [pow32_succ, Nat.mod_mul]
/-- the highest digit is not zero -/
theorem D_top (n : Nat) (h : 0 < nlen n) : D n (nlen n - 1) ≠ 0 := by
  have h1 := (lt_nlen_iff n (nlen n - 1)).1 (by omega)
  have h2 := lt_nlen n
  have h3 := div_split n (nlen n - 1)
  have h4 : n / 2 ^ (32 * (nlen n - 1 + 1)) = 0 := Nat.div_eq_of_lt (by rwa [Nat.sub_add_cancel h])
  rw [h4] at h3
  have h5 : 1 ≤ n / 2 ^ (32 * (nlen n - 1)) := (Nat.le_div_iff_mul_le (pow32_pos _)).2 (by omega)
  omega
/-- cutting zeros off -/
theorem nlen_of_cut (n k : Nat) (h : n < 2 ^ (32 * k)) (ht : k = 0 ∨ D n (k - 1) ≠ 0) : nlen n = k := by
  have h1 := (nlen_le_iff n k).2 h
  rcases ht with ht | ht
  · omega
  · have : ¬ nlen n ≤ k - 1 := fun hle => ht (D_out n _ hle)
    omega
theorem lt_cut (n k : Nat) (h : n < 2 ^ (32 * (k + 1))) (ht : D n k = 0) : n < 2 ^ (32 * k) := by
  have h3 := div_split n k
  rw [Nat.div_eq_of_lt h, ht] at h3
  exact (Nat.div_eq_zero_iff_lt (pow32_pos k)).1 (by omega)
theorem testBit_D (n i : Nat) : n.testBit i = (D n (i / 32)).testBit (i % 32) := by
  unfold D
  rw [show (4294967296 : Nat) = 2 ^ 32 from rfl, Nat.testBit_mod_two_pow, Nat.testBit_div_two_pow]
  have : i % 32 < 32 := Nat.mod_lt _ (by decide)
  simp [this]
  congr 1
  omega
/-- -1, 0 or 1 -/
def cmpN (m n : Nat) : Int := if m < n then -1 else if n < m then 1 else 0
theorem cmp_step_lt (m n i : Nat) (h : m / 2 ^ (32 * (i + 1)) = n / 2 ^ (32 * (i + 1))) (hd : D m i < D n i) : m < n := by
  have h1 := div_split m i
  have h2 := div_split n i
  have h3 : m / 2 ^ (32 * i) < n / 2 ^ (32 * i) := by omega
  exact Nat.lt_of_not_le fun hle => by
    have := Nat.div_le_div_right (c := 2 ^ (32 * i)) hle
    omega
theorem cmp_step_eq (m n i : Nat) (h : m / 2 ^ (32 * (i + 1)) = n / 2 ^ (32 * (i + 1))) (hd : D m i = D n i) : m / 2 ^ (32 * i) = n / 2 ^ (32 * i) := by
  rw [div_split m i, div_split n i, h, hd]
theorem div_top (m k : Nat) (h : nlen m ≤ k) : m / 2 ^ (32 * k) = 0 := Nat.div_eq_of_lt ((nlen_le_iff m k).1 h)
/-- how many bits -/
def nbits (n : Nat) : Nat := if n = 0 then 0 else Nat.log2 n + 1
theorem nbits_le_iff (n k : Nat) : nbits n ≤ k ↔ n < 2 ^ k := by
  unfold nbits
  by_cases h0 : n = 0
  · have := Nat.pow_pos (n := k) (show 0 < 2 by decide)
    simp [h0]; exact this
  · rw [if_neg h0]
    have := Nat.log2_lt (k := k) h0
    omega
theorem nbits_of (n k : Nat) (h : n < 2 ^ k) (ht : k = 0 ∨ n.testBit (k - 1) = true) : nbits n = k := by
  have h1 := (nbits_le_iff n k).2 h
  rcases ht with ht | ht
  · omega
  · have : ¬ nbits n ≤ k - 1 := fun hle => by
      have h2 := (nbits_le_iff n _).1 hle
      rw [Nat.testBit_lt_two_pow h2] at ht
      cases ht
    omega
theorem lt_of_bit (n k : Nat) (h : n < 2 ^ (k + 1)) (ht : n.testBit k = false) : n < 2 ^ k := by
  rw [Nat.testBit_eq_decide_div_mod_eq] at ht
  have h1 : n / 2 ^ k < 2 := by
    rw [Nat.div_lt_iff_lt_mul (Nat.pow_pos (by decide))]
    rw [Nat.pow_succ] at h; omega
  have h3 : n / 2 ^ k % 2 ≠ 1 := of_decide_eq_false ht
  have h2 : n / 2 ^ k = 0 := by generalize n / 2 ^ k = q at *; omega
  exact (Nat.div_eq_zero_iff_lt (Nat.pow_pos (by decide))).1 h2
theorem nbits_le_nlen (n : Nat) : nbits n ≤ 32 * nlen n := (nbits_le_iff n _).2 (lt_nlen n)
/-- the carry behind j digits of n times k and c more -/
def cySmall (n k c j : Nat) : Nat := (n % 2 ^ (32 * j) * k + c) / 2 ^ (32 * j)
theorem cySmall_zero (n k c : Nat) : cySmall n k c 0 = c := by simp [cySmall, Nat.mod_one]
theorem cySmall_lt (n k c j : Nat) (hk : k < 4294967296) (hc : c < 4294967296) : cySmall n k c j < 4294967296 := by
  unfold cySmall
  rw [Nat.div_lt_iff_lt_mul (pow32_pos j)]
  have h1 : n % 2 ^ (32 * j) + 1 ≤ 2 ^ (32 * j) := Nat.mod_lt _ (pow32_pos j)
  have h2 : (n % 2 ^ (32 * j)) * k ≤ (n % 2 ^ (32 * j)) * 4294967295 := Nat.mul_le_mul_left _ (by omega)
  omega
theorem cySmall_split (n k c j : Nat) : cySmall n k c j + D n j * k = (n % 2 ^ (32 * (j + 1)) * k + c) / 2 ^ (32 * j) := by
  unfold cySmall
  rw [mod_split n j, Nat.add_mul, Nat.add_right_comm, Nat.mul_assoc, Nat.add_mul_div_left _ _ (pow32_pos j)]
theorem cySmall_succ (n k c j : Nat) : (cySmall n k c j + D n j * k) / 4294967296 = cySmall n k c (j + 1) := by
  rw [cySmall_split, Nat.div_div_eq_div_mul]
  unfold cySmall
  rw [pow32_succ]
/-- two numbers that agree below have the same digit -/
theorem D_congr (m n j : Nat) (h : m % 2 ^ (32 * (j + 1)) = n % 2 ^ (32 * (j + 1))) : D m j = D n j := by
  have e (x : Nat) : D x j = x % 2 ^ (32 * (j + 1)) / 2 ^ (32 * j) := by
    unfold D
    rw [pow32_succ, Nat.mod_mul_right_div_self]
  rw [e, e, h]
theorem D_eq (x j : Nat) (h : x < 2 ^ (32 * (j + 1))) : D x j = x / 2 ^ (32 * j) := by
  unfold D
  rw [Nat.mod_eq_of_lt]
  rw [Nat.div_lt_iff_lt_mul (pow32_pos j)]
  rw [pow32_succ] at h
  omega
theorem cySmall_digit (n k c j : Nat) : (cySmall n k c j + D n j * k) % 4294967296 = D (n * k + c) j := by
  rw [cySmall_split]
  show D (n % 2 ^ (32 * (j + 1)) * k + c) j = D (n * k + c) j
  apply D_congr
  rw [Nat.add_mod, Nat.mod_mul_mod, ← Nat.add_mod]
theorem mul_lt_u64 (x k : Nat) (hx : x < 4294967296) (hk : k < 4294967296) : x * k ≤ 18446744065119617025 := by
  calc x * k ≤ 4294967295 * k := Nat.mul_le_mul_right _ (by omega)
    _ ≤ 4294967295 * 4294967295 := Nat.mul_le_mul_left _ (by omega)
theorem cySmall_top (n k c j : Nat) (h : nlen n ≤ j) : cySmall n k c j = (n * k + c) / 2 ^ (32 * j) := by
  unfold cySmall
  rw [Nat.mod_eq_of_lt ((nlen_le_iff n j).1 h)]
theorem small_lt (n k c : Nat) (hk : k < 4294967296) (hc : c < 4294967296) : n * k + c < 2 ^ (32 * (nlen n + 1)) := by
  rw [pow32_succ]
  have h1 := lt_nlen n
  have h2 : n * k ≤ n * 4294967295 := Nat.mul_le_mul_left _ (by omega)
  omega
/-- the sum of a round of 'small' -/
def tSmall (n k c j : Nat) : Nat := cySmall n k c j + D n j * k
theorem wrap_u64_nat (x : Nat) (h : x < 18446744073709551616) : IntKind.u64.wrap (x : Int) = x := by
  simp [IntKind.wrap, IntKind.bits, IntKind.signed]
  omega
theorem tSmall_mul (n k j : Nat) (hk : k < 4294967296) : IntKind.u64.wrap ((D n j : Int) * (k : Int)) = (D n j : Int) * (k : Int) := by
  have := mul_lt_u64 _ _ (D_lt n j) hk
  rw [← Int.natCast_mul]
  exact wrap_u64_nat _ (by omega)
theorem tSmall_wrap (n k c j : Nat) (hk : k < 4294967296) (hc : c < 4294967296) : IntKind.u64.wrap ((cySmall n k c j : Int) + (D n j : Int) * (k : Int)) = (tSmall n k c j : Int) := by
  have h1 := mul_lt_u64 _ _ (D_lt n j) hk
  have h2 := cySmall_lt n k c j hk hc
  rw [← Int.natCast_mul, ← Int.natCast_add]
  exact wrap_u64_nat _ (by omega)
theorem tSmall_mod (n k c j : Nat) : (tSmall n k c j : Int) % 4294967296 = (D (n * k + c) j : Int) := by
  rw [← cySmall_digit]
  unfold tSmall
  omega
theorem tSmall_div (n k c j : Nat) : (tSmall n k c j : Int) / 4294967296 = (cySmall n k c (j + 1) : Int) := by
  rw [← cySmall_succ]
  unfold tSmall
  omega
theorem cySmall_last (n k c : Nat) (hk : k < 4294967296) (hc : c < 4294967296) : (cySmall n k c (nlen n) : Int) = (D (n * k + c) (nlen n) : Int) := by
  rw [D_eq _ _ (small_lt n k c hk hc), ← cySmall_top n k c (nlen n) (Nat.le_refl _)]
theorem wrap_u32_nat (x : Nat) : IntKind.u32.wrap (x : Int) = ((x % 4294967296 : Nat) : Int) := by
  simp [IntKind.wrap, IntKind.bits, IntKind.signed]
end Go.Proofs.YtkhgoeippamobaaGreatDoor
