/-
  Long division bit by bit (no program in sight).
-/
import Derived.Test.YtkhgoeippamobaaGreatDoorNat
namespace Go.Proofs.YtkhgoeippamobaaGreatDoor
def ovQ (m n j : Nat) : Nat := m / 2 ^ j / n * 2 ^ j
def ovR (m n j : Nat) : Nat := m / 2 ^ j % n
/-- the rest with one bit more -/
def ovT (m n i : Nat) : Nat := ovR m n (i + 1) * 2 + (m.testBit i).toNat
theorem half_split (m i : Nat) : m / 2 ^ i = 2 * (m / 2 ^ (i + 1)) + (m.testBit i).toNat := by
  rw [Nat.testBit_eq_decide_div_mod_eq, Nat.pow_succ, ← Nat.div_div_eq_div_mul]
  generalize m / 2 ^ i = x
  have := Nat.mod_two_eq_zero_or_one x
  rcases this with h | h <;> rw [h] <;> simp <;> omega
theorem ovR_lt (m n j : Nat) (hn : 0 < n) : ovR m n j < n := Nat.mod_lt _ hn
theorem ov_start (m n : Nat) : ovQ m n (nbits m) = 0 ∧ ovR m n (nbits m) = 0 := by
  have h : m / 2 ^ nbits m = 0 := Nat.div_eq_of_lt ((nbits_le_iff m _).1 (Nat.le_refl _))
  unfold ovQ ovR
  rw [h]; simp
theorem ov_end (m n : Nat) : ovQ m n 0 = m / n ∧ ovR m n 0 = m % n := by simp [ovQ, ovR]
theorem ov_step (m n i : Nat) (hn : 0 < n) : m / 2 ^ i = n * (2 * (m / 2 ^ (i + 1) / n)) + ovT m n i := by
  rw [half_split m i]
  unfold ovT ovR
  have h := Nat.div_add_mod (m / 2 ^ (i + 1)) n
  generalize m / 2 ^ (i + 1) = x at *
  have e : n * (2 * (x / n)) = 2 * (n * (x / n)) := by ac_rfl
  rw [e]
  omega
theorem ov_big (m n i : Nat) (hn : 0 < n) (h : n ≤ ovT m n i) : ovR m n i = ovT m n i - n ∧ ovQ m n i = ovQ m n (i + 1) + 2 ^ i := by
  have h1 := ov_step m n i hn
  have h2 : ovT m n i < 2 * n := by
    have := ovR_lt m n (i + 1) hn
    have := Bool.toNat_le (m.testBit i)
    unfold ovT; omega
  have h3 : m / 2 ^ i = (ovT m n i - n) + n * (2 * (m / 2 ^ (i + 1) / n) + 1) := by rw [h1, Nat.mul_add]; omega
  constructor
  · show m / 2 ^ i % n = _
    rw [h3, Nat.add_mul_mod_self_left, Nat.mod_eq_of_lt (by omega)]
  · show m / 2 ^ i / n * 2 ^ i = m / 2 ^ (i + 1) / n * 2 ^ (i + 1) + 2 ^ i
    rw [h3, Nat.add_mul_div_left _ _ hn, Nat.div_eq_of_lt (by omega), Nat.zero_add, Nat.add_mul, Nat.pow_succ]
    rw [show 2 * (m / (2 ^ i * 2) / n) * 2 ^ i = m / (2 ^ i * 2) / n * (2 ^ i * 2) by ac_rfl, Nat.one_mul]
theorem ov_small (m n i : Nat) (hn : 0 < n) (h : ovT m n i < n) : ovR m n i = ovT m n i ∧ ovQ m n i = ovQ m n (i + 1) := by
  have h1 := ov_step m n i hn
  have h3 : m / 2 ^ i = ovT m n i + n * (2 * (m / 2 ^ (i + 1) / n)) := by rw [h1]; omega
  constructor
  · show m / 2 ^ i % n = _
    rw [h3, Nat.add_mul_mod_self_left, Nat.mod_eq_of_lt h]
  · show m / 2 ^ i / n * 2 ^ i = m / 2 ^ (i + 1) / n * 2 ^ (i + 1)
    rw [h3, Nat.add_mul_div_left _ _ hn, Nat.div_eq_of_lt h, Nat.zero_add, Nat.pow_succ]
    rw [show 2 * (m / (2 ^ i * 2) / n) * 2 ^ i = m / (2 ^ i * 2) / n * (2 ^ i * 2) by ac_rfl]
theorem ovQ_mod (m n j : Nat) : ovQ m n j % 2 ^ j = 0 := Nat.mul_mod_left _ _
theorem ovQ_le (m n j : Nat) : ovQ m n j ≤ m := by
  unfold ovQ
  exact Nat.le_trans (Nat.mul_le_mul_right _ (Nat.div_le_self _ _)) (Nat.div_mul_le_self m _)
theorem D_or (x y t : Nat) : D (x ||| y) t = D x t ||| D y t := by
  unfold D
  apply Nat.eq_of_testBit_eq
  intro i
  rw [show (4294967296 : Nat) = 2 ^ 32 from rfl, Nat.testBit_mod_two_pow, Nat.testBit_div_two_pow, Nat.testBit_or, Nat.testBit_or, Nat.testBit_mod_two_pow, Nat.testBit_mod_two_pow, Nat.testBit_div_two_pow, Nat.testBit_div_two_pow]
  cases decide (i < 32) <;> simp
theorem D_two_pow (i : Nat) : D (2 ^ i) (i / 32) = 2 ^ (i % 32) := by
  unfold D
  have e : 2 ^ i = 2 ^ (32 * (i / 32)) * 2 ^ (i % 32) := by rw [← Nat.pow_add]; congr 1; omega
  rw [e, Nat.mul_div_cancel_left _ (pow32_pos _), Nat.mod_eq_of_lt]
  exact Nat.lt_of_le_of_lt (Nat.pow_le_pow_right (by decide) (show i % 32 ≤ 31 by omega)) (by decide)
theorem D_two_pow_ne (i t : Nat) (h : t ≠ i / 32) : D (2 ^ i) t = 0 := by
  unfold D
  by_cases h1 : t < i / 32
  · have e : 2 ^ i = 2 ^ (32 * t) * (4294967296 * 2 ^ (i - 32 * t - 32)) := by
      rw [show (4294967296 : Nat) = 2 ^ 32 from rfl, ← Nat.pow_add, ← Nat.pow_add]; congr 1; omega
    rw [e, Nat.mul_div_cancel_left _ (pow32_pos t), Nat.mul_mod_right]
  · rw [Nat.div_eq_of_lt (Nat.pow_lt_pow_right (by decide) (by omega))]
theorem set_bit (x i : Nat) (h : x % 2 ^ (i + 1) = 0) : x + 2 ^ i = x ||| 2 ^ i := (nat_join (i + 1) x (2 ^ i) h (Nat.pow_lt_pow_right (by decide) (by omega))).symm
theorem set_bit_D (x i : Nat) (h : x % 2 ^ (i + 1) = 0) : D (x + 2 ^ i) (i / 32) = D x (i / 32) ||| 2 ^ (i % 32) := by rw [set_bit x i h, D_or, D_two_pow]
theorem set_bit_D_ne (x i t : Nat) (h : x % 2 ^ (i + 1) = 0) (ht : t ≠ i / 32) : D (x + 2 ^ i) t = D x t := by rw [set_bit x i h, D_or, D_two_pow_ne i t ht, Nat.or_zero]
theorem cySmall_lt3 (n k c j : Nat) (hc : c < k) : cySmall n k c j < k := by
  unfold cySmall
  rw [Nat.div_lt_iff_lt_mul (pow32_pos j)]
  have h1 : n % 2 ^ (32 * j) + 1 ≤ 2 ^ (32 * j) := Nat.mod_lt _ (pow32_pos j)
  have h2 := Nat.mul_le_mul_left k h1
  rw [Nat.mul_add, Nat.mul_comm k (n % _)] at h2
  omega
theorem tSmall_two (r c j : Nat) (hc : c < 2) : (D r j * 2 % 4294967296) ||| cySmall r 2 c j = D (r * 2 + c) j := by
  have h := cySmall_lt3 r 2 c j hc
  rw [← cySmall_digit]
  have hj : (D r j * 2 % 4294967296) % 2 ^ 1 = 0 := by omega
  rw [nat_join 1 _ _ hj (by omega)]
  omega
theorem tSmall_top (r c j : Nat) (hc : c < 2) : D r j / 2147483648 = cySmall r 2 c (j + 1) := by
  have h := cySmall_lt3 r 2 c j hc
  rw [← cySmall_succ]
  omega
theorem nlen_two_carry (r c : Nat) (hc : c < 2) (h : 0 < cySmall r 2 c (nlen r)) : nlen (r * 2 + c) = nlen r + 1 := by
  apply nlen_of_cut _ _ (small_lt r 2 c (by decide) (by omega))
  right
  rw [Nat.add_sub_cancel]
  have := cySmall_last r 2 c (by decide) (by omega)
  omega
theorem nlen_two_none (r c : Nat) (hc : c < 2) (h : cySmall r 2 c (nlen r) = 0) : nlen (r * 2 + c) = nlen r := by
  have h1 := cySmall_top r 2 c (nlen r) (Nat.le_refl _)
  rw [h] at h1
  have h2 : r * 2 + c < 2 ^ (32 * nlen r) := (Nat.div_eq_zero_iff_lt (pow32_pos _)).1 h1.symm
  have h3 := (nlen_le_iff _ _).2 h2
  have h4 := nlen_mono (show r ≤ r * 2 + c by omega)
  omega
theorem two_or (r c j : Nat) (hc : c < 2) : bits BinOp.or IntKind.u32 ((D r j : Int) * 2 % 4294967296) (cySmall r 2 c j : Int) = (D (r * 2 + c) j : Int) := by
  have h := cySmall_lt3 r 2 c j hc
  have e : (D r j : Int) * 2 % 4294967296 = ((D r j * 2 % 4294967296 : Nat) : Int) := by simp
  rw [e, u32_or_nat _ _ (by omega) (by omega), tSmall_two r c j hc]
theorem two_top (r c j : Nat) (hc : c < 2) : (D r j : Int) / 2147483648 = (cySmall r 2 c (j + 1) : Int) := by
  rw [← tSmall_top r c j hc]; omega
theorem ovQ_bit (m n i : Nat) : bits BinOp.or IntKind.u32 ((D (ovQ m n (i + 1)) (i / 32) : Nat) : Int) ((2 : Int) ^ (i % 32) % 4294967296) = ((D (ovQ m n (i + 1) + 2 ^ i) (i / 32) : Nat) : Int) := by
  have hp : 2 ^ (i % 32) < 4294967296 := Nat.lt_of_le_of_lt (Nat.pow_le_pow_right (by decide) (show i % 32 ≤ 31 by omega)) (by decide)
  have e : (2 : Int) ^ (i % 32) % 4294967296 = ((2 ^ (i % 32) : Nat) : Int) := by
    rw [← Nat.mod_eq_of_lt hp]; simp
  rw [e, u32_or_nat _ _ (D_lt _ _) hp, set_bit_D _ i (ovQ_mod m n (i + 1))]
end Go.Proofs.YtkhgoeippamobaaGreatDoor
