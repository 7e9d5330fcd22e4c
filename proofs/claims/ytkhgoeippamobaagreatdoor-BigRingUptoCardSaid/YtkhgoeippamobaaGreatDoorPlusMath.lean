/-
  Sums and differences of digits, in the order in which they come (no program in sight).
-/
import Derived.Test.YtkhgoeippamobaaGreatDoorNat
namespace Go.Proofs.YtkhgoeippamobaaGreatDoor
/-- the sum of the pairs that have come -/
def sumP : List (Nat × Nat) → Nat
  | [] => 0
  | x :: l => (x.1 % 4294967296 + x.2 % 4294967296) + 4294967296 * sumP l
theorem sumP_snoc (l : List (Nat × Nat)) (x : Nat × Nat) : sumP (l ++ [x]) = sumP l + 2 ^ (32 * l.length) * (x.1 % 4294967296 + x.2 % 4294967296) := by
  induction l with
  | nil => simp [sumP]
  | cons y l ih =>
    show _ + 4294967296 * sumP (l ++ [x]) = _ + 4294967296 * sumP l + _
    rw [ih, List.length_cons, pow32_succ, Nat.mul_add, Nat.mul_comm (2 ^ (32 * l.length)) 4294967296, Nat.mul_assoc]
    omega
theorem sumP_lt (l : List (Nat × Nat)) : sumP l + 2 ≤ 2 * 2 ^ (32 * l.length) := by
  induction l with
  | nil => simp [sumP]
  | cons y l ih =>
    show _ + 4294967296 * sumP l + 2 ≤ _
    rw [List.length_cons, pow32_succ]
    have h1 : y.1 % 4294967296 < 4294967296 := Nat.mod_lt _ (by decide)
    have h2 : y.2 % 4294967296 < 4294967296 := Nat.mod_lt _ (by decide)
    omega
/-- the carry behind the pairs -/
def carP (l : List (Nat × Nat)) : Nat := sumP l / 2 ^ (32 * l.length)
theorem carP_le (l : List (Nat × Nat)) : carP l ≤ 1 := by
  have := sumP_lt l
  unfold carP
  have : sumP l / 2 ^ (32 * l.length) < 2 := by
    rw [Nat.div_lt_iff_lt_mul (pow32_pos _)]; omega
  omega
def tP (l : List (Nat × Nat)) (x : Nat × Nat) : Nat := carP l + (x.1 % 4294967296 + x.2 % 4294967296)
theorem tP_eq (l : List (Nat × Nat)) (x : Nat × Nat) : tP l x = sumP (l ++ [x]) / 2 ^ (32 * l.length) := by
  rw [sumP_snoc, Nat.add_mul_div_left _ _ (pow32_pos _)]
  rfl
theorem tP_div (l : List (Nat × Nat)) (x : Nat × Nat) : tP l x / 4294967296 = carP (l ++ [x]) := by
  rw [tP_eq]
  unfold carP
  rw [List.length_append, List.length_singleton, pow32_succ, Nat.div_div_eq_div_mul]
theorem tP_mod (l : List (Nat × Nat)) (x : Nat × Nat) : tP l x % 4294967296 = D (sumP (l ++ [x])) l.length := by
  rw [tP_eq]
  rfl
theorem tP_low (l : List (Nat × Nat)) (x : Nat × Nat) (i : Nat) (h : i < l.length) : D (sumP l) i = D (sumP (l ++ [x])) i := by
  apply D_congr
  rw [sumP_snoc]
  have e : 2 ^ (32 * l.length) = 2 ^ (32 * (i + 1)) * 2 ^ (32 * (l.length - (i + 1))) := by rw [← Nat.pow_add]; congr 1; omega
  rw [e, Nat.mul_assoc, Nat.add_mul_mod_self_left]
theorem sumP_pairs (m n k : Nat) : sumP ((List.range k).map fun i => (D m i, D n i)) = m % 2 ^ (32 * k) + n % 2 ^ (32 * k) := by
  induction k with
  | zero => simp [sumP, Nat.mod_one]
  | succ k ih =>
    rw [List.range_succ, List.map_append, List.map_cons, List.map_nil, sumP_snoc, ih, List.length_map, List.length_range, mod_split m k, mod_split n k]
    have h1 := D_lt m k
    have h2 := D_lt n k
    rw [Nat.mod_eq_of_lt h1, Nat.mod_eq_of_lt h2, Nat.mul_add]
    omega
theorem sum_lt (m n : Nat) : m + n < 2 ^ (32 * (max (nlen m) (nlen n) + 1)) := by
  have h1 := (nlen_le_iff m (max (nlen m) (nlen n))).1 (by omega)
  have h2 := (nlen_le_iff n (max (nlen m) (nlen n))).1 (by omega)
  rw [pow32_succ]
  omega
theorem sumP_all (m n : Nat) : sumP ((List.range (max (nlen m) (nlen n) + 1)).map fun i => (D m i, D n i)) = m + n := by
  rw [sumP_pairs, Nat.mod_eq_of_lt ((nlen_le_iff m _).1 (by omega)), Nat.mod_eq_of_lt ((nlen_le_iff n _).1 (by omega))]
/-- the difference of the pairs that have come -/
def difP : List (Nat × Nat) → Int
  | [] => 0
  | x :: l => ((x.1 % 4294967296 : Nat) : Int) - ((x.2 % 4294967296 : Nat) : Int) + 4294967296 * difP l
theorem difP_snoc (l : List (Nat × Nat)) (x : Nat × Nat) : difP (l ++ [x]) = difP l + ((2 ^ (32 * l.length) : Nat) : Int) * (((x.1 % 4294967296 : Nat) : Int) - ((x.2 % 4294967296 : Nat) : Int)) := by
  induction l with
  | nil => simp [difP]
  | cons y l ih =>
    show _ + 4294967296 * difP (l ++ [x]) = _ + 4294967296 * difP l + _
    rw [ih, List.length_cons, pow32_succ, Int.mul_add, Nat.mul_comm (2 ^ (32 * l.length)) 4294967296, Int.natCast_mul, Int.mul_assoc]
    omega
theorem difP_bound (l : List (Nat × Nat)) : difP l < ((2 ^ (32 * l.length) : Nat) : Int) ∧ -((2 ^ (32 * l.length) : Nat) : Int) < difP l := by
  induction l with
  | nil => simp [difP]
  | cons y l ih =>
    have h1 : y.1 % 4294967296 < 4294967296 := Nat.mod_lt _ (by decide)
    have h2 : y.2 % 4294967296 < 4294967296 := Nat.mod_lt _ (by decide)
    show (_ - _ + 4294967296 * difP l < _) ∧ (_ < _ - _ + 4294967296 * difP l)
    rw [List.length_cons, pow32_succ]
    omega
/-- what is borrowed -/
def borP (l : List (Nat × Nat)) : Nat := if difP l < 0 then 1 else 0
/-- the digits so far, as a number -/
def lowP (l : List (Nat × Nat)) : Nat := (difP l + ((2 ^ (32 * l.length) : Nat) : Int) * (borP l : Int)).toNat
theorem borP_le (l : List (Nat × Nat)) : borP l ≤ 1 := by unfold borP; split <;> omega
theorem lowP_eq (l : List (Nat × Nat)) : (lowP l : Int) = difP l + ((2 ^ (32 * l.length) : Nat) : Int) * (borP l : Int) := by
  have h := difP_bound l
  unfold lowP borP
  split <;> omega
theorem lowP_lt (l : List (Nat × Nat)) : lowP l < 2 ^ (32 * l.length) := by
  have h := difP_bound l
  have h1 := lowP_eq l
  unfold borP at h1
  split at h1 <;> omega
/-- the difference of a round, as 64 bits -/
def dP (l : List (Nat × Nat)) (x : Nat × Nat) : Nat := ((((x.1 % 4294967296 : Nat) : Int) - ((x.2 % 4294967296 : Nat) : Int) - (borP l : Int)) % 18446744073709551616).toNat
theorem dP_wrap (l : List (Nat × Nat)) (x : Nat × Nat) : IntKind.u64.wrap (IntKind.u64.wrap (((x.1 % 4294967296 : Nat) : Int) - ((x.2 % 4294967296 : Nat) : Int)) - (borP l : Int)) = (dP l x : Int) := by
  simp only [IntKind.wrap_u64]
  unfold dP
  omega
theorem dP_bor (l : List (Nat × Nat)) (x : Nat × Nat) : (dP l x : Int) / 9223372036854775808 = (borP (l ++ [x]) : Int) ∧
    difP (l ++ [x]) = (lowP l : Int) + ((2 ^ (32 * l.length) : Nat) : Int) * (((x.1 % 4294967296 : Nat) : Int) - ((x.2 % 4294967296 : Nat) : Int) - (borP l : Int)) := by
  have h1 : x.1 % 4294967296 < 4294967296 := Nat.mod_lt _ (by decide)
  have h2 : x.2 % 4294967296 < 4294967296 := Nat.mod_lt _ (by decide)
  have h3 := difP_snoc l x
  have h4 := lowP_eq l
  have h5 := lowP_lt l
  have h6 := borP_le l
  have h7 := pow32_pos l.length
  have hd : (dP l x : Int) = (((x.1 % 4294967296 : Nat) : Int) - ((x.2 % 4294967296 : Nat) : Int) - (borP l : Int)) % 18446744073709551616 := by unfold dP; omega
  generalize x.1 % 4294967296 = p at *
  generalize x.2 % 4294967296 = q at *
  generalize 2 ^ (32 * l.length) = P at *
  generalize borP l = b at *
  have e : difP (l ++ [x]) = (lowP l : Int) + (P : Int) * ((p : Int) - (q : Int) - (b : Int)) := by
    rw [h3, h4, Int.mul_sub (P : Int) ((p : Int) - q) b]
    omega
  refine ⟨?_, e⟩
  unfold borP
  by_cases hn : (p : Int) - q - b < 0
  · have h8 : (P : Int) * ((p : Int) - q - b) ≤ (P : Int) * (-1) := Int.mul_le_mul_of_nonneg_left (by omega) (by omega)
    rw [if_pos (by omega)]
    omega
  · have h8 : 0 ≤ (P : Int) * ((p : Int) - q - b) := Int.mul_nonneg (by omega) (by omega)
    rw [if_neg (by omega)]
    omega
theorem lowP_snoc (l : List (Nat × Nat)) (x : Nat × Nat) : lowP (l ++ [x]) = lowP l + 2 ^ (32 * l.length) * (dP l x % 4294967296) := by
  have h := dP_bor l x
  have h0 := lowP_eq (l ++ [x])
  have h1 : x.1 % 4294967296 < 4294967296 := Nat.mod_lt _ (by decide)
  have h2 : x.2 % 4294967296 < 4294967296 := Nat.mod_lt _ (by decide)
  have h6 := borP_le l
  have hd : (dP l x : Int) = (((x.1 % 4294967296 : Nat) : Int) - ((x.2 % 4294967296 : Nat) : Int) - (borP l : Int)) % 18446744073709551616 := by unfold dP; omega
  rw [List.length_append, List.length_singleton, pow32_succ, h.2, ← h.1] at h0
  generalize x.1 % 4294967296 = p at *
  generalize x.2 % 4294967296 = q at *
  generalize borP l = b at *
  have e : ((dP l x % 4294967296 : Nat) : Int) = (p : Int) - q - b + 4294967296 * ((dP l x : Int) / 9223372036854775808) := by omega
  have h9 : (lowP (l ++ [x]) : Int) = (lowP l : Int) + ((2 ^ (32 * l.length) : Nat) : Int) * ((dP l x % 4294967296 : Nat) : Int) := by
    have e2 : ((2 ^ (32 * l.length) * 4294967296 : Nat) : Int) = ((2 ^ (32 * l.length) : Nat) : Int) * 4294967296 := by rw [Int.natCast_mul]; rfl
    rw [h0, e, e2, Int.mul_add, Int.mul_assoc]
    omega
  rw [← Int.natCast_mul, ← Int.natCast_add] at h9
  exact Int.ofNat_inj.1 h9
theorem dP_mod (l : List (Nat × Nat)) (x : Nat × Nat) : dP l x % 4294967296 = D (lowP (l ++ [x])) l.length := by
  unfold D
  rw [lowP_snoc, Nat.add_mul_div_left _ _ (pow32_pos _), Nat.div_eq_of_lt (lowP_lt l), Nat.zero_add, Nat.mod_mod]
theorem lowP_low (l : List (Nat × Nat)) (x : Nat × Nat) (i : Nat) (h : i < l.length) : D (lowP l) i = D (lowP (l ++ [x])) i := by
  apply D_congr
  rw [lowP_snoc]
  have e : 2 ^ (32 * l.length) = 2 ^ (32 * (i + 1)) * 2 ^ (32 * (l.length - (i + 1))) := by rw [← Nat.pow_add]; congr 1; omega
  rw [e, Nat.mul_assoc, Nat.add_mul_mod_self_left]
theorem difP_pairs (m n k : Nat) : difP ((List.range k).map fun i => (D m i, D n i)) = ((m % 2 ^ (32 * k) : Nat) : Int) - ((n % 2 ^ (32 * k) : Nat) : Int) := by
  induction k with
  | zero => simp [difP, Nat.mod_one]
  | succ k ih =>
    rw [List.range_succ, List.map_append, List.map_cons, List.map_nil, difP_snoc, ih, List.length_map, List.length_range, mod_split m k, mod_split n k]
    have h1 := D_lt m k
    have h2 := D_lt n k
    show _ + _ * (((D m k % 4294967296 : Nat) : Int) - ((D n k % 4294967296 : Nat) : Int)) = _
    rw [Nat.mod_eq_of_lt h1, Nat.mod_eq_of_lt h2, Int.mul_sub, Int.natCast_add, Int.natCast_add, Int.natCast_mul, Int.natCast_mul]
    omega
theorem lowP_all (m n : Nat) (h : n ≤ m) : lowP ((List.range (max (nlen m) (nlen n) + 1)).map fun i => (D m i, D n i)) = m - n := by
  have h1 := difP_pairs m n (max (nlen m) (nlen n) + 1)
  rw [Nat.mod_eq_of_lt ((nlen_le_iff m _).1 (by omega)), Nat.mod_eq_of_lt ((nlen_le_iff n _).1 (by omega))] at h1
  unfold lowP borP
  rw [h1, if_neg (by omega)]
  omega
end Go.Proofs.YtkhgoeippamobaaGreatDoor
