/-
  Part K1 of the proofs of this seat: contracts of functions and plain facts, merged from 22 texts.
-/
import Derived.WalkKit
import Derived.Test.YtkhgoeippamobaaGreatDoorProg
import Derived.WalkSpells
import Derived.WalkLawsBesides
import Derived.Lib.MinMax
import Derived.BigRegion
import Derived.Lib.BufferRead
import Derived.RangeFuncNested
import Derived.RangeFuncBound
import Derived.RangeFuncCalls
import Derived.RangeFuncLeaves
import Derived.Shelf.Abstract
import Derived.Shelf.RegionOpen
import Derived.OwnWalkIn
import Derived.TacticsInMore
import Derived.LoopNIn
import Derived.LoopIn
import Derived.RangeFuncBox
import Derived.Deep.RegionHeld3
import Derived.OrdersHeld
/-
  Plain arithmetic: digits to the base 2^32 (no program in sight).
-/
namespace Go.Proofs.YtkhgoeippamobaaGreatDoor
open Go.RowKit
/-- the digit number i to the base 2^32 -/
def D (n i : Nat) : Nat := n / 2 ^ (32 * i) % 4294967296
/-- how many digits to the base 2^32 -/
def nlen (n : Nat) : Nat := if n = 0 then 0 else Nat.log2 n / 32 + 1
theorem D_lt (n i : Nat) : D n i < 4294967296 := Nat.mod_lt _ (by decide)
theorem nlen_zero : nlen 0 = 0 := rfl
theorem pow32_pos (k : Nat) : 0 < 2 ^ (32 * k) := Nat.pow_pos (by decide)
theorem lt_nlen (n : Nat) : n < 2 ^ (32 * nlen n) := by
  unfold nlen
  by_cases h : n = 0
  · simp [h]
  · rw [if_neg h]
    exact (Nat.log2_lt h).1 (by omega)
theorem nlen_le_iff (n k : Nat) : nlen n ≤ k ↔ n < 2 ^ (32 * k) := by
  constructor
  · intro h
    exact Nat.lt_of_lt_of_le (lt_nlen n) (Nat.pow_le_pow_right (by decide) (by omega))
  · intro h
    unfold nlen
    by_cases h0 : n = 0
    · simp [h0]
    · rw [if_neg h0]
      have := (Nat.log2_lt h0).2 h
      omega
theorem lt_nlen_iff (n k : Nat) : k < nlen n ↔ 2 ^ (32 * k) ≤ n := by
  have := nlen_le_iff n k
  omega
theorem nlen_eq_zero (n : Nat) : nlen n = 0 ↔ n = 0 := by
  have := nlen_le_iff n 0
  simp at this; omega
theorem nlen_mono {m n : Nat} (h : m ≤ n) : nlen m ≤ nlen n := (nlen_le_iff m _).2 (Nat.lt_of_le_of_lt h (lt_nlen n))
theorem D_out (n i : Nat) (h : nlen n ≤ i) : D n i = 0 := by
  have := (nlen_le_iff n i).1 h
  unfold D
  rw [Nat.div_eq_of_lt this]
theorem D_zero (i : Nat) : D 0 i = 0 := by simp [D]
theorem pow32_succ (k : Nat) : 2 ^ (32 * (k + 1)) = 2 ^ (32 * k) * 4294967296 := by
  rw [Nat.mul_add, Nat.pow_add]
theorem div_split (n i : Nat) : n / 2 ^ (32 * i) = D n i + 4294967296 * (n / 2 ^ (32 * (i + 1))) := by
  unfold D
  rw [pow32_succ, ← Nat.div_div_eq_div_mul]
  have := Nat.mod_add_div (n / 2 ^ (32 * i)) 4294967296
  omega
theorem mod_split (n i : Nat) : n % 2 ^ (32 * (i + 1)) = n % 2 ^ (32 * i) + 2 ^ (32 * i) * D n i := by
  unfold D
  rw [pow32_succ, Nat.mod_mul]
/-- the highest digit is not zero -/
theorem D_top (n : Nat) (h : 0 < nlen n) : D n (nlen n - 1) ≠ 0 := by
  have h1 := (lt_nlen_iff n (nlen n - 1)).1 (by omega)
  have h2 := lt_nlen n
  have h3 := div_split n (nlen n - 1)
  have h4 : n / 2 ^ (32 * (nlen n - 1 + 1)) = 0 := Nat.div_eq_of_lt (by rwa [Nat.sub_add_cancel h])
  rw [h4] at h3
  have h5 : 1 ≤ n / 2 ^ (32 * (nlen n - 1)) := (Nat.le_div_iff_mul_le (pow32_pos _)).2 (by omega)
  omega
/-- cutting zeros off -/
theorem nlen_of_cut (n k : Nat) (h : n < 2 ^ (32 * k)) (ht : k = 0 ∨ D n (k - 1) ≠ 0) : nlen n = k := by
  have h1 := (nlen_le_iff n k).2 h
  rcases ht with ht | ht
  · omega
  · have : ¬ nlen n ≤ k - 1 := fun hle => ht (D_out n _ hle)
    omega
theorem lt_cut (n k : Nat) (h : n < 2 ^ (32 * (k + 1))) (ht : D n k = 0) : n < 2 ^ (32 * k) := by
  have h3 := div_split n k
  rw [Nat.div_eq_of_lt h, ht] at h3
  exact (Nat.div_eq_zero_iff_lt (pow32_pos k)).1 (by omega)
theorem testBit_D (n i : Nat) : n.testBit i = (D n (i / 32)).testBit (i % 32) := by
  unfold D
  rw [show (4294967296 : Nat) = 2 ^ 32 from rfl, Nat.testBit_mod_two_pow, Nat.testBit_div_two_pow]
  have : i % 32 < 32 := Nat.mod_lt _ (by decide)
  simp [this]
  congr 1
  omega
/-- -1, 0 or 1 -/
def cmpN (m n : Nat) : Int := if m < n then -1 else if n < m then 1 else 0
theorem cmp_step_lt (m n i : Nat) (h : m / 2 ^ (32 * (i + 1)) = n / 2 ^ (32 * (i + 1))) (hd : D m i < D n i) : m < n := by
  have h1 := div_split m i
  have h2 := div_split n i
  have h3 : m / 2 ^ (32 * i) < n / 2 ^ (32 * i) := by omega
  exact Nat.lt_of_not_le fun hle => by
    have := Nat.div_le_div_right (c := 2 ^ (32 * i)) hle
    omega
theorem cmp_step_eq (m n i : Nat) (h : m / 2 ^ (32 * (i + 1)) = n / 2 ^ (32 * (i + 1))) (hd : D m i = D n i) : m / 2 ^ (32 * i) = n / 2 ^ (32 * i) := by
  rw [div_split m i, div_split n i, h, hd]
theorem div_top (m k : Nat) (h : nlen m ≤ k) : m / 2 ^ (32 * k) = 0 := Nat.div_eq_of_lt ((nlen_le_iff m k).1 h)
/-- how many bits -/
def nbits (n : Nat) : Nat := if n = 0 then 0 else Nat.log2 n + 1
theorem nbits_le_iff (n k : Nat) : nbits n ≤ k ↔ n < 2 ^ k := by
  unfold nbits
  by_cases h0 : n = 0
  · have := Nat.pow_pos (n := k) (show 0 < 2 by decide)
    simp [h0]; exact this
  · rw [if_neg h0]
    have := Nat.log2_lt (k := k) h0
    omega
theorem nbits_of (n k : Nat) (h : n < 2 ^ k) (ht : k = 0 ∨ n.testBit (k - 1) = true) : nbits n = k := by
  have h1 := (nbits_le_iff n k).2 h
  rcases ht with ht | ht
  · omega
  · have : ¬ nbits n ≤ k - 1 := fun hle => by
      have h2 := (nbits_le_iff n _).1 hle
      rw [Nat.testBit_lt_two_pow h2] at ht
      cases ht
    omega
theorem lt_of_bit (n k : Nat) (h : n < 2 ^ (k + 1)) (ht : n.testBit k = false) : n < 2 ^ k := by
  rw [Nat.testBit_eq_decide_div_mod_eq] at ht
  have h1 : n / 2 ^ k < 2 := by
    rw [Nat.div_lt_iff_lt_mul (Nat.pow_pos (by decide))]
    rw [Nat.pow_succ] at h; omega
  have h3 : n / 2 ^ k % 2 ≠ 1 := of_decide_eq_false ht
  have h2 : n / 2 ^ k = 0 := by generalize n / 2 ^ k = q at *; omega
  exact (Nat.div_eq_zero_iff_lt (Nat.pow_pos (by decide))).1 h2
theorem nbits_le_nlen (n : Nat) : nbits n ≤ 32 * nlen n := (nbits_le_iff n _).2 (lt_nlen n)
/-- the carry behind j digits of n times k and c more -/
def cySmall (n k c j : Nat) : Nat := (n % 2 ^ (32 * j) * k + c) / 2 ^ (32 * j)
theorem cySmall_zero (n k c : Nat) : cySmall n k c 0 = c := by simp [cySmall, Nat.mod_one]
theorem cySmall_lt (n k c j : Nat) (hk : k < 4294967296) (hc : c < 4294967296) : cySmall n k c j < 4294967296 := by
  unfold cySmall
  rw [Nat.div_lt_iff_lt_mul (pow32_pos j)]
  have h1 : n % 2 ^ (32 * j) + 1 ≤ 2 ^ (32 * j) := Nat.mod_lt _ (pow32_pos j)
  have h2 : (n % 2 ^ (32 * j)) * k ≤ (n % 2 ^ (32 * j)) * 4294967295 := Nat.mul_le_mul_left _ (by omega)
  omega
theorem cySmall_split (n k c j : Nat) : cySmall n k c j + D n j * k = (n % 2 ^ (32 * (j + 1)) * k + c) / 2 ^ (32 * j) := by
  unfold cySmall
  rw [mod_split n j, Nat.add_mul, Nat.add_right_comm, Nat.mul_assoc, Nat.add_mul_div_left _ _ (pow32_pos j)]
theorem cySmall_succ (n k c j : Nat) : (cySmall n k c j + D n j * k) / 4294967296 = cySmall n k c (j + 1) := by
  rw [cySmall_split, Nat.div_div_eq_div_mul]
  unfold cySmall
  rw [pow32_succ]
/-- two numbers that agree below have the same digit -/
theorem D_congr (m n j : Nat) (h : m % 2 ^ (32 * (j + 1)) = n % 2 ^ (32 * (j + 1))) : D m j = D n j := by
  have e (x : Nat) : D x j = x % 2 ^ (32 * (j + 1)) / 2 ^ (32 * j) := by
    unfold D
    rw [pow32_succ, Nat.mod_mul_right_div_self]
  rw [e, e, h]
theorem D_eq (x j : Nat) (h : x < 2 ^ (32 * (j + 1))) : D x j = x / 2 ^ (32 * j) := by
  unfold D
  rw [Nat.mod_eq_of_lt]
  rw [Nat.div_lt_iff_lt_mul (pow32_pos j)]
  rw [pow32_succ] at h
  omega
theorem cySmall_digit (n k c j : Nat) : (cySmall n k c j + D n j * k) % 4294967296 = D (n * k + c) j := by
  rw [cySmall_split]
  show D (n % 2 ^ (32 * (j + 1)) * k + c) j = D (n * k + c) j
  apply D_congr
  rw [Nat.add_mod, Nat.mod_mul_mod, ← Nat.add_mod]
theorem mul_lt_u64 (x k : Nat) (hx : x < 4294967296) (hk : k < 4294967296) : x * k ≤ 18446744065119617025 := by
  calc x * k ≤ 4294967295 * k := Nat.mul_le_mul_right _ (by omega)
    _ ≤ 4294967295 * 4294967295 := Nat.mul_le_mul_left _ (by omega)
theorem cySmall_top (n k c j : Nat) (h : nlen n ≤ j) : cySmall n k c j = (n * k + c) / 2 ^ (32 * j) := by
  unfold cySmall
  rw [Nat.mod_eq_of_lt ((nlen_le_iff n j).1 h)]
theorem small_lt (n k c : Nat) (hk : k < 4294967296) (hc : c < 4294967296) : n * k + c < 2 ^ (32 * (nlen n + 1)) := by
  rw [pow32_succ]
  have h1 := lt_nlen n
  have h2 : n * k ≤ n * 4294967295 := Nat.mul_le_mul_left _ (by omega)
  omega
/-- the sum of a round of 'small' -/
def tSmall (n k c j : Nat) : Nat := cySmall n k c j + D n j * k
theorem wrap_u64_nat (x : Nat) (h : x < 18446744073709551616) : IntKind.u64.wrap (x : Int) = x := by
  simp [IntKind.wrap, IntKind.bits, IntKind.signed]
  omega
theorem tSmall_mul (n k j : Nat) (hk : k < 4294967296) : IntKind.u64.wrap ((D n j : Int) * (k : Int)) = (D n j : Int) * (k : Int) := by
  have := mul_lt_u64 _ _ (D_lt n j) hk
  rw [← Int.natCast_mul]
  exact wrap_u64_nat _ (by omega)
theorem tSmall_wrap (n k c j : Nat) (hk : k < 4294967296) (hc : c < 4294967296) : IntKind.u64.wrap ((cySmall n k c j : Int) + (D n j : Int) * (k : Int)) = (tSmall n k c j : Int) := by
  have h1 := mul_lt_u64 _ _ (D_lt n j) hk
  have h2 := cySmall_lt n k c j hk hc
  rw [← Int.natCast_mul, ← Int.natCast_add]
  exact wrap_u64_nat _ (by omega)
theorem tSmall_mod (n k c j : Nat) : (tSmall n k c j : Int) % 4294967296 = (D (n * k + c) j : Int) := by
  rw [← cySmall_digit]
  unfold tSmall
  omega
theorem tSmall_div (n k c j : Nat) : (tSmall n k c j : Int) / 4294967296 = (cySmall n k c (j + 1) : Int) := by
  rw [← cySmall_succ]
  unfold tSmall
  omega
theorem cySmall_last (n k c : Nat) (hk : k < 4294967296) (hc : c < 4294967296) : (cySmall n k c (nlen n) : Int) = (D (n * k + c) (nlen n) : Int) := by
  rw [D_eq _ _ (small_lt n k c hk hc), ← cySmall_top n k c (nlen n) (Nat.le_refl _)]
theorem wrap_u32_nat (x : Nat) : IntKind.u32.wrap (x : Int) = ((x % 4294967296 : Nat) : Int) := by
  simp [IntKind.wrap, IntKind.bits, IntKind.signed]
end Go.Proofs.YtkhgoeippamobaaGreatDoor
/-
  Representation of natural numbers in memory: a slice of digits. The leaves of package big's nat.
-/
namespace Go.Proofs.YtkhgoeippamobaaGreatDoor
open Go.RowKit
theorem hid {p : Prop} (h : p) : Hid p := h
/-- a slice of n integers, the i-th one being f i -/
def Row (ik : IntKind) (w : World) (v : Value) (n : Nat) (f : Nat → Nat) : Prop :=
  ∃ (a : Option Addr) (cap : Nat), v = .slice a n cap ∧ n ≤ cap ∧ (0 < n → ∃ b off, a = some ⟨b, off, none⟩ ∧ b < w.heap.size ∧ ∀ i, i < n → w.cell? ⟨b, off + i, none⟩ = some (.int ik ((f i : Nat) : Int)))
theorem Row.below {ik : IntKind} {w w' : World} {v : Value} {n : Nat} {f : Nat → Nat} (h : Row ik w v n f) (hb : Below w.heap.size w w') : Row ik w' v n f := by
  obtain ⟨a, cap, rfl, hc, h⟩ := h
  refine ⟨a, cap, rfl, hc, fun h0 => ?_⟩
  obtain ⟨b, off, rfl, hlt, hcell⟩ := h h0
  exact ⟨b, off, rfl, Nat.lt_of_lt_of_le hlt hb.size, fun i hi => (hb.cell (p := ⟨b, off + i, none⟩) hlt).trans (hcell i hi)⟩
/-- the natural number n as package big's nat -/
def NatRep (w : World) (v : Value) (n : Nat) : Prop := Row .u32 w v (nlen n) (D n)
theorem NatRep.below {w w' : World} {v : Value} {n : Nat} (h : NatRep w v n) (hb : Below w.heap.size w w') : NatRep w' v n := Row.below h hb
set_option maxHeartbeats 400000 in
theorem at_in (b off len cap : Nat) (i : Nat) (x : Int) (w : World) (hi : i < len) (_hl : len ≤ 1000000000000)
    (hc : w.cell? ⟨b, off + i, none⟩ = some (.int .u32 x)) :
    Calls Tryz.prog 118 #[.slice (some ⟨b, off, none⟩) len cap, .int .i64 i] w fun e w' => e = .returned (.int .u32 x) ∧ w = w' := by
  go_enter Tryz.func118, Tryz.ntmps118
  go_wp2
  go_ret
  exact ⟨rfl, rfl⟩
theorem at_out (a : Option Addr) (len cap : Nat) (i : Nat) (w : World) (hi : len ≤ i) (_hl : i ≤ 1000000000000) :
    Calls Tryz.prog 118 #[.slice a len cap, .int .i64 i] w fun e w' => e = .returned (.int .u32 0) ∧ w = w' := by
  go_enter Tryz.func118, Tryz.ntmps118
  go_wp2
  go_ret
  exact ⟨rfl, rfl⟩
theorem at_nat {v : Value} {n : Nat} {w : World} (h : NatRep w v n) (hl : nlen n ≤ 1000000000) (i : Int) (h0 : 0 ≤ i) (hi : i ≤ 1000000000) :
    Calls Tryz.prog 118 #[v, .int .i64 i] w fun e w' => e = .returned (.int .u32 (D n i.toNat)) ∧ w = w' := by
  obtain ⟨j, rfl⟩ := Int.eq_ofNat_of_zero_le h0
  obtain ⟨a, cap, rfl, hc, h⟩ := h
  by_cases hlt : j < nlen n
  · obtain ⟨b, off, rfl, _, hcell⟩ := h (by omega)
    exact at_in b off _ cap j _ w hlt (by omega) (hcell j hlt)
  · have := at_out a (nlen n) cap j w (by omega) (by omega)
    rw [Int.toNat_natCast, D_out n j (by omega)]
    exact this
theorem bit_calc (x k : Nat) (hx : x < 4294967296) : (bits BinOp.and IntKind.u32 ((x : Int) / 2 ^ k) 1 == 1) = x.testBit k := by
  have h1 : ((x : Int) / 2 ^ k) = ((x / 2 ^ k : Nat) : Int) := by simp
  have h2 : x / 2 ^ k < 4294967296 := Nat.lt_of_le_of_lt (Nat.div_le_self _ _) hx
  rw [h1]
  have := u32_and_nat (x / 2 ^ k) 1 h2 (by decide)
  rw [show ((1 : Nat) : Int) = 1 from rfl] at this
  rw [this, Nat.testBit_eq_decide_div_mod_eq, Nat.and_one_is_mod]
  rw [Bool.eq_iff_iff]
  simp
  omega
set_option maxHeartbeats 400000 in
theorem bit_nat {v : Value} {n : Nat} {w : World} (h : NatRep w v n) (hl : nlen n ≤ 1000000000) (i : Int) (h0 : 0 ≤ i) (hi : i ≤ 32000000000) :
    Calls Tryz.prog 83 #[v, .int .i64 i] w fun e w' => e = .returned (.bool (n.testBit i.toNat)) ∧ w = w' := by
  go_enter Tryz.func83, Tryz.ntmps83
  go_wp2_with fail
  refine (at_nat h hl _ (by omega) (by omega)).mono ?_
  rintro e w' ⟨rfl, rfl⟩
  go_wp2
  go_ret
  refine ⟨?_, rfl⟩
  show Ending.returned (.bool _) = _
  rw [bit_calc _ _ (D_lt _ _), testBit_D n i.toNat, show (i / 32).toNat = i.toNat / 32 by omega, show (i % 32).toNat = i.toNat % 32 by omega]
set_option maxHeartbeats 400000 in
/-- cutting zeros off the end gives the canonical digits -/
theorem trimmed_row {a : Option Addr} {cap n k : Nat} {w : World} (h : Row .u32 w (.slice a k cap) k (D n)) (hk : k ≤ 1000000000) (hn : n < 2 ^ (32 * k)) :
    Calls Tryz.prog 119 #[.slice a k cap] w fun e w' => e = .returned (.slice a (nlen n) cap) ∧ w = w' := by
  obtain ⟨a', cap', hv, hcap, hcell⟩ := h
  simp only [Value.slice.injEq, true_and] at hv
  obtain ⟨rfl, rfl⟩ := hv
  have hl := (nlen_le_iff n k).2 hn
  go_enter Tryz.func119, Tryz.ntmps119
  go_wp2
  go_loop [3] (fun i => ∃ j : Nat, i = .int .i64 j ∧ nlen n ≤ j ∧ j ≤ k) (fun i => (intOf i).toNat)
  case atStart => exact ⟨k, rfl, hl, Nat.le_refl _⟩
  case round =>
    obtain ⟨j, rfl, h1, h2⟩ := hrel
    by_cases hj : j = 0
    · subst hj
      go_wp2
      go_ret
      have hz : nlen n = 0 := by omega
      exact ⟨by rw [hz]; rfl, rfl⟩
    · obtain ⟨b, off, rfl, hlt, hc⟩ := hcell (by omega)
      have hcj := hc (j - 1) (by omega)
      by_cases hd : D n (j - 1) = 0
      · go_wp2
        go_round
        case rel =>
          refine ⟨j - 1, by go_num, ?_, by omega⟩
          exact (nlen_le_iff _ _).2 (lt_cut n (j - 1) (by rw [Nat.sub_add_cancel (by omega)]; exact (nlen_le_iff _ _).1 h1) hd)
        case measure => simp [intOf] <;> omega
      · go_wp2
        go_ret
        have hz : nlen n = j := nlen_of_cut n j ((nlen_le_iff _ _).1 h1) (.inr hd)
        exact ⟨by rw [hz]; rfl, rfl⟩
theorem NatRep.shape {w : World} {v : Value} {n : Nat} (h : NatRep w v n) : ∃ a cap, v = .slice a (nlen n) cap := by
  obtain ⟨a, cap, rfl, _⟩ := h
  exact ⟨a, cap, rfl⟩
set_option maxHeartbeats 1000000 in
theorem compare_nat {v u : Value} {m n : Nat} {w : World} (hv : NatRep w v m) (hu : NatRep w u n) (hl : nlen m ≤ 1000000000) (hl' : nlen n ≤ 1000000000) :
    Calls Tryz.prog 69 #[v, u] w fun e w' => e = .returned (.int .i64 (cmpN m n)) ∧ w = w' := by
  obtain ⟨a, cap, rfl⟩ := hv.shape
  obtain ⟨a', cap', rfl⟩ := hu.shape
  go_enter Tryz.func69, Tryz.ntmps69
  go_wp2
  go_loop [5] (fun i => ∃ j : Nat, i = .int .i64 ((j : Int) - 1) ∧ j ≤ max (nlen m) (nlen n) ∧ m / 2 ^ (32 * j) = n / 2 ^ (32 * j)) (fun i => (intOf i + 1).toNat)
  case atStart => exact ⟨max (nlen m) (nlen n), by rw [show ((max (nlen m) (nlen n) : Nat) : Int) = max (nlen m : Int) (nlen n : Int) by omega], Nat.le_refl _, by rw [div_top m _ (by omega), div_top n _ (by omega)]⟩
  case round =>
    obtain ⟨j, rfl, h1, h2⟩ := hrel
    have H2 := hid h2
    clear h2
    by_cases hj : j = 0
    · subst hj
      go_wp2
      go_ret
      refine ⟨?_, rfl⟩
      have h2 := H2.out
      simp at h2
      show Ending.returned (.int .i64 0) = _
      simp [cmpN, h2]
    · obtain ⟨i, rfl⟩ : ∃ i, j = i + 1 := ⟨j - 1, by omega⟩
      have he : ((i + 1 : Nat) : Int) - 1 = i := by omega
      rw [he]
      clear he
      go_wp2_with fail
      refine (at_nat hv hl _ (by omega) (by omega)).mono ?_
      rintro e w' ⟨rfl, rfl⟩
      go_wp2_with fail
      refine (at_nat hu hl' _ (by omega) (by omega)).mono ?_
      rintro e w' ⟨rfl, rfl⟩
      rw [Int.toNat_natCast]
      rcases Nat.lt_trichotomy (D m i) (D n i) with hd | hd | hd
      · go_wp2
        go_ret
        refine ⟨?_, rfl⟩
        show Ending.returned (.int .i64 (-1)) = _
        rw [cmpN, if_pos (cmp_step_lt m n i H2.out hd)]
      · have hd' : ¬ (D n i < D m i) := by omega
        have hd'' : ¬ (D m i < D n i) := by omega
        have HD := hid hd
        clear hd
        go_wp2
        go_round
        case rel => exact ⟨i, rfl, by omega, cmp_step_eq m n i H2.out HD.out⟩
        case measure => simp [intOf] <;> omega
      · go_wp2
        go_ret
        refine ⟨?_, rfl⟩
        show Ending.returned (.int .i64 1) = _
        have hlt := cmp_step_lt n m i H2.out.symm hd
        rw [cmpN, if_neg (by omega), if_pos hlt]
set_option maxHeartbeats 1000000 in
theorem bits_nat {v : Value} {n : Nat} {w : World} (h : NatRep w v n) (hl : nlen n ≤ 1000000000) :
    Calls Tryz.prog 85 #[v] w fun e w' => e = .returned (.int .i64 (nbits n)) ∧ w = w' := by
  obtain ⟨a, cap, rfl⟩ := h.shape
  go_enter Tryz.func85, Tryz.ntmps85
  go_wp2
  go_loop [3] (fun i => ∃ j : Nat, i = .int .i64 j ∧ j ≤ 32 * nlen n ∧ n < 2 ^ j) (fun i => (intOf i).toNat)
  case atStart => exact ⟨32 * nlen n, by go_num, Nat.le_refl _, lt_nlen n⟩
  case round =>
    obtain ⟨j, rfl, h1, h2⟩ := hrel
    have H2 := hid h2
    clear h2
    by_cases hj : j = 0
    · subst hj
      go_wp2
      go_ret
      exact ⟨by rw [nbits_of n 0 H2.out (.inl rfl)]; rfl, rfl⟩
    · obtain ⟨i, rfl⟩ : ∃ i, j = i + 1 := ⟨j - 1, by omega⟩
      go_wp2_with fail
      refine (bit_nat h hl _ (by omega) (by omega)).mono ?_
      rintro e w' ⟨rfl, rfl⟩
      rw [Int.toNat_natCast]
      by_cases hb : n.testBit i = true
      · go_wp2
        go_ret
        exact ⟨by rw [nbits_of n (i + 1) H2.out (.inr hb)]; rfl, rfl⟩
      · rw [Bool.not_eq_true] at hb
        go_wp2
        go_round
        case rel => exact ⟨i, by go_num, by omega, lt_of_bit n i H2.out hb⟩
        case measure => simp [intOf] <;> omega
end Go.Proofs.YtkhgoeippamobaaGreatDoor
/-
  Slices that a call has made itself: rows of digits, one element appended.
-/
namespace Go.Proofs.YtkhgoeippamobaaGreatDoor
open Go.RowKit
/-- the cells of a row -/
def cellsK (ik : IntKind) (f : Nat → Nat) (n : Nat) : List Value := (List.range n).map fun i => .int ik ((f i : Nat) : Int)
theorem cellsK_length (ik : IntKind) (f : Nat → Nat) (n : Nat) : (cellsK ik f n).length = n := by simp [cellsK]
theorem cellsK_succ (ik : IntKind) (f : Nat → Nat) (n : Nat) : cellsK ik f (n + 1) = cellsK ik f n ++ [.int ik ((f n : Nat) : Int)] := by
  simp [cellsK, List.range_succ]
theorem cellsK_zero (ik : IntKind) (f : Nat → Nat) : cellsK ik f 0 = [] := rfl
theorem cellsK_get (ik : IntKind) (f : Nat → Nat) (n i : Nat) (h : i < n) : (cellsK ik f n)[i]? = some (.int ik ((f i : Nat) : Int)) := by
  simp [cellsK, h]
theorem cellsK_take (ik : IntKind) (f : Nat → Nat) (n k : Nat) (h : k ≤ n) : (cellsK ik f n).take k = cellsK ik f k := by
  apply List.ext_getElem?
  intro i
  rw [List.getElem?_take]
  by_cases hi : i < k
  · rw [if_pos hi, cellsK_get _ _ _ _ (by omega), cellsK_get _ _ _ _ hi]
  · rw [if_neg hi, List.getElem?_eq_none (by rw [cellsK_length]; omega)]
theorem cellsK_congr (ik : IntKind) (f g : Nat → Nat) (n : Nat) (h : ∀ i, i < n → f i = g i) : cellsK ik f n = cellsK ik g n := by
  simp only [cellsK]
  apply List.map_congr_left
  intro i hi
  rw [h i (List.mem_range.1 hi)]
/-- a slice of the call's own that holds a row -/
def Own (ik : IntKind) (e : TypeId) (w : World) (base : Nat) (v : Value) (n : Nat) (f : Nat → Nat) : Prop := w.ownsRow base e 1 v n (cellsK ik f n)
theorem Own.row {ik : IntKind} {e : TypeId} {w : World} {base : Nat} {v : Value} {n : Nat} {f : Nat → Nat} (h : Own ik e w base v n f) : Row ik w v n f := by
  have h0 : w.ownsRow base e 1 v n (cellsK ik f n) := h
  obtain ⟨hl, ⟨rfl, rfl⟩ | ⟨g, cap, cur, rfl, hb, hh, hc, hm, hs, ht⟩⟩ := h
  · exact ⟨none, 0, rfl, Nat.le_refl _, fun h => absurd h (by omega)⟩
  · refine ⟨some ⟨g, 0, none⟩, cap, rfl, hc, fun h => ⟨g, 0, rfl, (Array.getElem?_eq_some_iff.1 hh).1, fun i hi => ?_⟩⟩
    have := World.ownsRow.cellAt h0 i (by omega)
    rw [cellsK_get ik f n i hi] at this
    rw [Nat.zero_add]
    exact this
theorem Own.cut {ik : IntKind} {e : TypeId} {w : World} {base : Nat} {a : Option Addr} {n k cap : Nat} {f : Nat → Nat} (h : Own ik e w base (.slice a n cap) n f) (hk : k ≤ n) : Own ik e w base (.slice a k cap) k f := by
  obtain ⟨hl, ⟨hv, rfl⟩ | ⟨g, cap, cur, hv, hb, hh, hc, hm, hs, ht⟩⟩ := h
  · obtain rfl : k = 0 := by omega
    simp only [Value.slice.injEq] at hv
    obtain ⟨rfl, _, rfl⟩ := hv
    exact World.ownsRow_nil _ _ _ _
  · simp only [Value.slice.injEq] at hv
    obtain ⟨rfl, _, rfl⟩ := hv
    refine ⟨by rw [cellsK_length]; omega, .inr ⟨g, cap, cur, rfl, hb, hh, by omega, hm, hs, ?_⟩⟩
    rw [← cellsK_take ik f n k hk, ← ht, List.take_take]
    congr 1
    omega
theorem Own.mono {ik : IntKind} {e : TypeId} {w : World} {base base' : Nat} {v : Value} {n : Nat} {f : Nat → Nat} (h : Own ik e w base v n f) (hb : base' ≤ base) : Own ik e w base' v n f := by
  obtain ⟨hl, ⟨hv, h0⟩ | ⟨g, cap, cur, hv, hg, hr⟩⟩ := h
  · exact ⟨hl, .inl ⟨hv, h0⟩⟩
  · exact ⟨hl, .inr ⟨g, cap, cur, hv, Nat.le_trans hb hg, hr⟩⟩
theorem Own.congr {ik : IntKind} {e : TypeId} {w : World} {base : Nat} {v : Value} {n : Nat} {f g : Nat → Nat} (h : Own ik e w base v n f) (hf : ∀ i, i < n → f i = g i) : Own ik e w base v n g := by
  unfold Own; rw [← cellsK_congr ik f g n hf]; exact h
theorem Own.nil {ik : IntKind} {e : TypeId} {w : World} {base : Nat} {f : Nat → Nat} : Own ik e w base (.slice none 0 0) 0 f := World.ownsRow_nil _ _ _ _
theorem Own.shape {ik : IntKind} {e : TypeId} {w : World} {base : Nat} {v : Value} {n : Nat} {f : Nat → Nat} (h : Own ik e w base v n f) : ∃ a cap, v = .slice a n cap := by
  obtain ⟨a, cap, rfl, _⟩ := h.row
  exact ⟨a, cap, rfl⟩
/-- behind a new block -/
theorem Own.alloc {ik : IntKind} {e : TypeId} {w : World} {base : Nat} {v : Value} {n : Nat} {f : Nat → Nat} (h : Own ik e w base v n f) (o : Obj) : Own ik e (w.alloc o) base v n f := World.ownsRow.alloc h o
/-- behind a step that keeps what lies below a number: the row lies below it -/
theorem Row.keep {ik : IntKind} {w w' : World} {v : Value} {n : Nat} {f : Nat → Nat} (h : Row ik w v n f) (hb : Below w.heap.size w w') : Row ik w' v n f := h.below hb
theorem Tryz.info75 : (Tryz.prog.info? 75).map (fun i => (i.zero, i.size, i.bytes)) = some (some (.int .u32 0), 1, 4) := by kernel_rfl
theorem Tryz.info3 : (Tryz.prog.info? 3).map (fun i => (i.zero, i.size, i.bytes)) = some (some (.int .i64 0), 1, 8) := by kernel_rfl
section
variable {w : World} {ops : Array Oper} {rest : List Oper} {o : Oper} {a : Act} {Q : Exit → Act → World → Prop}
/-- 'append(s, x)', s a row of the call's own -/
theorem app_u32 (hgd : o.guard = none) (s x : Operand)
    (ho : o.op = .call { callee := .builtin .append, args := #[s, x], argTypes := #[47, 47] })
    (base : Nat) (v : Value) (n : Nat) (f : Nat → Nat) (hs : a.eval s = v) (hown : Own .u32 75 w base v n f)
    (X : Int) (hx : a.eval x = .slice (some ⟨w.heap.size, 0, none⟩) 1 1) (hX : X = ((f n : Nat) : Int)) (hn : n ≤ 1000000000000) (hbase : base ≤ w.heap.size)
    (h : ∀ v' w', Own .u32 75 w' base v' (n + 1) f → Below base w w' → wpList Tryz.prog ops Q rest (a.put o.dst v') w') :
    wpList Tryz.prog ops Q (o :: rest) a (w.alloc (.cells #[.int .u32 X] 75)) := by
  subst hX
  obtain ⟨i0, hi, hz0, hz1, hz2⟩ := info_parts Tryz.info75
  refine wpList_append_own _ hgd s x 47 ho base 75 i0 (.int .u32 0) 1 4 Tryz.underlying47 hi hz0 hz1 hz2 rfl (by decide) v n _ hs (World.ownsRow.alloc hown _)
    ⟨w.heap.size, 0, none⟩ 1 1 [.int .u32 ((f n : Nat) : Int)] hx rfl (cell_one_new _ _ _) (by intro u hu; simp at hu; subst hu; rfl) (by unfold maxLen; omega) (by omega) (by simp; omega) ?_
  intro v' w' hown' hgrow _
  refine h v' w' (by unfold Own; rw [cellsK_succ]; exact hown') ?_
  refine (((Below.refl base w).alloc hbase _).grown hgrow (by simp; omega) ?_)
  intro k hk
  obtain ⟨hl, ⟨hv, h0⟩ | ⟨g, cap, cur, hv, hg, hr⟩⟩ := hown
  · subst hv; cases hk
  · subst hv
    simp [Value.ownBlock] at hk
    omega
end
/-- a fresh canonical number -/
def Fresh (n : Nat) (w : World) (e : Ending) (w' : World) : Prop := ∃ v, e = .returned v ∧ Own .u32 75 w' w.heap.size v (nlen n) (D n) ∧ Below w.heap.size w w'
theorem trimmed_own {v : Value} {base n k : Nat} {w : World} (h : Own .u32 75 w base v k (D n)) (hk : k ≤ 1000000000) (hn : n < 2 ^ (32 * k)) :
    Calls Tryz.prog 119 #[v] w fun e w' => (∃ v', e = .returned v' ∧ Own .u32 75 w base v' (nlen n) (D n)) ∧ w = w' := by
  obtain ⟨a, cap, rfl⟩ := h.shape
  refine (trimmed_row h.row hk hn).mono ?_
  rintro e w' ⟨rfl, rfl⟩
  exact ⟨⟨_, rfl, h.cut ((nlen_le_iff n k).2 hn)⟩, rfl⟩
theorem Own.nat {w : World} {base : Nat} {v : Value} {n : Nat} (h : Own .u32 75 w base v (nlen n) (D n)) : NatRep w v n := h.row
end Go.Proofs.YtkhgoeippamobaaGreatDoor
/-
  A row that the call makes, and stores into it.
-/
namespace Go.Proofs.YtkhgoeippamobaaGreatDoor
open Go.RowKit
theorem Own.cell {ik : IntKind} {e : TypeId} {w : World} {base g n cap : Nat} {f : Nat → Nat} (h : Own ik e w base (.slice (some ⟨g, 0, none⟩) n cap) n f) (i : Nat) (hi : i < n) : w.cell? ⟨g, i, none⟩ = some (.int ik ((f i : Nat) : Int)) := by
  have := World.ownsRow.cellAt h i (by omega)
  rw [cellsK_get ik f n i hi] at this
  exact this
theorem Own.free {ik : IntKind} {e : TypeId} {w : World} {base g n cap : Nat} {f : Nat → Nat} (h : Own ik e w base (.slice (some ⟨g, 0, none⟩) n cap) n f) (i : Nat) : w.frozen? ⟨g, i, none⟩ = false := World.ownsRow.frozenAt h i
theorem Own.base_le {ik : IntKind} {e : TypeId} {w : World} {base g n cap : Nat} {f : Nat → Nat} (h : Own ik e w base (.slice (some ⟨g, 0, none⟩) n cap) n f) : base ≤ g := by
  obtain ⟨hl, ⟨hv, _⟩ | ⟨g', cap', cur, hv, hb, _⟩⟩ := h
  · simp at hv
  · simp only [Value.slice.injEq, Option.some.injEq, Addr.mk.injEq, and_true, true_and] at hv
    omega
theorem Own.lt {ik : IntKind} {e : TypeId} {w : World} {base g n cap : Nat} {f : Nat → Nat} (h : Own ik e w base (.slice (some ⟨g, 0, none⟩) n cap) n f) : g < w.heap.size := by
  obtain ⟨hl, ⟨hv, _⟩ | ⟨g', cap', cur, hv, hb, hh, _⟩⟩ := h
  · simp at hv
  · simp only [Value.slice.injEq, Option.some.injEq, Addr.mk.injEq, and_true, true_and] at hv
    rw [← hv.1] at hh
    exact (Array.getElem?_eq_some_iff.1 hh).1
theorem cellsK_set (ik : IntKind) (f : Nat → Nat) (n i x : Nat) : (cellsK ik f n).set i (.int ik ((x : Nat) : Int)) = cellsK ik (fun j => if j = i then x else f j) n := by
  apply List.ext_getElem?
  intro j
  by_cases hj : j < n
  · rw [cellsK_get _ _ _ _ hj, List.getElem?_set, cellsK_length]
    by_cases he : i = j
    · subst he; simp [hj]
    · have he' : ¬ j = i := fun h => he h.symm
      simp [he, he', cellsK_get ik f n j hj]
  · rw [List.getElem?_eq_none (by rw [List.length_set, cellsK_length]; omega), List.getElem?_eq_none (by rw [cellsK_length]; omega)]
theorem Own.store {ik : IntKind} {e : TypeId} {w : World} {base g n cap : Nat} {f : Nat → Nat} (h : Own ik e w base (.slice (some ⟨g, 0, none⟩) n cap) n f) (i x : Nat) : Own ik e (w.setCell ⟨g, i, none⟩ (.int ik ((x : Nat) : Int))) base (.slice (some ⟨g, 0, none⟩) n cap) n (fun j => if j = i then x else f j) := by
  have := (World.ownsRow.stored h i (.int ik ((x : Nat) : Int))).1
  rw [cellsK_set] at this
  exact this
/-- behind a store to another block -/
theorem Own.other {ik : IntKind} {e : TypeId} {w : World} {base g n cap : Nat} {f : Nat → Nat} (h : Own ik e w base (.slice (some ⟨g, 0, none⟩) n cap) n f) (a : Addr) (u : Value) (ha : a.block ≠ g) : Own ik e (w.setCell a u) base (.slice (some ⟨g, 0, none⟩) n cap) n f := by
  obtain ⟨hl, ⟨hv, h0⟩ | ⟨g', cap', cur, hv, hb, hh, hr⟩⟩ := h
  · exact ⟨hl, .inl ⟨hv, h0⟩⟩
  · have hv' := hv
    simp only [Value.slice.injEq, Option.some.injEq, Addr.mk.injEq, and_true, true_and] at hv'
    exact ⟨hl, .inr ⟨g', cap', cur, hv, hb, by rw [Below.heap_setCell _ _ _ _ (by omega)]; exact hh, hr⟩⟩
/-- behind steps that keep what lies below a number -/
theorem Own.keep {ik : IntKind} {e : TypeId} {w w' : World} {base B : Nat} {v : Value} {n : Nat} {f : Nat → Nat} (h : Own ik e w base v n f) (hb : Below B w w') (hB : w.heap.size ≤ B) : Own ik e w' base v n f := by
  obtain ⟨hl, ⟨hv, h0⟩ | ⟨g', cap', cur, hv, hg, hh, hr⟩⟩ := h
  · exact ⟨hl, .inl ⟨hv, h0⟩⟩
  · exact ⟨hl, .inr ⟨g', cap', cur, hv, hg, by rw [hb.block g' (by have := (Array.getElem?_eq_some_iff.1 hh).1; omega)]; exact hh, hr⟩⟩
theorem Own.len_eq {ik : IntKind} {e : TypeId} {w : World} {base n n' : Nat} {v : Value} {f g : Nat → Nat} (h : Own ik e w base v n f) (hn : n = n') (hf : f = g) : Own ik e w base v n' g := by
  subst hn; subst hf; exact h
theorem Own.keepAt {ik : IntKind} {e : TypeId} {w w' : World} {base B g n cap : Nat} {f : Nat → Nat} (h : Own ik e w base (.slice (some ⟨g, 0, none⟩) n cap) n f) (hb : Below B w w') (hB : g < B) : Own ik e w' base (.slice (some ⟨g, 0, none⟩) n cap) n f := by
  obtain ⟨hl, ⟨hv, h0⟩ | ⟨g', cap', cur, hv, hg, hh, hr⟩⟩ := h
  · exact ⟨hl, .inl ⟨hv, h0⟩⟩
  · have hv' := hv
    simp only [Value.slice.injEq, Option.some.injEq, Addr.mk.injEq, and_true, true_and] at hv'
    exact ⟨hl, .inr ⟨g', cap', cur, hv, hg, by rw [hb.block g' (by omega)]; exact hh, hr⟩⟩
theorem Own.addr {ik : IntKind} {e : TypeId} {w : World} {base n cap : Nat} {a : Option Addr} {f : Nat → Nat} (h : Own ik e w base (.slice a n cap) n f) (hn : 0 < n) : ∃ g, a = some ⟨g, 0, none⟩ := by
  obtain ⟨hl, ⟨hv, h0⟩ | ⟨g', cap', cur, hv, hg, hh, hr⟩⟩ := h
  · omega
  · simp only [Value.slice.injEq, true_and] at hv
    exact ⟨g', hv.1⟩
theorem cellsK_make (ik : IntKind) (n : Nat) : (madeCells (Value.int ik 0).cells (n * 1)).toList = cellsK ik (fun _ => 0) n := by
  have e : (Value.int ik 0).cells = #[.int ik 0] := rfl
  rw [e, toList_madeCells_one]
  apply List.ext_getElem?
  intro j
  by_cases hj : j < n
  · rw [cellsK_get _ _ _ _ hj]; simp [hj]
  · rw [List.getElem?_eq_none (by simp; omega), List.getElem?_eq_none (by rw [cellsK_length]; omega)]
section
variable {ops : Array Oper} {rest : List Oper} {o : Oper} {a : Act} {Q : Exit → Act → World → Prop}
/-- 'make(nat, n)' -/
theorem mk_u32 (w : World) (hgd : o.guard = none) (l c : Operand) (ho : o.op = Op.makeSlice 47 l c) (base n : Nat) (L C : Int) (hl : a.eval l = .int .i64 L) (hc : a.eval c = .int .i64 C) (hL : L = (n : Int)) (hC : C = (n : Int)) (hn : n ≤ 1000000000000) (hbase : base ≤ w.heap.size)
    (h : ∀ w', Own .u32 75 w' base (.slice (some ⟨w.heap.size, 0, none⟩) n n) n (fun _ => 0) → Below base w w' → w'.heap.size = w.heap.size + 1 → Below w.heap.size w w' → wpList Tryz.prog ops Q rest (a.put o.dst (.slice (some ⟨w.heap.size, 0, none⟩) n n)) w') :
    wpList Tryz.prog ops Q (o :: rest) a w := by
  obtain ⟨i0, hi, hz0, hz1, hz2⟩ := info_parts Tryz.info75
  subst hL
  subst hC
  have hm := run_make (P := Tryz.prog) w 47 75 i0 (.int .u32 0) Tryz.underlying47 hi hz0 .i64 .i64 n n (by omega) (by omega) (by rw [hz2]; omega) (by omega)
  refine wpList_plain hgd fun K hK' => ?_
  unfold Oper.wp
  simp only [Int.toNat_natCast] at hm
  simp [execOp, ho, hl, hc, hm, Result.andThen]
  refine hK' _ _ (h _ ?_ ?_ ?_ ?_)
  · have := World.ownsRow_lit (e := 75) (size := 1) w (madeCells (Value.int IntKind.u32 0).cells (n * 1)) n hbase (by unfold maxLen; omega) (size_madeCells _ _)
    unfold Own
    rw [← cellsK_make]
    rw [hz1]
    exact this
  · exact (Below.refl base w).alloc hbase _
  · simp
  · exact (Below.refl _ w).alloc (Nat.le_refl _) _
/-- 'make(nat, l, c)' -/
theorem mk2_u32 (w : World) (hgd : o.guard = none) (l c : Operand) (ho : o.op = Op.makeSlice 47 l c) (base n m : Nat) (L C : Int) (hl : a.eval l = .int .i64 L) (hc : a.eval c = .int .i64 C) (hL : L = (n : Int)) (hC : C = (m : Int)) (hnm : n ≤ m) (hn : m ≤ 1000000000000) (hbase : base ≤ w.heap.size)
    (h : ∀ w', Own .u32 75 w' base (.slice (some ⟨w.heap.size, 0, none⟩) n m) n (fun _ => 0) → Below base w w' → w'.heap.size = w.heap.size + 1 → Below w.heap.size w w' → wpList Tryz.prog ops Q rest (a.put o.dst (.slice (some ⟨w.heap.size, 0, none⟩) n m)) w') :
    wpList Tryz.prog ops Q (o :: rest) a w := by
  obtain ⟨i0, hi, hz0, hz1, hz2⟩ := info_parts Tryz.info75
  subst hL
  subst hC
  have hm := run_make (P := Tryz.prog) w 47 75 i0 (.int .u32 0) Tryz.underlying47 hi hz0 .i64 .i64 n m (by omega) (by omega) (by rw [hz2]; omega) (by omega)
  refine wpList_plain hgd fun K hK' => ?_
  unfold Oper.wp
  simp only [Int.toNat_natCast] at hm
  simp [execOp, ho, hl, hc, hm, Result.andThen]
  refine hK' _ _ (h _ ?_ ?_ ?_ ?_)
  · have := World.ownsRow_lit (e := 75) (size := 1) w (madeCells (Value.int IntKind.u32 0).cells (m * 1)) m hbase (by unfold maxLen; omega) (size_madeCells _ _)
    refine Own.cut (n := m) ?_ hnm
    unfold Own
    rw [← cellsK_make]
    rw [hz1]
    exact this
  · exact (Below.refl base w).alloc hbase _
  · simp
  · exact (Below.refl _ w).alloc (Nat.le_refl _) _
end
end Go.Proofs.YtkhgoeippamobaaGreatDoor
/-
  Quotient and remainder by a small number.
-/
namespace Go.Proofs.YtkhgoeippamobaaGreatDoor
open Go.RowKit
/-- the rest in front of digit j -/
def remD (n k j : Nat) : Nat := n / 2 ^ (32 * j) % k
def tBy (n k i : Nat) : Nat := remD n k (i + 1) * 4294967296 + D n i
theorem remD_lt (n k j : Nat) (hk : 0 < k) : remD n k j < k := Nat.mod_lt _ hk
theorem tBy_or (n k i : Nat) (hk0 : 0 < k) (hk : k < 4294967296) : bits BinOp.or IntKind.u64 ((remD n k (i + 1) : Int) * 4294967296) (D n i : Int) = (tBy n k i : Int) := by
  have h1 := remD_lt n k (i + 1) hk0
  have h2 := D_lt n i
  have e : (remD n k (i + 1) : Int) * 4294967296 = ((remD n k (i + 1) * 4294967296 : Nat) : Int) := by simp
  rw [e, u64_or_nat _ _ (by omega) (by omega), nat_join 32 _ _ (by omega) (by omega)]
  rfl
theorem tBy_eq (n k i : Nat) : tBy n k i = n / 2 ^ (32 * (i + 1)) % k * 4294967296 + D n i := rfl
theorem tBy_div (n k i : Nat) (hk0 : 0 < k) : tBy n k i / k = D (n / k) i := by
  have h0 := div_split n i
  have h1 : n / k / 2 ^ (32 * i) = n / 2 ^ (32 * i) / k := by rw [Nat.div_div_eq_div_mul, Nat.div_div_eq_div_mul, Nat.mul_comm]
  unfold D
  rw [h1, h0, tBy_eq]
  generalize n / 2 ^ (32 * (i + 1)) = q
  have h2 := Nat.mod_add_div q k
  have hd := D_lt n i
  generalize D n i = d at *
  have h3 : d + 4294967296 * q = (q % k * 4294967296 + d) + k * (4294967296 * (q / k)) := by
    have : 4294967296 * q = 4294967296 * (q % k) + 4294967296 * (k * (q / k)) := by rw [← Nat.mul_add, h2]
    rw [this, Nat.mul_left_comm k 4294967296 (q / k)]
    omega
  rw [h3, Nat.add_mul_div_left _ _ hk0, Nat.add_mul_mod_self_left]
  symm
  apply Nat.mod_eq_of_lt
  rw [Nat.div_lt_iff_lt_mul hk0]
  have := Nat.mod_lt q hk0
  have h5 : q % k * 4294967296 + 4294967296 ≤ k * 4294967296 := by
    have : (q % k + 1) * 4294967296 ≤ k * 4294967296 := Nat.mul_le_mul_right _ (by omega)
    omega
  rw [Nat.mul_comm 4294967296 k]
  omega
theorem tBy_mod (n k i : Nat) (_hk0 : 0 < k) : tBy n k i % k = remD n k i := by
  have h0 := div_split n i
  unfold remD
  rw [h0, tBy_eq, Nat.add_comm, Nat.add_mod, Nat.mod_mul_mod, ← Nat.add_mod, Nat.mul_comm]
theorem tBy_lt (n k i : Nat) (hk0 : 0 < k) (hk : k < 4294967296) : tBy n k i < 18446744073709551616 := by
  have h1 := remD_lt n k (i + 1) hk0
  have h2 := D_lt n i
  unfold tBy
  omega
set_option maxRecDepth 100000 in
set_option maxHeartbeats 1000000 in
theorem by_nat {v : Value} {n : Nat} {w : World} (h : NatRep w v n) (hl : nlen n ≤ 100000000) (k : Nat) (hk0 : 0 < k) (hk : k < 4294967296) :
    Calls Tryz.prog 151 #[v, .int .u32 k] w fun e w' => (∃ u, e = .returned (.tuple #[u, .int .u32 ((n % k : Nat) : Int)]) ∧ Own .u32 75 w' w.heap.size u (nlen (n / k)) (D (n / k))) ∧ Below w.heap.size w w' := by
  obtain ⟨a, cap, rfl⟩ := h.shape
  go_enter Tryz.func151, Tryz.ntmps151
  go_wp2_with (at_make; refine mk_u32 _ rfl _ _ rfl w.heap.size (nlen n) _ _ rfl rfl rfl rfl (by omega) (Nat.le_refl _) ?_; intro w1 hown hb hz hb1)
  go_loopw [7, 8] (fun rest i wr => ∃ j : Nat, i = .int .i64 ((j : Int) - 1) ∧ j ≤ nlen n ∧ rest = .int .u64 (remD n k j) ∧ Own .u32 75 wr w.heap.size (.slice (some ⟨w.heap.size, 0, none⟩) (nlen n) (nlen n)) (nlen n) (fun t => if t < j then 0 else D (n / k) t) ∧ Below w.heap.size w wr)
    (fun _ i _ => (intOf i + 1).toNat)
  case atStart => 
    refine ⟨nlen n, rfl, Nat.le_refl _, by unfold remD; rw [div_top n _ (Nat.le_refl _)]; simp, hown.congr (fun t ht => by rw [if_pos ht]), hb⟩
  case round =>
    obtain ⟨j, rfl, hj, rfl, hown1, hbr⟩ := hrel
    by_cases h0 : j = 0
    · subst h0
      go_wp2_with fail
      have hq : n / k < 2 ^ (32 * nlen n) := Nat.lt_of_le_of_lt (Nat.div_le_self _ _) (lt_nlen n)
      have hown2 := hown1.congr (g := D (n / k)) (fun t _ => by rw [if_neg (by omega)])
      have hrm : remD n k 0 = n % k := by simp [remD]
      have hR := hid hrm
      have hr := Nat.lt_trans (remD_lt n k 0 hk0) hk
      clear hrm
      refine (trimmed_own hown2 (by omega) hq).mono ?_
      rintro e w' ⟨⟨u, rfl, hu⟩, rfl⟩
      go_wp2
      go_ret2
      refine ⟨⟨u, ?_, hu⟩, hbr⟩
      rw [← hR.out]
      rfl
    · obtain ⟨i, rfl⟩ : ∃ i, j = i + 1 := ⟨j - 1, by omega⟩
      have he : ((i + 1 : Nat) : Int) - 1 = i := by omega
      rw [he]
      clear he
      obtain ⟨a', cap', hv, _, hcell⟩ := h.below hbr
      simp only [Value.slice.injEq, true_and] at hv
      obtain ⟨rfl, rfl⟩ := hv
      obtain ⟨b, off, rfl, _, hc0⟩ := hcell (by omega)
      have hcj := hc0 i (by omega)
      have hoc := hown1.cell i (by omega)
      have hof := hown1.free i
      have hr := Nat.lt_trans (remD_lt n k (i + 1) hk0) hk
      have hd := D_lt n i
      have hw1 := tBy_or n k i hk0 hk
      have hw2 : (tBy n k i : Int) / (k : Int) = (D (n / k) i : Int) := by rw [← tBy_div n k i hk0]; simp
      have hw3 : (tBy n k i : Int) % (k : Int) = (remD n k i : Int) := by rw [← tBy_mod n k i hk0]; simp
      have hd2 := D_lt (n / k) i
      go_wp2
      go_roundw
      case rel =>
        refine ⟨i, rfl, by omega, by rw [hw3], (hown1.store i _).congr ?_, hbr.setCell (Nat.le_refl _) _⟩
        intro t ht
        show (if t = i then _ else if t < i + 1 then 0 else _) = _
        by_cases e : t = i
        · rw [if_pos e, if_neg (by omega), e]
        · rw [if_neg e]
          by_cases e2 : t < i
          · rw [if_pos e2, if_pos (by omega)]
          · rw [if_neg e2, if_neg (by omega)]
      case measure => simp [intOf] <;> omega
end Go.Proofs.YtkhgoeippamobaaGreatDoor
/-
  Digits of a base: the text of a number.
-/
namespace Go.Proofs.YtkhgoeippamobaaGreatDoor
open Go.RowKit
theorem Tryz.info5 : (Tryz.prog.info? 5).map (fun i => (i.zero, i.size, i.bytes)) = some (some (.int .u8 0), 1, 1) := by kernel_rfl
/-- all blocks but a value's own are as they were -/
def KeepBut (w w' : World) (v : Value) : Prop := w.heap.size ≤ w'.heap.size ∧ ∀ k, k < w.heap.size → some k ≠ v.ownBlock → w'.heap[k]? = w.heap[k]?
theorem Own.block_lt {ik : IntKind} {e : TypeId} {w : World} {base : Nat} {v : Value} {n : Nat} {f : Nat → Nat} (h : Own ik e w base v n f) (g : Nat) (hg : v.ownBlock = some g) : g < w.heap.size := by
  obtain ⟨hl, ⟨hv, _⟩ | ⟨g', cap, cur, hv, _, hh, _⟩⟩ := h
  · subst hv; simp [Value.ownBlock] at hg
  · subst hv
    simp [Value.ownBlock] at hg
    subst hg
    exact (Array.getElem?_eq_some_iff.1 hh).1
theorem Own.keepBut {ik : IntKind} {e : TypeId} {w w' : World} {base : Nat} {u v : Value} {n : Nat} {f : Nat → Nat} (h : Own ik e w base u n f) (hk : KeepBut w w' v) (hne : ∀ g, v.ownBlock = some g → g < base) : Own ik e w' base u n f := by
  obtain ⟨hl, ⟨hv, h0⟩ | ⟨g', cap, cur, hv, hb, hh, hr⟩⟩ := h
  · exact ⟨hl, .inl ⟨hv, h0⟩⟩
  · refine ⟨hl, .inr ⟨g', cap, cur, hv, hb, ?_, hr⟩⟩
    rw [hk.2 g' (Array.getElem?_eq_some_iff.1 hh).1 (fun e => by have := hne g' e.symm; omega)]
    exact hh
def lenOf : Value → Nat
  | .slice _ l _ => l
  | _ => 0
theorem Own.lenOf {ik : IntKind} {e : TypeId} {w : World} {base : Nat} {v : Value} {n : Nat} {f : Nat → Nat} (h : Own ik e w base v n f) : lenOf v = n := by
  obtain ⟨a, c, rfl⟩ := h.shape
  rfl
section
variable {w : World} {ops : Array Oper} {rest : List Oper} {o : Oper} {a : Act} {Q : Exit → Act → World → Prop}
/-- 'append(s, x)', s a row of bytes of the call's own -/
theorem app_u8 (hgd : o.guard = none) (s x : Operand)
    (ho : o.op = .call { callee := .builtin .append, args := #[s, x], argTypes := #[132, 132] })
    (base : Nat) (v : Value) (n : Nat) (f : Nat → Nat) (hs : a.eval s = v) (hown : Own .u8 5 w base v n f)
    (X : Int) (hx : a.eval x = .slice (some ⟨w.heap.size, 0, none⟩) 1 1) (hX : X = ((f n : Nat) : Int)) (hn : n ≤ 1000000000000) (hbase : base ≤ w.heap.size)
    (h : ∀ v' w', Own .u8 5 w' base v' (n + 1) f → Below base w w' → KeepBut w w' v → wpList Tryz.prog ops Q rest (a.put o.dst v') w') :
    wpList Tryz.prog ops Q (o :: rest) a (w.alloc (.cells #[.int .u8 X] 5)) := by
  subst hX
  obtain ⟨i0, hi, hz0, hz1, hz2⟩ := info_parts Tryz.info5
  refine wpList_append_own _ hgd s x 132 ho base 5 i0 (.int .u8 0) 1 1 Tryz.underlying132 hi hz0 hz1 hz2 rfl (by decide) v n _ hs (World.ownsRow.alloc hown _)
    ⟨w.heap.size, 0, none⟩ 1 1 [.int .u8 ((f n : Nat) : Int)] hx rfl (cell_one_new _ _ _) (by intro u hu; simp at hu; subst hu; rfl) (by unfold maxLen; omega) (by omega) (by simp; omega) ?_
  intro v' w' hown' hgrow _
  refine h v' w' (by unfold Own; rw [cellsK_succ]; exact hown') ?_ ⟨by have := hgrow.size; simp at this; omega, fun k hk hne => (hgrow.block k (by simp; omega) hne).trans (Below.heap_alloc _ _ _ hk)⟩
  refine (((Below.refl base w).alloc hbase _).grown hgrow (by simp; omega) ?_)
  intro k hk
  obtain ⟨hl, ⟨hv, h0⟩ | ⟨g, cap, cur, hv, hg, hr⟩⟩ := hown
  · subst hv; cases hk
  · subst hv
    simp [Value.ownBlock] at hk
    omega
end
/-- the byte of a digit -/
def chN (d : Nat) : Nat := if d < 10 then 48 + d else 87 + d
/-- the digit number i to a base -/
def dgt (b n i : Nat) : Nat := n / b ^ i % b
/-- how many digits to a base: as many as are wanted -/
def dlenF (b : Nat) : Nat → Nat → Nat
  | 0, _ => 0
  | f + 1, n => if n = 0 then 0 else dlenF b f (n / b) + 1
def dlen (b n : Nat) : Nat := dlenF b n n
theorem dlenF_eq (b : Nat) (hb : 2 ≤ b) : ∀ f n, n ≤ f → ∀ k, dlenF b f n ≤ k ↔ n < b ^ k := by
  intro f
  induction f with
  | zero => intro n hn k; have := Nat.pow_pos (n := k) (show 0 < b by omega); simp [dlenF]; omega
  | succ f ih =>
    intro n hn k
    unfold dlenF
    by_cases h0 : n = 0
    · have := Nat.pow_pos (n := k) (show 0 < b by omega)
      rw [if_pos h0]; omega
    · rw [if_neg h0]
      have hlt : n / b < n := Nat.div_lt_self (by omega) (by omega)
      cases k with
      | zero => simp; omega
      | succ k =>
        have := ih (n / b) (by omega) k
        rw [Nat.div_lt_iff_lt_mul (by omega)] at this
        rw [Nat.pow_succ]
        omega
theorem dlen_le_iff (b n k : Nat) (hb : 2 ≤ b) : dlen b n ≤ k ↔ n < b ^ k := dlenF_eq b hb n n (Nat.le_refl _) k
theorem dlen_lt (b n : Nat) (hb : 2 ≤ b) : n < b ^ dlen b n := (dlen_le_iff b n _ hb).1 (Nat.le_refl _)
theorem lt_dlen_iff (b n k : Nat) (hb : 2 ≤ b) : k < dlen b n ↔ b ^ k ≤ n := by
  have := dlen_le_iff b n k hb
  omega
theorem dlen_div (b n k : Nat) (hb : 2 ≤ b) : n / b ^ k = 0 ↔ dlen b n ≤ k := by
  rw [dlen_le_iff b n k hb, Nat.div_eq_zero_iff_lt (Nat.pow_pos (by omega))]
theorem dgt_lt (b n i : Nat) (hb : 2 ≤ b) : dgt b n i < b := Nat.mod_lt _ (by omega)
theorem chN_lt (d : Nat) (h : d < 36) : chN d < 256 := by unfold chN; split <;> omega
theorem dlen_bound (b n : Nat) (hb : 2 ≤ b) : dlen b n ≤ 32 * nlen n := (dlen_le_iff b n _ hb).2 (Nat.lt_of_lt_of_le (lt_nlen n) (Nat.pow_le_pow_left hb _))
/-- the text of a number above 0, without a sign -/
def strOf (b n : Nat) : List UInt8 := (List.range (dlen b n)).map fun t => UInt8.ofNat (chN (dgt b n (dlen b n - 1 - t)))
theorem strOf_length (b n : Nat) : (strOf b n).length = dlen b n := by simp [strOf]
theorem dgt_step (b n k : Nat) : n / b ^ k / b = n / b ^ (k + 1) := by rw [Nat.pow_succ, Nat.div_div_eq_div_mul]
def alphaA : ByteArray := ⟨#[48, 49, 50, 51, 52, 53, 54, 55, 56, 57, 97, 98, 99, 100, 101, 102, 103, 104, 105, 106, 107, 108, 109, 110, 111, 112, 113, 114, 115, 116, 117, 118, 119, 120, 121, 122]⟩
theorem alph : ∀ r, (h : r < 36) → (alphaA[r]'h).toNat = chN r := by decide +kernel
theorem alphI (r : Nat) (h : r < 36) : (((alphaA[r]'h).toNat : Nat) : Int) = ((chN r : Nat) : Int) := by rw [alph r h]
/-- behind i swaps -/
def revF (b n i t : Nat) : Nat := if t < i ∨ dlen b n - i ≤ t then chN (dgt b n (dlen b n - 1 - t)) else chN (dgt b n t)
theorem revF_low (b n i : Nat) (h : i < dlen b n / 2) : revF b n i i = chN (dgt b n i) := by unfold revF; rw [if_neg (by omega)]
theorem revF_high (b n i : Nat) (h : i < dlen b n / 2) : revF b n i (dlen b n - 1 - i) = chN (dgt b n (dlen b n - 1 - i)) := by unfold revF; rw [if_neg (by omega)]
theorem revF_end (b n t : Nat) (h : t < dlen b n) : revF b n (dlen b n / 2) t = chN (dgt b n (dlen b n - 1 - t)) := by
  unfold revF
  by_cases e : t < dlen b n / 2 ∨ dlen b n - dlen b n / 2 ≤ t
  · rw [if_pos e]
  · rw [if_neg e]; congr 2; omega
theorem revF_succ (b n i t : Nat) (h : i < dlen b n / 2) (ht : t < dlen b n) : (if t = dlen b n - 1 - i then chN (dgt b n i) else if t = i then chN (dgt b n (dlen b n - 1 - i)) else revF b n i t) = revF b n (i + 1) t := by
  unfold revF
  by_cases e1 : t = dlen b n - 1 - i
  · rw [if_pos e1, if_pos (.inr (by omega))]; congr 2; omega
  · rw [if_neg e1]
    by_cases e2 : t = i
    · rw [if_pos e2, if_pos (.inl (by omega)), e2]
    · rw [if_neg e2]
      by_cases e3 : t < i ∨ dlen b n - i ≤ t
      · rw [if_pos e3, if_pos (by omega)]
      · rw [if_neg e3, if_neg (by omega)]
theorem run_str_of (W : World) (bv : Value) (base b n : Nat) (h : Own .u8 5 W base bv (dlen b n) (fun t => chN (dgt b n (dlen b n - 1 - t)))) (hb2 : 2 ≤ b) (hb : b ≤ 36) : (convert 132 9 bv).run Tryz.prog W = .ok (.string ⟨(strOf b n).toArray⟩) W := by
  obtain ⟨a, cap, rfl, hc, hcell⟩ := h.row
  have hlen := strOf_length b n
  rcases h.2 with ⟨hv, h0⟩ | ⟨g, cap', cur, hv, _⟩
  · simp only [Value.slice.injEq] at hv
    obtain ⟨rfl, h1, rfl⟩ := hv
    rw [h1, Lib.run_convert_nil_bytes W 132 9 5 0 Tryz.underlying132 Tryz.underlying5 Tryz.underlying9]
    rw [h1] at hlen
    rw [List.eq_nil_of_length_eq_zero hlen]
  · simp only [Value.slice.injEq] at hv
    obtain ⟨rfl, _, rfl⟩ := hv
    have hb := run_convert_bytes_back (P := Tryz.prog) W 132 9 5 ⟨g, 0, none⟩ cap (strOf b n) Tryz.underlying132 Tryz.underlying5 Tryz.underlying9 (fun j hj => by
      rw [hlen] at hj
      have h1 := h.cell j hj
      have h2 := chN_lt _ (Nat.lt_of_lt_of_le (dgt_lt b n (dlen b n - 1 - j) hb2) hb)
      have e : (⟨g, 0, none⟩ : Addr).add j = ⟨g, j, none⟩ := by simp [Addr.add]; intro h; exact h.symm
      rw [e, h1]
      simp [strOf]
      omega)
    rw [hlen] at hb
    exact hb
set_option maxRecDepth 100000 in
set_option maxHeartbeats 4000000 in
theorem based_nat {v : Value} {n : Nat} {w : World} (h : NatRep w v n) (hl : nlen n ≤ 1000000) (b : Nat) (hb2 : 2 ≤ b) (hb36 : b ≤ 36) :
    Calls Tryz.prog 140 #[v, .int .i64 b] w fun e w' => e = .returned (.string ⟨(strOf b n).toArray⟩) ∧ Below w.heap.size w w' := by
  obtain ⟨a, cap, rfl⟩ := h.shape
  have hdb := dlen_bound b n hb2
  go_enter Tryz.func140, Tryz.ntmps140
  go_wp2
  go_loopw [0, 5] (fun av bv wr => ∃ k : Nat, k ≤ dlen b n ∧ NatRep wr av (n / b ^ k) ∧ Own .u8 5 wr w.heap.size bv k (fun i => chN (dgt b n i)) ∧ Below w.heap.size w wr)
    (fun _ bv _ => dlen b n - lenOf bv)
  case atStart => exact ⟨0, Nat.zero_le _, by rw [Nat.pow_zero, Nat.div_one]; exact h, Own.nil, Below.refl _ _⟩
  case round =>
    obtain ⟨k, hk, hav, hbv, hbr⟩ := hrel
    obtain ⟨a1, cap1, rfl⟩ := hav.shape
    by_cases hlt : k < dlen b n
    · have hne : n / b ^ k ≠ 0 := fun h0 => by have := (dlen_div b n k hb2).1 h0; omega
      have hlen : 0 < nlen (n / b ^ k) := by have := nlen_eq_zero (n / b ^ k); omega
      have hnl : nlen (n / b ^ k) ≤ nlen n := nlen_mono (Nat.div_le_self _ _)
      have hd := dgt_lt b n k hb2
      have hsz := hbr.size
      have hd36 : dgt b n k < 36 := by omega
      have hstep := hid (dgt_step b n k)
      have hc := hid (by_nat hav (by omega) b (by omega) (by omega))
      have hbw : IntKind.u32.wrap (b : Int) = b := by rw [wrap_u32_nat, Nat.mod_eq_of_lt (by omega)]
      have hdg : n / b ^ k % b = dgt b n k := rfl
      rw [hdg] at hc
      clear hdg
      go_wp2_with fail
      (with_reducible refine hc.out.mono ?_); rintro e w1 ⟨⟨u, rfl, hu⟩, hb1⟩
      obtain ⟨ua, uc, rfl⟩ := hu.shape
      have hul : nlen (n / b ^ k / b) < nlen (n / b ^ k) ∨ (nlen (n / b ^ k / b) = nlen (n / b ^ k)) := by have := nlen_mono (Nat.div_le_self (n / b ^ k) b); omega
      have hbv1 := hbv.keep hb1 (Nat.le_refl _)
      have hsz1 := hb1.size
      go_wp2_with (at_builtin; refine app_u8 rfl _ _ rfl w.heap.size _ k _ rfl hbv1 _ rfl ?_ (by omega) (by omega) ?_; rotate_left; intro v' w2 hown2 hb2 hkb)
      · go_roundw
        case rel =>
          refine ⟨k + 1, hlt, ?_, hown2, hbr.trans ((hb1.mono hsz).trans hb2)⟩
          have hu2 := (hu.keepBut hkb (fun g hg => hbv.block_lt g hg)).nat
          rw [← hstep.out]
          exact hu2
        case measure =>
          have e1 := hbv.lenOf
          have e2 := hown2.lenOf
          omega
      · exact alphI _ hd36
    · obtain rfl : k = dlen b n := by omega
      have hz : ¬ 0 < nlen (n / b ^ dlen b n) := by
        rw [(dlen_div b n (dlen b n) hb2).2 (Nat.le_refl _)]; decide
      obtain ⟨ba, bc, rfl⟩ := hbv.shape
      have hbv0 := hbv.congr (g := revF b n 0) (fun t ht => by unfold revF; rw [if_neg (by omega)])
      clear hbv hav hlt hk
      obtain ⟨wo, rfl⟩ : ∃ wo : World, wo = wr := ⟨_, rfl⟩
      go_wp2
      go_loopw [28] (fun iv wr => ∃ i : Nat, iv = .int .i64 i ∧ i ≤ dlen b n / 2 ∧ Own .u8 5 wr w.heap.size (.slice ba (dlen b n) bc) (dlen b n) (revF b n i) ∧ Below w.heap.size w wr)
        (fun iv _ => dlen b n / 2 - (intOf iv).toNat)
      case atStart => exact ⟨0, rfl, Nat.zero_le _, hbv0, hbr⟩
      case round =>
        obtain ⟨i, rfl, hi, hown, hbw⟩ := hrel
        clear hbv0 hbr
        by_cases hlt2 : i < dlen b n / 2
        · obtain ⟨g, rfl⟩ := hown.addr (by omega)
          have hc1 := hown.cell i (by omega)
          have hc2 := hown.cell (dlen b n - 1 - i) (by omega)
          have hf1 := hown.free i
          have hf2 := hown.free (dlen b n - 1 - i)
          rw [revF_low b n i hlt2] at hc1
          rw [revF_high b n i hlt2] at hc2
          have hne : i < dlen b n - 1 - i := by omega
          go_wp2
          go_region
          all_goals
            go_wp2
            go_roundw
            case rel =>
              have hs := (hown.store i (chN (dgt b n (dlen b n - 1 - i)))).store (dlen b n - 1 - i) (chN (dgt b n i))
              have hs2 : Own .u8 5 _ w.heap.size _ _ (revF b n (i + 1)) := hs.congr (fun t ht => revF_succ b n i t hlt2 ht)
              have hge := hown.base_le
              exact ⟨i + 1, by go_num, by omega, hs2, ((hbw.setCell (p := ⟨g, i, none⟩) hge _).setCell (p := ⟨g, dlen b n - 1 - i, none⟩) hge _).drew⟩
            case measure => simp [intOf] <;> omega
        · obtain rfl : i = dlen b n / 2 := by omega
          have hrun := run_str_of wr _ _ b n (hown.congr (fun t ht => revF_end b n t ht)) hb2 hb36
          go_wp2
          go_ret
          exact ⟨rfl, hbw⟩
end Go.Proofs.YtkhgoeippamobaaGreatDoor
/-
  The iterator over the digits of two numbers.
-/
namespace Go.Proofs.YtkhgoeippamobaaGreatDoor
open Go.RowKit Go.Shelf
attribute [local go_sem] Oper.semAt_some
/-- the value of a pair of digits -/
def encP (x : Nat × Nat) : Array Value := #[.int .u64 ((x.1 % 4294967296 : Nat) : Int), .int .u64 ((x.2 % 4294967296 : Nat) : Int)]
/-- the pairs that come in k rounds -/
def pairs (m n k : Nat) : List (Nat × Nat) := (List.range k).map fun i => (D m i, D n i)
theorem pairs_succ (m n k : Nat) : pairs m n (k + 1) = pairs m n k ++ [(D m k, D n k)] := by simp [pairs, List.range_succ]
theorem pairs_length (m n k : Nat) : (pairs m n k).length = k := by simp [pairs]
/-- what a round keeps: what lies below, and the iterator's two boxes -/
def KpD (B p q : Nat) (W W' : World) : Prop := Below B W W' ∧ W'.heap[p]? = W.heap[p]? ∧ W'.heap[q]? = W.heap[q]?
theorem KpD.refl (B p q : Nat) (W : World) : KpD B p q W W := ⟨Below.refl _ _, rfl, rfl⟩
theorem KpD.trans {B p q : Nat} {X Y Z : World} (h : KpD B p q X Y) (k : KpD B p q Y Z) : KpD B p q X Z := ⟨h.1.trans k.1, k.2.1.trans h.2.1, k.2.2.trans h.2.2⟩
set_option maxRecDepth 100000 in
set_option maxHeartbeats 2000000 in
theorem digits1_in (l B p q m n : Nat) (v u : Value) (hm : nlen m ≤ 100000000) (hn : nlen n ≤ 100000000) (J Jx : List (Nat × Nat) → World → Prop) (W : World) (N : Nat)
    (hY : ∀ pre x W1, J pre W1 → pre.length < max (nlen m) (nlen n) + 1 → YieldAt Fence.wide (N - 1) Tryz.prog l (encP x) W1 fun e W' => (e = .returned (.bool true) ∧ J (pre ++ [x]) W' ∧ KpD B p q W1 W') ∨ (e = .returned (.bool false) ∧ Jx (pre ++ [x]) W'))
    (hp : Boxed W p 47 v) (hq : Boxed W q 47 u) (hv : Row .u32 W v (nlen m) (D m)) (hu : Row .u32 W u (nlen n) (D n))
    (hvB : ∀ W', KpD B p q W W' → NatRep W' v m) (huB : ∀ W', KpD B p q W W' → NatRep W' u n) (hJd : ∀ s W1, J s W1 → J s W1.drew) (h0 : J [] W) :
    CallsIn Fence.wide N Tryz.prog 145 #[.func (.yield l) #[] #[], .pointer (some ⟨p, 0, none⟩), .pointer (some ⟨q, 0, none⟩)] W fun e W' => (∃ v, e = .returned v) ∧ (J (pairs m n (max (nlen m) (nlen n) + 1)) W' ∨ ∃ pre, Jx pre W') := by
  obtain ⟨a, cap, rfl, _⟩ := hv
  obtain ⟨a', cap', rfl, _⟩ := hu
  have hpc := hp.cell
  have hqc := hq.cell
  refine callsIn_of_wp Tryz.func145 rfl trivial ?_ rfl
  simp only [Tryz.ntmps145, List.size_toArray, List.length_cons, List.length_nil, Nat.reduceAdd, Nat.reduceSub, Array.replicate_succ, Array.replicate_zero, List.push_toArray, List.append_toArray, List.nil_append, List.cons_append]
  gi_wp2
  gi_loopw [4, 11] (fun _ i wr => ∃ k : Nat, k ≤ max (nlen m) (nlen n) + 1 ∧ i = .int .i64 k ∧ J (pairs m n k) wr ∧ KpD B p q W wr)
    (fun _ i _ => max (nlen m) (nlen n) + 1 - (intOf i).toNat)
  case atStart => exact ⟨0, Nat.zero_le _, rfl, h0, KpD.refl _ _ _ _⟩
  case round =>
    obtain ⟨k, hk, rfl, hJ, hkp⟩ := hrel
    have hpc' : wr.cell? ⟨p, 0, none⟩ = some (.slice a (nlen m) cap) := (World.cell?_of_block (a := ⟨p, 0, none⟩) hkp.2.1).trans hpc
    have hqc' : wr.cell? ⟨q, 0, none⟩ = some (.slice a' (nlen n) cap') := (World.cell?_of_block (a := ⟨q, 0, none⟩) hkp.2.2).trans hqc
    by_cases hlt : k < max (nlen m) (nlen n) + 1
    · obtain ⟨fn, tmps, assign, body, hy, hR⟩ := hY _ (D m k, D n k) wr.drew (hJd _ _ hJ) (by rw [pairs_length]; exact hlt)
      have hv' := hvB wr hkp
      have hu' := huB wr hkp
      have hd1 := D_lt m k
      have hd2 := D_lt n k
      unfold encP at hy
      dsimp only at hy
      rw [Nat.mod_eq_of_lt hd1, Nat.mod_eq_of_lt hd2] at hy
      have hw1 := wrap_u64_nat (D m k) (by omega)
      have hw2 := wrap_u64_nat (D n k) (by omega)
      gi_wp2_with fail
      have hmx : Tryz.prog.follows .mixedOrders = true := by kernel_rfl
      have hv2 : NatRep wr.drew (.slice a (nlen m) cap) m := hv'.below (Below.refl _ _).drew
      have hu2 : NatRep wr.drew (.slice a' (nlen n) cap') n := hu'.below (Below.refl _ _).drew
      have HR := hid (RoundIn.mono hR (R' := fun e W' => ∃ t : Bool, e = .returned (.bool t) ∧ Hid ((t = true ∧ J (pairs m n k ++ [(D m k, D n k)]) W' ∧ KpD B p q wr.drew W') ∨ (t = false ∧ Jx (pairs m n k ++ [(D m k, D n k)]) W'))) (by
        rintro e W' (⟨rfl, h⟩ | ⟨rfl, h⟩)
        · exact ⟨true, rfl, .inl ⟨rfl, h⟩⟩
        · exact ⟨false, rfl, .inr ⟨rfl, h⟩⟩))
      clear hR
      have c1 := hid (callsIn_wide (n := N - 1).2 (at_nat hv2 (by omega) k (by omega) (by omega)))
      have c2 := hid (callsIn_wide (n := N - 1).2 (at_nat hu2 (by omega) k (by omega) (by omega)))
      gi_region_with_o (first | (refine ⟨trivial, fun h => by (cases h), ?_⟩; gi_at_call 118; (with_reducible refine c1.out.mono ?_); rintro e w' ⟨rfl, rfl⟩; rw [Int.toNat_natCast]) | (refine ⟨trivial, fun h => by (cases h), ?_⟩; gi_at_call 118; (with_reducible refine c2.out.mono ?_); rintro e w' ⟨rfl, rfl⟩; rw [Int.toNat_natCast]) | (refine ⟨fun h => by (cases h), ?_⟩; (with_reducible refine HR.out.mono ?_); rintro e W3 ⟨t, rfl, h3⟩))
      all_goals
        clear hy c1 c2 HR hv' hu' hv2 hu2 hpc' hqc'
        rcases h3.out with ⟨rfl, hJ3, hk3⟩ | ⟨rfl, hJx3⟩
        · have hk4 : KpD B p q W W3 := hkp.trans (KpD.trans (⟨(Below.refl B wr).drew, rfl, rfl⟩ : KpD B p q wr wr.drew) hk3)
          have hJ4 : J (pairs m n (k + 1)) W3 := by rw [pairs_succ]; exact hJ3
          clear h3 hk3 hJ3
          gi_wp2
          go_roundw
          case rel => exact ⟨k + 1, by omega, by go_num, hJ4, hk4⟩
          case measure => simp [intOf] <;> omega
        · clear h3
          gi_wp2
          refine bodyPost_ret (results_none rfl _ _ _) rfl ?_
          exact ⟨⟨_, rfl⟩, .inr ⟨_, hJx3⟩⟩
    · obtain rfl : k = max (nlen m) (nlen n) + 1 := by omega
      gi_wp2
      go_end0
      exact ⟨⟨_, rfl⟩, .inl hJ⟩
set_option maxHeartbeats 1000000 in
theorem digits_any (a a' : Option Addr) (n n' cap cap' : Nat) (w : World) :
    Calls Tryz.prog 135 #[.slice a n cap, .slice a' n' cap'] w fun e w' => e = .returned (.func (.func 145) #[] #[.pointer (some ⟨w.heap.size, 0, none⟩), .pointer (some ⟨w.heap.size + 1, 0, none⟩)]) ∧ (w.alloc (.cells #[.slice a n cap] 47)).alloc (.cells #[.slice a' n' cap'] 47) = w' := by
  go_enter Tryz.func135, Tryz.ntmps135
  go_wp2
  go_ret
  exact ⟨rfl, rfl⟩
/-- **the iterator over the digits of m and n** hands all pairs, to whatever body that keeps what lies below B and the two boxes and never stops -/
theorem digits_stops {B p q m n : Nat} {v u : Value} {w : World} (hm : nlen m ≤ 100000000) (hn : nlen n ≤ 100000000) (N : Nat)
    (hp : Boxed w p 47 v) (hq : Boxed w q 47 u) (hv : ∀ W', Below B w W' → NatRep W' v m) (hu : ∀ W', Below B w W' → NatRep W' u n) (hB : B ≤ w.heap.size) :
    SeqStopsK Fence.wide N Tryz.prog 145 #[.pointer (some ⟨p, 0, none⟩), .pointer (some ⟨q, 0, none⟩)] encP (KpD B p q) (fun xs => xs = pairs m n (max (nlen m) (nlen n) + 1)) (fun _ => True) (max (nlen m) (nlen n) + 1) w := by
  intro l J Jx W hW hJ hJx hY h0
  have hp' := (hW.block p hp.lt).trans hp
  have hq' := (hW.block q hq.lt).trans hq
  refine (digits1_in l B p q m n v u hm hn J Jx W N hY hp' hq' (hv W (hW.mono hB)) (hu W (hW.mono hB)) (fun W' hk => hv W' ((hW.mono hB).trans hk.1)) (fun W' hk => hu W' ((hW.mono hB).trans hk.1))
    (fun s W1 h => hJ s W1 W1.drew none h ⟨rfl, rfl, rfl, Nat.le_refl _, fun _ _ _ => rfl⟩ (fun r e => by cases e)) h0).mono ?_
  rintro e W' ⟨he, h | ⟨pre, h⟩⟩
  · exact ⟨he, .inl ⟨_, rfl, h⟩⟩
  · exact ⟨he, .inr ⟨pre, trivial, h⟩⟩
end Go.Proofs.YtkhgoeippamobaaGreatDoor
/-
  Sums and differences of digits, in the order in which they come (no program in sight).
-/
namespace Go.Proofs.YtkhgoeippamobaaGreatDoor
/-- the sum of the pairs that have come -/
def sumP : List (Nat × Nat) → Nat
  | [] => 0
  | x :: l => (x.1 % 4294967296 + x.2 % 4294967296) + 4294967296 * sumP l
theorem sumP_snoc (l : List (Nat × Nat)) (x : Nat × Nat) : sumP (l ++ [x]) = sumP l + 2 ^ (32 * l.length) * (x.1 % 4294967296 + x.2 % 4294967296) := by
  induction l with
  | nil => simp [sumP]
  | cons y l ih =>
    show _ + 4294967296 * sumP (l ++ [x]) = _ + 4294967296 * sumP l + _
    rw [ih, List.length_cons, pow32_succ, Nat.mul_add, Nat.mul_comm (2 ^ (32 * l.length)) 4294967296, Nat.mul_assoc]
    omega
theorem sumP_lt (l : List (Nat × Nat)) : sumP l + 2 ≤ 2 * 2 ^ (32 * l.length) := by
  induction l with
  | nil => simp [sumP]
  | cons y l ih =>
    show _ + 4294967296 * sumP l + 2 ≤ _
    rw [List.length_cons, pow32_succ]
    have h1 : y.1 % 4294967296 < 4294967296 := Nat.mod_lt _ (by decide)
    have h2 : y.2 % 4294967296 < 4294967296 := Nat.mod_lt _ (by decide)
    omega
/-- the carry behind the pairs -/
def carP (l : List (Nat × Nat)) : Nat := sumP l / 2 ^ (32 * l.length)
theorem carP_le (l : List (Nat × Nat)) : carP l ≤ 1 := by
  have := sumP_lt l
  unfold carP
  have : sumP l / 2 ^ (32 * l.length) < 2 := by
    rw [Nat.div_lt_iff_lt_mul (pow32_pos _)]; omega
  omega
def tP (l : List (Nat × Nat)) (x : Nat × Nat) : Nat := carP l + (x.1 % 4294967296 + x.2 % 4294967296)
theorem tP_eq (l : List (Nat × Nat)) (x : Nat × Nat) : tP l x = sumP (l ++ [x]) / 2 ^ (32 * l.length) := by
  rw [sumP_snoc, Nat.add_mul_div_left _ _ (pow32_pos _)]
  rfl
theorem tP_div (l : List (Nat × Nat)) (x : Nat × Nat) : tP l x / 4294967296 = carP (l ++ [x]) := by
  rw [tP_eq]
  unfold carP
  rw [List.length_append, List.length_singleton, pow32_succ, Nat.div_div_eq_div_mul]
theorem tP_mod (l : List (Nat × Nat)) (x : Nat × Nat) : tP l x % 4294967296 = D (sumP (l ++ [x])) l.length := by
  rw [tP_eq]
  rfl
theorem tP_low (l : List (Nat × Nat)) (x : Nat × Nat) (i : Nat) (h : i < l.length) : D (sumP l) i = D (sumP (l ++ [x])) i := by
  apply D_congr
  rw [sumP_snoc]
  have e : 2 ^ (32 * l.length) = 2 ^ (32 * (i + 1)) * 2 ^ (32 * (l.length - (i + 1))) := by rw [← Nat.pow_add]; congr 1; omega
  rw [e, Nat.mul_assoc, Nat.add_mul_mod_self_left]
theorem sumP_pairs (m n k : Nat) : sumP ((List.range k).map fun i => (D m i, D n i)) = m % 2 ^ (32 * k) + n % 2 ^ (32 * k) := by
  induction k with
  | zero => simp [sumP, Nat.mod_one]
  | succ k ih =>
    rw [List.range_succ, List.map_append, List.map_cons, List.map_nil, sumP_snoc, ih, List.length_map, List.length_range, mod_split m k, mod_split n k]
    have h1 := D_lt m k
    have h2 := D_lt n k
    rw [Nat.mod_eq_of_lt h1, Nat.mod_eq_of_lt h2, Nat.mul_add]
    omega
theorem sum_lt (m n : Nat) : m + n < 2 ^ (32 * (max (nlen m) (nlen n) + 1)) := by
  have h1 := (nlen_le_iff m (max (nlen m) (nlen n))).1 (by omega)
  have h2 := (nlen_le_iff n (max (nlen m) (nlen n))).1 (by omega)
  rw [pow32_succ]
  omega
theorem sumP_all (m n : Nat) : sumP ((List.range (max (nlen m) (nlen n) + 1)).map fun i => (D m i, D n i)) = m + n := by
  rw [sumP_pairs, Nat.mod_eq_of_lt ((nlen_le_iff m _).1 (by omega)), Nat.mod_eq_of_lt ((nlen_le_iff n _).1 (by omega))]
/-- the difference of the pairs that have come -/
def difP : List (Nat × Nat) → Int
  | [] => 0
  | x :: l => ((x.1 % 4294967296 : Nat) : Int) - ((x.2 % 4294967296 : Nat) : Int) + 4294967296 * difP l
theorem difP_snoc (l : List (Nat × Nat)) (x : Nat × Nat) : difP (l ++ [x]) = difP l + ((2 ^ (32 * l.length) : Nat) : Int) * (((x.1 % 4294967296 : Nat) : Int) - ((x.2 % 4294967296 : Nat) : Int)) := by
  induction l with
  | nil => simp [difP]
  | cons y l ih =>
    show _ + 4294967296 * difP (l ++ [x]) = _ + 4294967296 * difP l + _
    rw [ih, List.length_cons, pow32_succ, Int.mul_add, Nat.mul_comm (2 ^ (32 * l.length)) 4294967296, Int.natCast_mul, Int.mul_assoc]
    omega
theorem difP_bound (l : List (Nat × Nat)) : difP l < ((2 ^ (32 * l.length) : Nat) : Int) ∧ -((2 ^ (32 * l.length) : Nat) : Int) < difP l := by
  induction l with
  | nil => simp [difP]
  | cons y l ih =>
    have h1 : y.1 % 4294967296 < 4294967296 := Nat.mod_lt _ (by decide)
    have h2 : y.2 % 4294967296 < 4294967296 := Nat.mod_lt _ (by decide)
    show (_ - _ + 4294967296 * difP l < _) ∧ (_ < _ - _ + 4294967296 * difP l)
    rw [List.length_cons, pow32_succ]
    omega
/-- what is borrowed -/
def borP (l : List (Nat × Nat)) : Nat := if difP l < 0 then 1 else 0
/-- the digits so far, as a number -/
def lowP (l : List (Nat × Nat)) : Nat := (difP l + ((2 ^ (32 * l.length) : Nat) : Int) * (borP l : Int)).toNat
theorem borP_le (l : List (Nat × Nat)) : borP l ≤ 1 := by unfold borP; split <;> omega
theorem lowP_eq (l : List (Nat × Nat)) : (lowP l : Int) = difP l + ((2 ^ (32 * l.length) : Nat) : Int) * (borP l : Int) := by
  have h := difP_bound l
  unfold lowP borP
  split <;> omega
theorem lowP_lt (l : List (Nat × Nat)) : lowP l < 2 ^ (32 * l.length) := by
  have h := difP_bound l
  have h1 := lowP_eq l
  unfold borP at h1
  split at h1 <;> omega
/-- the difference of a round, as 64 bits -/
def dP (l : List (Nat × Nat)) (x : Nat × Nat) : Nat := ((((x.1 % 4294967296 : Nat) : Int) - ((x.2 % 4294967296 : Nat) : Int) - (borP l : Int)) % 18446744073709551616).toNat
theorem dP_wrap (l : List (Nat × Nat)) (x : Nat × Nat) : IntKind.u64.wrap (IntKind.u64.wrap (((x.1 % 4294967296 : Nat) : Int) - ((x.2 % 4294967296 : Nat) : Int)) - (borP l : Int)) = (dP l x : Int) := by
  simp only [IntKind.wrap_u64]
  unfold dP
  omega
theorem dP_bor (l : List (Nat × Nat)) (x : Nat × Nat) : (dP l x : Int) / 9223372036854775808 = (borP (l ++ [x]) : Int) ∧
    difP (l ++ [x]) = (lowP l : Int) + ((2 ^ (32 * l.length) : Nat) : Int) * (((x.1 % 4294967296 : Nat) : Int) - ((x.2 % 4294967296 : Nat) : Int) - (borP l : Int)) := by
  have h1 : x.1 % 4294967296 < 4294967296 := Nat.mod_lt _ (by decide)
  have h2 : x.2 % 4294967296 < 4294967296 := Nat.mod_lt _ (by decide)
  have h3 := difP_snoc l x
  have h4 := lowP_eq l
  have h5 := lowP_lt l
  have h6 := borP_le l
  have h7 := pow32_pos l.length
  have hd : (dP l x : Int) = (((x.1 % 4294967296 : Nat) : Int) - ((x.2 % 4294967296 : Nat) : Int) - (borP l : Int)) % 18446744073709551616 := by unfold dP; omega
  generalize x.1 % 4294967296 = p at *
  generalize x.2 % 4294967296 = q at *
  generalize 2 ^ (32 * l.length) = P at *
  generalize borP l = b at *
  have e : difP (l ++ [x]) = (lowP l : Int) + (P : Int) * ((p : Int) - (q : Int) - (b : Int)) := by
    rw [h3, h4, Int.mul_sub (P : Int) ((p : Int) - q) b]
    omega
  refine ⟨?_, e⟩
  unfold borP
  by_cases hn : (p : Int) - q - b < 0
  · have h8 : (P : Int) * ((p : Int) - q - b) ≤ (P : Int) * (-1) := Int.mul_le_mul_of_nonneg_left (by omega) (by omega)
    rw [if_pos (by omega)]
    omega
  · have h8 : 0 ≤ (P : Int) * ((p : Int) - q - b) := Int.mul_nonneg (by omega) (by omega)
    rw [if_neg (by omega)]
    omega
theorem lowP_snoc (l : List (Nat × Nat)) (x : Nat × Nat) : lowP (l ++ [x]) = lowP l + 2 ^ (32 * l.length) * (dP l x % 4294967296) := by
  have h := dP_bor l x
  have h0 := lowP_eq (l ++ [x])
  have h1 : x.1 % 4294967296 < 4294967296 := Nat.mod_lt _ (by decide)
  have h2 : x.2 % 4294967296 < 4294967296 := Nat.mod_lt _ (by decide)
  have h6 := borP_le l
  have hd : (dP l x : Int) = (((x.1 % 4294967296 : Nat) : Int) - ((x.2 % 4294967296 : Nat) : Int) - (borP l : Int)) % 18446744073709551616 := by unfold dP; omega
  rw [List.length_append, List.length_singleton, pow32_succ, h.2, ← h.1] at h0
  generalize x.1 % 4294967296 = p at *
  generalize x.2 % 4294967296 = q at *
  generalize borP l = b at *
  have e : ((dP l x % 4294967296 : Nat) : Int) = (p : Int) - q - b + 4294967296 * ((dP l x : Int) / 9223372036854775808) := by omega
  have h9 : (lowP (l ++ [x]) : Int) = (lowP l : Int) + ((2 ^ (32 * l.length) : Nat) : Int) * ((dP l x % 4294967296 : Nat) : Int) := by
    have e2 : ((2 ^ (32 * l.length) * 4294967296 : Nat) : Int) = ((2 ^ (32 * l.length) : Nat) : Int) * 4294967296 := by rw [Int.natCast_mul]; rfl
    rw [h0, e, e2, Int.mul_add, Int.mul_assoc]
    omega
  rw [← Int.natCast_mul, ← Int.natCast_add] at h9
  exact Int.ofNat_inj.1 h9
theorem dP_mod (l : List (Nat × Nat)) (x : Nat × Nat) : dP l x % 4294967296 = D (lowP (l ++ [x])) l.length := by
  unfold D
  rw [lowP_snoc, Nat.add_mul_div_left _ _ (pow32_pos _), Nat.div_eq_of_lt (lowP_lt l), Nat.zero_add, Nat.mod_mod]
theorem lowP_low (l : List (Nat × Nat)) (x : Nat × Nat) (i : Nat) (h : i < l.length) : D (lowP l) i = D (lowP (l ++ [x])) i := by
  apply D_congr
  rw [lowP_snoc]
  have e : 2 ^ (32 * l.length) = 2 ^ (32 * (i + 1)) * 2 ^ (32 * (l.length - (i + 1))) := by rw [← Nat.pow_add]; congr 1; omega
  rw [e, Nat.mul_assoc, Nat.add_mul_mod_self_left]
theorem difP_pairs (m n k : Nat) : difP ((List.range k).map fun i => (D m i, D n i)) = ((m % 2 ^ (32 * k) : Nat) : Int) - ((n % 2 ^ (32 * k) : Nat) : Int) := by
  induction k with
  | zero => simp [difP, Nat.mod_one]
  | succ k ih =>
    rw [List.range_succ, List.map_append, List.map_cons, List.map_nil, difP_snoc, ih, List.length_map, List.length_range, mod_split m k, mod_split n k]
    have h1 := D_lt m k
    have h2 := D_lt n k
    show _ + _ * (((D m k % 4294967296 : Nat) : Int) - ((D n k % 4294967296 : Nat) : Int)) = _
    rw [Nat.mod_eq_of_lt h1, Nat.mod_eq_of_lt h2, Int.mul_sub, Int.natCast_add, Int.natCast_add, Int.natCast_mul, Int.natCast_mul]
    omega
theorem lowP_all (m n : Nat) (h : n ≤ m) : lowP ((List.range (max (nlen m) (nlen n) + 1)).map fun i => (D m i, D n i)) = m - n := by
  have h1 := difP_pairs m n (max (nlen m) (nlen n) + 1)
  rw [Nat.mod_eq_of_lt ((nlen_le_iff m _).1 (by omega)), Nat.mod_eq_of_lt ((nlen_le_iff n _).1 (by omega))] at h1
  unfold lowP borP
  rw [h1, if_neg (by omega)]
  omega
end Go.Proofs.YtkhgoeippamobaaGreatDoor
/-
  The sum of two numbers.
-/
namespace Go.Proofs.YtkhgoeippamobaaGreatDoor
open Go.RowKit Go.Shelf
attribute [local go_sem] Oper.semAt_some
theorem kpD_b {B p q : Nat} {w : World} (hB : B ≤ w.heap.size) (hp : p < w.heap.size) (hq : q < w.heap.size) (W : World) (l : Nat) (o o' : Obj) (hl : w.heap.size ≤ l) (h : W.heap[l]? = some o) (h1 : o.isCells = false) (h2 : o.isWalk = false) : KpD B p q W (W.putObj l o') :=
  ⟨belowK_b hB W l o o' hl h h1 h2, World.putObj_heap_other (by omega), World.putObj_heap_other (by omega)⟩
theorem boxed_own' {β : Type} (B : Nat) (t : TypeId) (f : β → Value) : Go.Own (fun s W => Boxed W B t (f s)) := by
  rintro s X Y row hv hg hrow
  refine Boxed.kept hv hg (fun e' => ?_)
  obtain ⟨o, ho, hc⟩ := hrow B e'.symm
  rw [show X.heap[B]? = _ from hv] at ho; cases ho; cases hc
/-- between two rounds of the sum: the digits so far, the carry -/
def PlusAt (w : World) (va vb : Value) (pre : List (Nat × Nat)) (W : World) : Prop :=
  (((∃ v, Boxed W w.heap.size 47 v ∧ W.ownsRow w.heap.size 75 1 v pre.length (cellsK .u32 (D (sumP pre)) pre.length) ∧ True) ∧ Boxed W (w.heap.size + 1) 98 (.int .u64 (carP pre))) ∧ (Boxed W (w.heap.size + 1 + 1) 47 va ∧ Boxed W (w.heap.size + 1 + 1 + 1) 47 vb)) ∧ Below w.heap.size w W
set_option maxRecDepth 100000 in
set_option maxHeartbeats 2000000 in
theorem plus_nat {v u : Value} {m n : Nat} {w : World} (hv : NatRep w v m) (hu : NatRep w u n) (hm : nlen m ≤ 100000000) (hn : nlen n ≤ 100000000) :
    Calls Tryz.prog 112 #[v, u] w (Fresh (m + n) w) := by
  obtain ⟨a, cap, rfl⟩ := hv.shape
  obtain ⟨a', cap', rfl⟩ := hu.shape
  refine (callsIn_wide (n := 5)).1 ?_
  refine callsIn_of_wp_marks Tryz.func112 rfl trivial ?_ rfl
  simp only [Tryz.ntmps112, List.size_toArray, List.length_cons, List.length_nil, Nat.reduceAdd, Nat.reduceSub, Array.replicate_succ, Array.replicate_zero, List.push_toArray, List.append_toArray, List.nil_append, List.cons_append]
  gi_wp2_with (refine ⟨trivial, ?_⟩; gi_at_call 135; refine (callsIn_wide.2 (digits_any _ _ _ _ _ _ _)).mono ?_; rintro e w' ⟨rfl, rfl⟩)
  obtain ⟨i0, hi, hz0, hz1, hz2⟩ := info_parts Tryz.info75
  have bO := Boxed.new w 47 (.slice none 0 0)
  have bC := Boxed.new (w.alloc (.cells #[.slice none 0 0] 47)) 98 (.int .u64 0)
  have bA := Boxed.new ((w.alloc (.cells #[.slice none 0 0] 47)).alloc (.cells #[.int .u64 0] 98)) 47 (.slice a (nlen m) cap)
  have bB := Boxed.new (((w.alloc (.cells #[.slice none 0 0] 47)).alloc (.cells #[.int .u64 0] 98)).alloc (.cells #[.slice a (nlen m) cap] 47)) 47 (.slice a' (nlen n) cap')
  simp only [World.size_alloc] at bC bA bB
  have hB0 : Below w.heap.size w ((((w.alloc (.cells #[.slice none 0 0] 47)).alloc (.cells #[.int .u64 0] 98)).alloc (.cells #[.slice a (nlen m) cap] 47)).alloc (.cells #[.slice a' (nlen n) cap'] 47)) :=
    ((((Below.refl _ w).alloc (Nat.le_refl _) _).alloc (by simp) _).alloc (by simp; omega) _).alloc (by simp; omega) _
  obtain ⟨W0, hW0⟩ : ∃ W0, ((((w.alloc (.cells #[.slice none 0 0] 47)).alloc (.cells #[.int .u64 0] 98)).alloc (.cells #[.slice a (nlen m) cap] 47)).alloc (.cells #[.slice a' (nlen n) cap'] 47)) = W0 := ⟨_, rfl⟩
  have hs0 : W0.heap.size = w.heap.size + 4 := by rw [← hW0]; simp
  have bO0 : Boxed W0 w.heap.size 47 (.slice none 0 0) := by rw [← hW0]; exact ((bO.alloc _).alloc _).alloc _
  have bC0 : Boxed W0 (w.heap.size + 1) 98 (.int .u64 0) := by rw [← hW0]; exact (bC.alloc _).alloc _
  have bA0 : Boxed W0 (w.heap.size + 1 + 1) 47 (.slice a (nlen m) cap) := by rw [← hW0]; exact bA.alloc _
  have bB0 : Boxed W0 (w.heap.size + 1 + 1 + 1) 47 (.slice a' (nlen n) cap') := by rw [← hW0]; exact bB
  rw [hW0] at hB0 ⊢
  clear bO bC bA bB hW0
  refine wpIn_rangeFunc_ownF rfl (by omega) (gf := 145) (lb := #[.pointer (some ⟨w.heap.size + 1 + 1, 0, none⟩), .pointer (some ⟨w.heap.size + 1 + 1 + 1, 0, none⟩)]) rfl trivial (enters_of Tryz.func145 (by kernel_rfl) rfl)
    (digits_stops (B := w.heap.size) hm hn _ bA0 bB0 (fun W' h => hv.below (hB0.trans h)) (fun W' h => hu.below (hB0.trans h)) (by omega)) KpD.trans (kpD_b (by omega) (by omega) (by omega)) (Below.refl _ _) (fun _ => rfl)
    (PlusAt w (.slice a (nlen m) cap) (.slice a' (nlen n) cap')) (fun _ _ _ => False)
    (OwnFrom.and (OwnFrom.and (OwnFrom.and (Go.Own.from (holdsRow_own w.heap.size w.heap.size 47 75 1 (fun pre => pre.length) (fun pre => cellsK .u32 (D (sumP pre)) pre.length) (fun _ _ => True)) _) (Go.Own.from (boxed_own' (w.heap.size + 1) 98 (fun pre => .int .u64 (carP pre))) _)) (OwnFrom.and (Go.Own.from (boxed_own' (w.heap.size + 1 + 1) 47 (fun _ => .slice a (nlen m) cap)) _) (Go.Own.from (boxed_own' (w.heap.size + 1 + 1 + 1) 47 (fun _ => .slice a' (nlen n) cap')) _))) (ownFrom_below (Nat.le_refl _) (by omega)))
    (fun _ _ _ _ _ hs _ _ => hs)
    ⟨⟨⟨⟨_, bO0, World.ownsRow_nil _ _ _ _, trivial⟩, bC0⟩, bA0, bB0⟩, hB0⟩
    (fun x => { tmps := #[.slice a (nlen m) cap, .slice a' (nlen n) cap', undef, undef, .slice none 0 0, .pointer (some ⟨w.heap.size, 0, none⟩), .pointer (some ⟨w.heap.size + 1, 0, none⟩), .int .u64 ((x.1 % 4294967296 : Nat) : Int), .int .u64 ((x.2 % 4294967296 : Nat) : Int), .slice a (nlen m) cap, .slice a' (nlen n) cap', .func (.func 145) #[] #[.pointer (some ⟨w.heap.size + 1 + 1, 0, none⟩), .pointer (some ⟨w.heap.size + 1 + 1 + 1, 0, none⟩)], .int .u64 ((x.1 % 4294967296 : Nat) : Int), .int .u64 ((x.2 % 4294967296 : Nat) : Int), undef, undef, undef, undef, undef, undef, undef, undef, undef, undef, undef, undef, undef, undef], defers := [] }) ?assign ?body ?done ?stop
  case assign =>
    intro l x W K hK
    unfold encP
    gi_wp2
    exact hK
  case body =>
    rintro l pre x W ⟨⟨⟨⟨v, hv', hrow, _⟩, hcar⟩, hbA, hbB⟩, hB⟩ hlt
    have hp1 : x.1 % 4294967296 < 4294967296 := Nat.mod_lt _ (by decide)
    have hp2 : x.2 % 4294967296 < 4294967296 := Nat.mod_lt _ (by decide)
    have hc1 := carP_le pre
    have hT : tP pre x = carP pre + (x.1 % 4294967296 + x.2 % 4294967296) := rfl
    generalize x.1 % 4294967296 = p1 at *
    generalize x.2 % 4294967296 = p2 at *
    have hw1 : ((carP pre : Nat) : Int) + ((p1 : Int) + (p2 : Int)) = ((tP pre x : Nat) : Int) := by omega
    have hw2 : ((tP pre x : Nat) : Int) % 4294967296 = ((D (sumP (pre ++ [x])) pre.length : Nat) : Int) := by rw [← tP_mod]; omega
    have hw3 : ((tP pre x : Nat) : Int) / 4294967296 = ((carP (pre ++ [x]) : Nat) : Int) := by rw [← tP_div]; omega
    have htl : tP pre x < 8589934593 := by omega
    clear hT
    have hcO := hv'.cell
    have hcC := hcar.cell
    have hfC := hcar.frozen
    obtain ⟨W1, hW1⟩ : ∃ W1, W.setCell ⟨w.heap.size + 1, 0, none⟩ (.int .u64 ((tP pre x : Nat) : Int)) = W1 := ⟨_, rfl⟩
    have HW1 := hid hW1
    have hs1 : W1.heap.size = W.heap.size := by rw [← hW1]; simp
    have hg1 : W.grownBy W1 (some (w.heap.size + 1)) := by rw [← hW1]; exact grownBy_setCell' _ _ _
    have hv1 : Boxed W1 w.heap.size 47 v := hv'.kept hg1 (by simp)
    have hcar1 : Boxed W1 (w.heap.size + 1) 98 (.int .u64 ((tP pre x : Nat) : Int)) := by rw [← hW1]; exact hcar.set _
    have hrow1 : W1.ownsRow w.heap.size 75 1 v pre.length (cellsK .u32 (D (sumP pre)) pre.length) := hrow.kept hg1 (.inr (hcar.not_row (by decide) hrow).symm)
    have hbA1 := hbA.kept hg1 (by simp <;> omega)
    have hbB1 := hbB.kept hg1 (by simp <;> omega)
    have hB1 : Below w.heap.size W W1 := by rw [← hW1]; exact (Below.refl _ _).setCell (p := ⟨w.heap.size + 1, 0, none⟩) (by simp) _
    have hko : KeepsOthers W W1 := by rw [← hW1]; exact KeepsOthers.setCell _ _ _
    clear hW1
    gi_wp2_with (gi_at_builtin; rw [HW1.out]; refine wpListIn_append_own _ rfl _ _ 47 rfl w.heap.size 75 i0 (.int .u32 0) 1 4 Tryz.underlying47 hi hz0 hz1 hz2 rfl (by decide) _ _ _ rfl (hrow1.alloc _) ⟨W.heap.size, 0, none⟩ 1 1 [.int .u32 ((D (sumP (pre ++ [x])) pre.length : Nat) : Int)] rfl rfl (by rw [← hs1]; exact cell_one_new _ _ _) (by simp [Value.oneCell']) (by unfold maxLen; omega) (by omega) (by have := hB.size; simp; omega) ?_; intro v' w1 hown' hgrow _; obtain ⟨g', cap', rfl⟩ := ownsRow_succ hown'; obtain ⟨hv2, hv3, hr3, hk3, hb3⟩ := hv1.appended (by decide) hrow1 (by have := hB.size; omega) (Nat.le_refl _) hown' hgrow; have hc2 := hv2.cell; have hf2 := hv2.frozen; have hcar2 := (hcar1.alloc _).kept hgrow (hcar1.not_row (by decide) hrow1); have hbA2 := (hbA1.alloc _).kept hgrow (hbA1.not_row (by decide) hrow1); have hbB2 := (hbB1.alloc _).kept hgrow (hbB1.not_row (by decide) hrow1); clear hgrow; have hc3 := hcar2.cell; have hf3 := hcar2.frozen)
    obtain ⟨w3, hw3e⟩ : ∃ w3, w1.setCell ⟨w.heap.size, 0, none⟩ (.slice (some ⟨g', 0, none⟩) (pre.length + 1) cap') = w3 := ⟨_, rfl⟩
    have gs1 : w1.grownBy w3 (some w.heap.size) := by rw [← hw3e]; exact grownBy_setCell' _ _ _
    rw [hw3e] at hv3 hr3 hk3 hb3 ⊢
    have gs2 : w3.grownBy (w3.setCell ⟨w.heap.size + 1, 0, none⟩ (.int .u64 ((carP (pre ++ [x]) : Nat) : Int))) (some (w.heap.size + 1)) := grownBy_setCell' _ _ _
    have hcar3 := hcar2.kept gs1 (by simp)
    have hA3 := (hbA2.kept gs1 (by simp <;> omega)).kept gs2 (by simp)
    have hB3 := (hbB2.kept gs1 (by simp <;> omega)).kept gs2 (by simp <;> omega)
    have hlow : cellsK .u32 (D (sumP pre)) pre.length ++ [.int .u32 ((D (sumP (pre ++ [x])) pre.length : Nat) : Int)] = cellsK .u32 (D (sumP (pre ++ [x]))) (pre ++ [x]).length := by
      rw [List.length_append, List.length_singleton, cellsK_succ, cellsK_congr _ _ _ _ (fun i hi => tP_low pre x i hi)]
    have hb4 : Below w.heap.size W (w3.setCell ⟨w.heap.size + 1, 0, none⟩ (.int .u64 ((carP (pre ++ [x]) : Nat) : Int))) := (hB1.trans hb3).setCell (p := ⟨w.heap.size + 1, 0, none⟩) (by simp) _
    have hr4 := hr3.kept gs2 (.inr (hcar3.not_row (by decide) hr3).symm)
    rw [hlow] at hr4
    refine ⟨hko.trans (hk3.trans (KeepsOthers.setCell _ _ _)), ⟨hb4, hA3.trans hbA.symm, hB3.trans hbB.symm⟩, ⟨⟨⟨⟨.slice (some ⟨g', 0, none⟩) (pre.length + 1) cap', hv3.kept gs2 (by simp), ?_, trivial⟩, hcar3.set _⟩, hA3, hB3⟩, hB.trans hb4⟩⟩
    rw [List.length_append, List.length_singleton] at hr4 ⊢
    exact hr4
  case done =>
    rintro Dd ys W hD rfl ⟨⟨⟨⟨v, hv', hrow, _⟩, hcar⟩, hbA, hbB⟩, hB⟩ hK
    have hcO := hv'.cell
    have hown : Own .u32 75 W w.heap.size v (max (nlen m) (nlen n) + 1) (D (m + n)) := by
      have h1 : sumP (pairs m n (max (nlen m) (nlen n) + 1)) = m + n := sumP_all m n
      rw [pairs_length, h1] at hrow
      exact hrow
    have hcall := hid (callsIn_wide (n := 4).2 (trimmed_own hown (by omega) (sum_lt m n)))
    gi_wp2_with (refine ⟨trivial, ?_⟩; gi_at_call 119; (with_reducible refine hcall.out.mono ?_); rintro e w' ⟨⟨v2, rfl, hown2⟩, rfl⟩)
    refine ⟨by simp, .inl ⟨_, _, rfl, run_takeDeferred hK, ?_⟩⟩
    exact ⟨_, results_tmp rfl _ _ _, v2, rfl, ownsRow_putObj hown2 _ hK rfl, hB.trans (belowK_b (w := w) (Nat.le_refl _) W Dd _ _ (by omega) hK rfl rfl)⟩
  case stop =>
    rintro Dd c pre W _ _ h _
    exact h.elim
end Go.Proofs.YtkhgoeippamobaaGreatDoor
/-
  The difference of two numbers, the first one not below the second.
-/
namespace Go.Proofs.YtkhgoeippamobaaGreatDoor
open Go.RowKit Go.Shelf
attribute [local go_sem] Oper.semAt_some
/-- between two rounds of the sum: the digits so far, the carry -/
def MinusAt (w : World) (va vb : Value) (pre : List (Nat × Nat)) (W : World) : Prop :=
  (((∃ v, Boxed W w.heap.size 47 v ∧ W.ownsRow w.heap.size 75 1 v pre.length (cellsK .u32 (D (lowP pre)) pre.length) ∧ True) ∧ Boxed W (w.heap.size + 1) 98 (.int .u64 (borP pre))) ∧ (Boxed W (w.heap.size + 1 + 1) 47 va ∧ Boxed W (w.heap.size + 1 + 1 + 1) 47 vb)) ∧ Below w.heap.size w W
set_option maxRecDepth 100000 in
set_option maxHeartbeats 2000000 in
theorem minus_nat {v u : Value} {m n : Nat} {w : World} (hv : NatRep w v m) (hu : NatRep w u n) (hm : nlen m ≤ 100000000) (hn : nlen n ≤ 100000000) (hnm : n ≤ m) :
    Calls Tryz.prog 124 #[v, u] w (Fresh (m - n) w) := by
  obtain ⟨a, cap, rfl⟩ := hv.shape
  obtain ⟨a', cap', rfl⟩ := hu.shape
  refine (callsIn_wide (n := 5)).1 ?_
  refine callsIn_of_wp_marks Tryz.func124 rfl trivial ?_ rfl
  simp only [Tryz.ntmps124, List.size_toArray, List.length_cons, List.length_nil, Nat.reduceAdd, Nat.reduceSub, Array.replicate_succ, Array.replicate_zero, List.push_toArray, List.append_toArray, List.nil_append, List.cons_append]
  gi_wp2_with (refine ⟨trivial, ?_⟩; gi_at_call 135; refine (callsIn_wide.2 (digits_any _ _ _ _ _ _ _)).mono ?_; rintro e w' ⟨rfl, rfl⟩)
  obtain ⟨i0, hi, hz0, hz1, hz2⟩ := info_parts Tryz.info75
  have bO := Boxed.new w 47 (.slice none 0 0)
  have bC := Boxed.new (w.alloc (.cells #[.slice none 0 0] 47)) 98 (.int .u64 0)
  have bA := Boxed.new ((w.alloc (.cells #[.slice none 0 0] 47)).alloc (.cells #[.int .u64 0] 98)) 47 (.slice a (nlen m) cap)
  have bB := Boxed.new (((w.alloc (.cells #[.slice none 0 0] 47)).alloc (.cells #[.int .u64 0] 98)).alloc (.cells #[.slice a (nlen m) cap] 47)) 47 (.slice a' (nlen n) cap')
  simp only [World.size_alloc] at bC bA bB
  have hB0 : Below w.heap.size w ((((w.alloc (.cells #[.slice none 0 0] 47)).alloc (.cells #[.int .u64 0] 98)).alloc (.cells #[.slice a (nlen m) cap] 47)).alloc (.cells #[.slice a' (nlen n) cap'] 47)) :=
    ((((Below.refl _ w).alloc (Nat.le_refl _) _).alloc (by simp) _).alloc (by simp; omega) _).alloc (by simp; omega) _
  obtain ⟨W0, hW0⟩ : ∃ W0, ((((w.alloc (.cells #[.slice none 0 0] 47)).alloc (.cells #[.int .u64 0] 98)).alloc (.cells #[.slice a (nlen m) cap] 47)).alloc (.cells #[.slice a' (nlen n) cap'] 47)) = W0 := ⟨_, rfl⟩
  have hs0 : W0.heap.size = w.heap.size + 4 := by rw [← hW0]; simp
  have bO0 : Boxed W0 w.heap.size 47 (.slice none 0 0) := by rw [← hW0]; exact ((bO.alloc _).alloc _).alloc _
  have bC0 : Boxed W0 (w.heap.size + 1) 98 (.int .u64 0) := by rw [← hW0]; exact (bC.alloc _).alloc _
  have bA0 : Boxed W0 (w.heap.size + 1 + 1) 47 (.slice a (nlen m) cap) := by rw [← hW0]; exact bA.alloc _
  have bB0 : Boxed W0 (w.heap.size + 1 + 1 + 1) 47 (.slice a' (nlen n) cap') := by rw [← hW0]; exact bB
  rw [hW0] at hB0 ⊢
  clear bO bC bA bB hW0
  refine wpIn_rangeFunc_ownF rfl (by omega) (gf := 145) (lb := #[.pointer (some ⟨w.heap.size + 1 + 1, 0, none⟩), .pointer (some ⟨w.heap.size + 1 + 1 + 1, 0, none⟩)]) rfl trivial (enters_of Tryz.func145 (by kernel_rfl) rfl)
    (digits_stops (B := w.heap.size) hm hn _ bA0 bB0 (fun W' h => hv.below (hB0.trans h)) (fun W' h => hu.below (hB0.trans h)) (by omega)) KpD.trans (kpD_b (by omega) (by omega) (by omega)) (Below.refl _ _) (fun _ => rfl)
    (MinusAt w (.slice a (nlen m) cap) (.slice a' (nlen n) cap')) (fun _ _ _ => False)
    (OwnFrom.and (OwnFrom.and (OwnFrom.and (Go.Own.from (holdsRow_own w.heap.size w.heap.size 47 75 1 (fun pre => pre.length) (fun pre => cellsK .u32 (D (lowP pre)) pre.length) (fun _ _ => True)) _) (Go.Own.from (boxed_own' (w.heap.size + 1) 98 (fun pre => .int .u64 (borP pre))) _)) (OwnFrom.and (Go.Own.from (boxed_own' (w.heap.size + 1 + 1) 47 (fun _ => .slice a (nlen m) cap)) _) (Go.Own.from (boxed_own' (w.heap.size + 1 + 1 + 1) 47 (fun _ => .slice a' (nlen n) cap')) _))) (ownFrom_below (Nat.le_refl _) (by omega)))
    (fun _ _ _ _ _ hs _ _ => hs)
    ⟨⟨⟨⟨_, bO0, World.ownsRow_nil _ _ _ _, trivial⟩, bC0⟩, bA0, bB0⟩, hB0⟩
    (fun x => { tmps := #[.slice a (nlen m) cap, .slice a' (nlen n) cap', undef, undef, .slice none 0 0, .pointer (some ⟨w.heap.size, 0, none⟩), .pointer (some ⟨w.heap.size + 1, 0, none⟩), .int .u64 ((x.1 % 4294967296 : Nat) : Int), .int .u64 ((x.2 % 4294967296 : Nat) : Int), undef, .slice a (nlen m) cap, .slice a' (nlen n) cap', .func (.func 145) #[] #[.pointer (some ⟨w.heap.size + 1 + 1, 0, none⟩), .pointer (some ⟨w.heap.size + 1 + 1 + 1, 0, none⟩)], .int .u64 ((x.1 % 4294967296 : Nat) : Int), .int .u64 ((x.2 % 4294967296 : Nat) : Int), undef, undef, undef, undef, undef, undef, undef, undef, undef, undef, undef, undef, undef, undef], defers := [] }) ?assign ?body ?done ?stop
  case assign =>
    intro l x W K hK
    unfold encP
    gi_wp2
    exact hK
  case body =>
    rintro l pre x W ⟨⟨⟨⟨v, hv', hrow, _⟩, hcar⟩, hbA, hbB⟩, hB⟩ hlt
    have hp1 : x.1 % 4294967296 < 4294967296 := Nat.mod_lt _ (by decide)
    have hp2 : x.2 % 4294967296 < 4294967296 := Nat.mod_lt _ (by decide)
    have hc1 := borP_le pre
    have hw1 := dP_wrap pre x
    have hw2 : ((dP pre x : Nat) : Int) % 4294967296 = ((D (lowP (pre ++ [x])) pre.length : Nat) : Int) := by rw [← dP_mod]; omega
    have hw3 := (dP_bor pre x).1
    generalize x.1 % 4294967296 = p1 at *
    generalize x.2 % 4294967296 = p2 at *
    have hcO := hv'.cell
    have hcC := hcar.cell
    have hfC := hcar.frozen
    gi_wp2_with (gi_at_builtin; refine wpListIn_append_own _ rfl _ _ 47 rfl w.heap.size 75 i0 (.int .u32 0) 1 4 Tryz.underlying47 hi hz0 hz1 hz2 rfl (by decide) _ _ _ rfl (hrow.alloc _) ⟨W.heap.size, 0, none⟩ 1 1 [.int .u32 ((D (lowP (pre ++ [x])) pre.length : Nat) : Int)] rfl rfl (cell_one_new _ _ _) (by simp [Value.oneCell']) (by unfold maxLen; omega) (by omega) (by have := hB.size; simp; omega) ?_; intro v' w1 hown' hgrow _; obtain ⟨g', cap', rfl⟩ := ownsRow_succ hown'; obtain ⟨hv2, hv3, hr3, hk3, hb3⟩ := hv'.appended (by decide) hrow (by have := hB.size; omega) (Nat.le_refl _) hown' hgrow; have hc2 := hv2.cell; have hf2 := hv2.frozen; have hcar2 := (hcar.alloc _).kept hgrow (hcar.not_row (by decide) hrow); have hbA2 := (hbA.alloc _).kept hgrow (hbA.not_row (by decide) hrow); have hbB2 := (hbB.alloc _).kept hgrow (hbB.not_row (by decide) hrow); clear hgrow; have hc3 := hcar2.cell; have hf3 := hcar2.frozen)
    obtain ⟨w3, hw3e⟩ : ∃ w3, w1.setCell ⟨w.heap.size, 0, none⟩ (.slice (some ⟨g', 0, none⟩) (pre.length + 1) cap') = w3 := ⟨_, rfl⟩
    have gs1 : w1.grownBy w3 (some w.heap.size) := by rw [← hw3e]; exact grownBy_setCell' _ _ _
    rw [hw3e] at hv3 hr3 hk3 hb3 ⊢
    have gs2 : w3.grownBy (w3.setCell ⟨w.heap.size + 1, 0, none⟩ (.int .u64 ((borP (pre ++ [x]) : Nat) : Int))) (some (w.heap.size + 1)) := grownBy_setCell' _ _ _
    have hcar3 := hcar2.kept gs1 (by simp)
    have hA3 := (hbA2.kept gs1 (by simp <;> omega)).kept gs2 (by simp)
    have hB3 := (hbB2.kept gs1 (by simp <;> omega)).kept gs2 (by simp <;> omega)
    have hlow : cellsK .u32 (D (lowP pre)) pre.length ++ [.int .u32 ((D (lowP (pre ++ [x])) pre.length : Nat) : Int)] = cellsK .u32 (D (lowP (pre ++ [x]))) (pre ++ [x]).length := by
      rw [List.length_append, List.length_singleton, cellsK_succ, cellsK_congr _ _ _ _ (fun i hi => lowP_low pre x i hi)]
    have hb4 : Below w.heap.size W (w3.setCell ⟨w.heap.size + 1, 0, none⟩ (.int .u64 ((borP (pre ++ [x]) : Nat) : Int))) := hb3.setCell (p := ⟨w.heap.size + 1, 0, none⟩) (by simp) _
    have hr4 := hr3.kept gs2 (.inr (hcar3.not_row (by decide) hr3).symm)
    rw [hlow] at hr4
    refine ⟨hk3.trans (KeepsOthers.setCell _ _ _), ⟨hb4, hA3.trans hbA.symm, hB3.trans hbB.symm⟩, ⟨⟨⟨⟨.slice (some ⟨g', 0, none⟩) (pre.length + 1) cap', hv3.kept gs2 (by simp), ?_, trivial⟩, hcar3.set _⟩, hA3, hB3⟩, hB.trans hb4⟩⟩
    rw [List.length_append, List.length_singleton] at hr4 ⊢
    exact hr4
  case done =>
    rintro Dd ys W hD rfl ⟨⟨⟨⟨v, hv', hrow, _⟩, hcar⟩, hbA, hbB⟩, hB⟩ hK
    have hcO := hv'.cell
    have hown : Own .u32 75 W w.heap.size v (max (nlen m) (nlen n) + 1) (D (m - n)) := by
      have h1 : lowP (pairs m n (max (nlen m) (nlen n) + 1)) = m - n := lowP_all m n hnm
      rw [pairs_length, h1] at hrow
      exact hrow
    have hcall := hid (callsIn_wide (n := 4).2 (trimmed_own hown (by omega) (Nat.lt_of_le_of_lt (Nat.sub_le m n) (Nat.lt_of_le_of_lt (Nat.le_add_right m n) (sum_lt m n)))))
    gi_wp2_with (refine ⟨trivial, ?_⟩; gi_at_call 119; (with_reducible refine hcall.out.mono ?_); rintro e w' ⟨⟨v2, rfl, hown2⟩, rfl⟩)
    refine ⟨by simp, .inl ⟨_, _, rfl, run_takeDeferred hK, ?_⟩⟩
    exact ⟨_, results_tmp rfl _ _ _, v2, rfl, ownsRow_putObj hown2 _ hK rfl, hB.trans (belowK_b (w := w) (Nat.le_refl _) W Dd _ _ (by omega) hK rfl rfl)⟩
  case stop =>
    rintro Dd c pre W _ _ h _
    exact h.elim
end Go.Proofs.YtkhgoeippamobaaGreatDoor
/-
  Long division bit by bit (no program in sight).
-/
namespace Go.Proofs.YtkhgoeippamobaaGreatDoor
def ovQ (m n j : Nat) : Nat := m / 2 ^ j / n * 2 ^ j
def ovR (m n j : Nat) : Nat := m / 2 ^ j % n
/-- the rest with one bit more -/
def ovT (m n i : Nat) : Nat := ovR m n (i + 1) * 2 + (m.testBit i).toNat
theorem half_split (m i : Nat) : m / 2 ^ i = 2 * (m / 2 ^ (i + 1)) + (m.testBit i).toNat := by
  rw [Nat.testBit_eq_decide_div_mod_eq, Nat.pow_succ, ← Nat.div_div_eq_div_mul]
  generalize m / 2 ^ i = x
  have := Nat.mod_two_eq_zero_or_one x
  rcases this with h | h <;> rw [h] <;> simp <;> omega
theorem ovR_lt (m n j : Nat) (hn : 0 < n) : ovR m n j < n := Nat.mod_lt _ hn
theorem ov_start (m n : Nat) : ovQ m n (nbits m) = 0 ∧ ovR m n (nbits m) = 0 := by
  have h : m / 2 ^ nbits m = 0 := Nat.div_eq_of_lt ((nbits_le_iff m _).1 (Nat.le_refl _))
  unfold ovQ ovR
  rw [h]; simp
theorem ov_end (m n : Nat) : ovQ m n 0 = m / n ∧ ovR m n 0 = m % n := by simp [ovQ, ovR]
theorem ov_step (m n i : Nat) (_hn : 0 < n) : m / 2 ^ i = n * (2 * (m / 2 ^ (i + 1) / n)) + ovT m n i := by
  rw [half_split m i]
  unfold ovT ovR
  have h := Nat.div_add_mod (m / 2 ^ (i + 1)) n
  generalize m / 2 ^ (i + 1) = x at *
  have e : n * (2 * (x / n)) = 2 * (n * (x / n)) := by ac_rfl
  rw [e]
  omega
theorem ov_big (m n i : Nat) (hn : 0 < n) (h : n ≤ ovT m n i) : ovR m n i = ovT m n i - n ∧ ovQ m n i = ovQ m n (i + 1) + 2 ^ i := by
  have h1 := ov_step m n i hn
  have h2 : ovT m n i < 2 * n := by
    have := ovR_lt m n (i + 1) hn
    have := Bool.toNat_le (m.testBit i)
    unfold ovT; omega
  have h3 : m / 2 ^ i = (ovT m n i - n) + n * (2 * (m / 2 ^ (i + 1) / n) + 1) := by rw [h1, Nat.mul_add]; omega
  constructor
  · show m / 2 ^ i % n = _
    rw [h3, Nat.add_mul_mod_self_left, Nat.mod_eq_of_lt (by omega)]
  · show m / 2 ^ i / n * 2 ^ i = m / 2 ^ (i + 1) / n * 2 ^ (i + 1) + 2 ^ i
    rw [h3, Nat.add_mul_div_left _ _ hn, Nat.div_eq_of_lt (by omega), Nat.zero_add, Nat.add_mul, Nat.pow_succ]
    rw [show 2 * (m / (2 ^ i * 2) / n) * 2 ^ i = m / (2 ^ i * 2) / n * (2 ^ i * 2) by ac_rfl, Nat.one_mul]
theorem ov_small (m n i : Nat) (hn : 0 < n) (h : ovT m n i < n) : ovR m n i = ovT m n i ∧ ovQ m n i = ovQ m n (i + 1) := by
  have h1 := ov_step m n i hn
  have h3 : m / 2 ^ i = ovT m n i + n * (2 * (m / 2 ^ (i + 1) / n)) := by rw [h1]; omega
  constructor
  · show m / 2 ^ i % n = _
    rw [h3, Nat.add_mul_mod_self_left, Nat.mod_eq_of_lt h]
  · show m / 2 ^ i / n * 2 ^ i = m / 2 ^ (i + 1) / n * 2 ^ (i + 1)
    rw [h3, Nat.add_mul_div_left _ _ hn, Nat.div_eq_of_lt h, Nat.zero_add, Nat.pow_succ]
    rw [show 2 * (m / (2 ^ i * 2) / n) * 2 ^ i = m / (2 ^ i * 2) / n * (2 ^ i * 2) by ac_rfl]
theorem ovQ_mod (m n j : Nat) : ovQ m n j % 2 ^ j = 0 := Nat.mul_mod_left _ _
theorem ovQ_le (m n j : Nat) : ovQ m n j ≤ m := by
  unfold ovQ
  exact Nat.le_trans (Nat.mul_le_mul_right _ (Nat.div_le_self _ _)) (Nat.div_mul_le_self m _)
theorem D_or (x y t : Nat) : D (x ||| y) t = D x t ||| D y t := by
  unfold D
  apply Nat.eq_of_testBit_eq
  intro i
  rw [show (4294967296 : Nat) = 2 ^ 32 from rfl, Nat.testBit_mod_two_pow, Nat.testBit_div_two_pow, Nat.testBit_or, Nat.testBit_or, Nat.testBit_mod_two_pow, Nat.testBit_mod_two_pow, Nat.testBit_div_two_pow, Nat.testBit_div_two_pow]
  cases decide (i < 32) <;> simp
theorem D_two_pow (i : Nat) : D (2 ^ i) (i / 32) = 2 ^ (i % 32) := by
  unfold D
  have e : 2 ^ i = 2 ^ (32 * (i / 32)) * 2 ^ (i % 32) := by rw [← Nat.pow_add]; congr 1; omega
  rw [e, Nat.mul_div_cancel_left _ (pow32_pos _), Nat.mod_eq_of_lt]
  exact Nat.lt_of_le_of_lt (Nat.pow_le_pow_right (by decide) (show i % 32 ≤ 31 by omega)) (by decide)
theorem D_two_pow_ne (i t : Nat) (h : t ≠ i / 32) : D (2 ^ i) t = 0 := by
  unfold D
  by_cases h1 : t < i / 32
  · have e : 2 ^ i = 2 ^ (32 * t) * (4294967296 * 2 ^ (i - 32 * t - 32)) := by
      rw [show (4294967296 : Nat) = 2 ^ 32 from rfl, ← Nat.pow_add, ← Nat.pow_add]; congr 1; omega
    rw [e, Nat.mul_div_cancel_left _ (pow32_pos t), Nat.mul_mod_right]
  · rw [Nat.div_eq_of_lt (Nat.pow_lt_pow_right (by decide) (by omega))]
theorem set_bit (x i : Nat) (h : x % 2 ^ (i + 1) = 0) : x + 2 ^ i = x ||| 2 ^ i := (nat_join (i + 1) x (2 ^ i) h (Nat.pow_lt_pow_right (by decide) (by omega))).symm
theorem set_bit_D (x i : Nat) (h : x % 2 ^ (i + 1) = 0) : D (x + 2 ^ i) (i / 32) = D x (i / 32) ||| 2 ^ (i % 32) := by rw [set_bit x i h, D_or, D_two_pow]
theorem set_bit_D_ne (x i t : Nat) (h : x % 2 ^ (i + 1) = 0) (ht : t ≠ i / 32) : D (x + 2 ^ i) t = D x t := by rw [set_bit x i h, D_or, D_two_pow_ne i t ht, Nat.or_zero]
theorem cySmall_lt3 (n k c j : Nat) (hc : c < k) : cySmall n k c j < k := by
  unfold cySmall
  rw [Nat.div_lt_iff_lt_mul (pow32_pos j)]
  have h1 : n % 2 ^ (32 * j) + 1 ≤ 2 ^ (32 * j) := Nat.mod_lt _ (pow32_pos j)
  have h2 := Nat.mul_le_mul_left k h1
  rw [Nat.mul_add, Nat.mul_comm k (n % _)] at h2
  omega
theorem tSmall_two (r c j : Nat) (hc : c < 2) : (D r j * 2 % 4294967296) ||| cySmall r 2 c j = D (r * 2 + c) j := by
  have h := cySmall_lt3 r 2 c j hc
  rw [← cySmall_digit]
  have hj : (D r j * 2 % 4294967296) % 2 ^ 1 = 0 := by omega
  rw [nat_join 1 _ _ hj (by omega)]
  omega
theorem tSmall_top (r c j : Nat) (hc : c < 2) : D r j / 2147483648 = cySmall r 2 c (j + 1) := by
  have h := cySmall_lt3 r 2 c j hc
  rw [← cySmall_succ]
  omega
theorem nlen_two_carry (r c : Nat) (hc : c < 2) (h : 0 < cySmall r 2 c (nlen r)) : nlen (r * 2 + c) = nlen r + 1 := by
  apply nlen_of_cut _ _ (small_lt r 2 c (by decide) (by omega))
  right
  rw [Nat.add_sub_cancel]
  have := cySmall_last r 2 c (by decide) (by omega)
  omega
theorem nlen_two_none (r c : Nat) (hc : c < 2) (h : cySmall r 2 c (nlen r) = 0) : nlen (r * 2 + c) = nlen r := by
  have h1 := cySmall_top r 2 c (nlen r) (Nat.le_refl _)
  rw [h] at h1
  have h2 : r * 2 + c < 2 ^ (32 * nlen r) := (Nat.div_eq_zero_iff_lt (pow32_pos _)).1 h1.symm
  have h3 := (nlen_le_iff _ _).2 h2
  have h4 := nlen_mono (show r ≤ r * 2 + c by omega)
  omega
theorem two_or (r c j : Nat) (hc : c < 2) : bits BinOp.or IntKind.u32 ((D r j : Int) * 2 % 4294967296) (cySmall r 2 c j : Int) = (D (r * 2 + c) j : Int) := by
  have h := cySmall_lt3 r 2 c j hc
  have e : (D r j : Int) * 2 % 4294967296 = ((D r j * 2 % 4294967296 : Nat) : Int) := by simp
  rw [e, u32_or_nat _ _ (by omega) (by omega), tSmall_two r c j hc]
theorem two_top (r c j : Nat) (hc : c < 2) : (D r j : Int) / 2147483648 = (cySmall r 2 c (j + 1) : Int) := by
  rw [← tSmall_top r c j hc]; omega
theorem ovQ_bit (m n i : Nat) : bits BinOp.or IntKind.u32 ((D (ovQ m n (i + 1)) (i / 32) : Nat) : Int) ((2 : Int) ^ (i % 32) % 4294967296) = ((D (ovQ m n (i + 1) + 2 ^ i) (i / 32) : Nat) : Int) := by
  have hp : 2 ^ (i % 32) < 4294967296 := Nat.lt_of_le_of_lt (Nat.pow_le_pow_right (by decide) (show i % 32 ≤ 31 by omega)) (by decide)
  have e : (2 : Int) ^ (i % 32) % 4294967296 = ((2 ^ (i % 32) : Nat) : Int) := by
    rw [← Nat.mod_eq_of_lt hp]; simp
  rw [e, u32_or_nat _ _ (D_lt _ _) hp, set_bit_D _ i (ovQ_mod m n (i + 1))]
end Go.Proofs.YtkhgoeippamobaaGreatDoor
/-
  Quotient and remainder.
-/
namespace Go.Proofs.YtkhgoeippamobaaGreatDoor
open Go.RowKit
set_option maxRecDepth 100000 in
set_option maxHeartbeats 4000000 in
theorem over_nat {v u : Value} {m n : Nat} {w : World} (hv : NatRep w v m) (hu : NatRep w u n) (hm : nlen m ≤ 10000000) (hn : nlen n ≤ 10000000) (hn0 : 0 < n) :
    Calls Tryz.prog 92 #[v, u] w fun e w' => (∃ q r, e = .returned (.tuple #[q, r]) ∧ Own .u32 75 w' w.heap.size q (nlen (m / n)) (D (m / n)) ∧ Own .u32 75 w' w.heap.size r (nlen (m % n)) (D (m % n))) ∧ Below w.heap.size w w' := by
  obtain ⟨a, cap, rfl⟩ := hv.shape
  obtain ⟨a', cap', rfl⟩ := hu.shape
  have hbm := nbits_le_nlen m
  go_enter Tryz.func92, Tryz.ntmps92
  go_wp2_with (first | (at_make; refine mk_u32 _ rfl (.tmp 11) (.tmp 11) rfl w.heap.size (nlen m) _ _ rfl rfl rfl rfl (by omega) (Nat.le_refl _) ?_; intro w1 hown hb hz hb1) | (at_make; refine mk2_u32 _ rfl (.const (.int .i64 0)) (.tmp 15) rfl (w.heap.size + 1) 0 (nlen n + 2) _ _ rfl rfl rfl (by simp) (by omega) (by omega) (by omega) ?_; intro w2 hownr hbr hz2 hbr1))
  refine (bits_nat ((hv.below hb).below hbr1) (by omega)).mono ?_
  rintro e w' ⟨rfl, rfl⟩
  go_wp2
  have hb2 : Below w.heap.size w w2 := hb.trans (hbr1.mono (by omega))
  have hown2 := hown.keepAt hbr1 (by omega)
  go_loopw [5, 6] (fun r i wr => ∃ j : Nat, i = .int .i64 ((j : Int) - 1) ∧ j ≤ nbits m ∧ Own .u32 75 wr w.heap.size (.slice (some ⟨w.heap.size, 0, none⟩) (nlen m) (nlen m)) (nlen m) (D (ovQ m n j)) ∧ Own .u32 75 wr (w.heap.size + 1) r (nlen (ovR m n j)) (D (ovR m n j)) ∧ Below w.heap.size w wr)
    (fun _ i _ => (intOf i + 1).toNat)
  case atStart =>
    have hs := ov_start m n
    exact ⟨nbits m, rfl, Nat.le_refl _, hown2.congr (fun t _ => by rw [hs.1, D_zero]), by rw [hs.2, ← hz]; rw [← hz] at hownr; exact hownr.congr (fun t ht => absurd ht (by omega)), hb2⟩
  case round =>
    obtain ⟨j, rfl, hj, hq, hr, hbw⟩ := hrel
    by_cases hj0 : j = 0
    · subst hj0
      have he := ov_end m n
      rw [he.1] at hq
      rw [he.2] at hr
      clear he
      have hlt1 : m / n < 2 ^ (32 * nlen m) := Nat.lt_of_le_of_lt (Nat.div_le_self _ _) (lt_nlen m)
      have hlt2 := lt_nlen (m % n)
      have hn2 : nlen (m % n) ≤ nlen n := nlen_mono (Nat.le_of_lt (Nat.mod_lt _ hn0))
      have c1 := hid (trimmed_own hq (by omega) hlt1)
      have c2 := hid (trimmed_own hr (by omega) hlt2)
      clear hlt1 hlt2 hown hb hz hownr hbr hz2 hbr1 hown2 hb2 hb1
      go_wp2_with fail
      (with_reducible refine c1.out.mono ?_); rintro e w' ⟨⟨q2, rfl, hq2⟩, rfl⟩
      go_wp2_with fail
      (with_reducible refine c2.out.mono ?_); rintro e w' ⟨⟨r2, rfl, hr2⟩, rfl⟩
      go_wp2
      go_ret2
      exact ⟨⟨q2, r2, rfl, hq2, hr2.mono (by omega)⟩, hbw⟩
    · obtain ⟨i, rfl⟩ : ∃ i, j = i + 1 := ⟨j - 1, by omega⟩
      have he : ((i + 1 : Nat) : Int) - 1 = i := by omega
      rw [he]
      clear he hown hb hz hownr hbr hz2 hbr1 hown2 hb2 hb1
      obtain ⟨wo, rfl⟩ : ∃ wo : World, wo = wr := ⟨_, rfl⟩
      obtain ⟨ar, capr, rfl⟩ := hr.shape
      obtain ⟨c, hc⟩ : ∃ c, c = (m.testBit i).toNat := ⟨_, rfl⟩
      have hc2 : c < 2 := by have := Bool.toNat_le (m.testBit i); omega
      have HC := hid hc
      have hRn : nlen (ovR m n (i + 1)) ≤ nlen n := nlen_mono (Nat.le_of_lt (ovR_lt m n (i + 1) hn0))
      go_wp2_with fail
      refine (bit_nat (hv.below hbw) (by omega) _ (by omega) (by omega)).mono ?_
      rintro e w' ⟨rfl, rfl⟩
      rw [Int.toNat_natCast]
      cases hb : m.testBit i
      all_goals
        rw [hb] at hc
        have HB := hid hb
        clear hb
        go_wp2
        go_loopw [7, 29] (fun carry k wr => ∃ j : Nat, k = .int .i64 j ∧ j ≤ nlen (ovR m n (i + 1)) ∧ carry = .int .u32 (cySmall (ovR m n (i + 1)) 2 c j) ∧ Own .u32 75 wr w.heap.size (.slice (some ⟨w.heap.size, 0, none⟩) (nlen m) (nlen m)) (nlen m) (D (ovQ m n (i + 1))) ∧ Own .u32 75 wr (w.heap.size + 1) (.slice ar (nlen (ovR m n (i + 1))) capr) (nlen (ovR m n (i + 1))) (fun t => if t < j then D (ovR m n (i + 1) * 2 + c) t else D (ovR m n (i + 1)) t) ∧ Below w.heap.size w wr)
          (fun _ k _ => nlen (ovR m n (i + 1)) - (intOf k).toNat)
        case atStart => exact ⟨0, rfl, Nat.zero_le _, by rw [cySmall_zero, hc]; rfl, hq, hr.congr (fun t _ => by rw [if_neg (by omega)]), hbw⟩
        case round =>
          clear hc
          obtain ⟨k, rfl, hk, rfl, hq2, hr2, hbw2⟩ := hrel
          have hcy := cySmall_lt3 (ovR m n (i + 1)) 2 c k hc2
          by_cases hlt : k < nlen (ovR m n (i + 1))
          · obtain ⟨g, rfl⟩ := hr2.addr (by omega)
            have hrc := hr2.cell k hlt
            rw [if_neg (by omega)] at hrc
            have hrf := hr2.free k
            have hge := hr2.base_le
            have hd := D_lt (ovR m n (i + 1)) k
            have hw1 := two_or (ovR m n (i + 1)) c k hc2
            have hw2 := two_top (ovR m n (i + 1)) c k hc2
            clear hr hq
            go_wp2
            go_roundw
            case rel =>
              refine ⟨k + 1, by go_num, by omega, rfl, hq2.other _ _ (by simp <;> omega), (hr2.store k _).congr ?_, hbw2.setCell (by simp <;> omega) _⟩
              intro t ht
              show (if t = k then _ else if t < k then _ else _) = _
              by_cases e : t = k
              · rw [if_pos e, if_pos (by omega), e]
              · rw [if_neg e]
                by_cases e2 : t < k
                · rw [if_pos e2, if_pos (by omega)]
                · rw [if_neg e2, if_neg (by omega)]
            case measure => simp [intOf] <;> omega
          · obtain rfl : k = nlen (ovR m n (i + 1)) := by omega
            have hr3 := hr2.congr (g := D (ovR m n (i + 1) * 2 + c)) (fun t ht => by rw [if_pos ht])
            clear hr hq hr2
            by_cases hcz : cySmall (ovR m n (i + 1)) 2 c (nlen (ovR m n (i + 1))) = 0
            · have hnl := nlen_two_none _ c hc2 hcz
              go_wp2_with fail
              have hrW := hr3.len_eq hnl.symm rfl
              clear hnl
              have hqW := hq2
              have hbW := hbw2
              clear hr3 hq2 hbw2
              have hTe : ovR m n (i + 1) * 2 + c = ovT m n i := by rw [ovT, ← HC.out]
              replace hrW := hrW.len_eq (congrArg nlen hTe) (congrArg D hTe)
              clear hTe
              have hTn : nlen (ovT m n i) ≤ nlen n + 1 := by
                refine (nlen_le_iff _ _).2 ?_
                have h1 := ovR_lt m n (i + 1) hn0
                have h2 := Bool.toNat_le (m.testBit i)
                have h3 := lt_nlen n
                rw [pow32_succ]
                unfold ovT
                omega
              refine (compare_nat hrW.nat (hu.below hbW) (by omega) (by omega)).mono ?_
              rintro e w' ⟨rfl, rfl⟩
              have hil : i / 32 < nlen m := by omega
              by_cases hge2 : n ≤ ovT m n i
              · have hcm : 0 ≤ cmpN (ovT m n i) n := by unfold cmpN; split <;> (try split) <;> omega
                go_wp2_with fail
                refine (minus_nat hrW.nat (hu.below hbW) (by omega) (by omega) hge2).mono ?_
                rintro e w3 ⟨rn, rfl, hrn, hb3⟩
                have hg := hrW.row
                have hq3 := hqW.keepAt hb3 hqW.lt
                have hqc := hq3.cell (i / 32) hil
                have hqf := hq3.free (i / 32)
                have hw1 := ovQ_bit m n i
                have hst := hid (ov_big m n i hn0 hge2)
                go_wp2
                go_region
                all_goals
                  go_wp2
                  go_roundw
                  case rel =>
                    have hst2 := hst.out
                    have hq4 : Own .u32 75 (w3.setCell ⟨w.heap.size, i / 32, none⟩ (.int .u32 ((D (ovQ m n (i + 1) + 2 ^ i) (i / 32) : Nat) : Int))) w.heap.size (.slice (some ⟨w.heap.size, 0, none⟩) (nlen m) (nlen m)) (nlen m) (D (ovQ m n i)) := by
                      refine (hq3.store (i / 32) _).congr (fun t _ => ?_)
                      rw [hst2.2]
                      by_cases e : t = i / 32
                      · rw [if_pos e, e]
                      · rw [if_neg e, set_bit_D_ne _ i t (ovQ_mod m n (i + 1)) e]
                    have hb5 : Below w.heap.size w w3 := hbW.trans (hb3.mono hbW.size)
                    have hqlt := hqW.lt
                    have hr5 : Own .u32 75 (w3.setCell ⟨w.heap.size, i / 32, none⟩ (.int .u32 ((D (ovQ m n (i + 1) + 2 ^ i) (i / 32) : Nat) : Int))) (w.heap.size + 1) rn (nlen (ovR m n i)) (D (ovR m n i)) := by
                      rw [hst2.1]
                      exact Own.mono (ownsRow_setCell_below hrn (a := ⟨w.heap.size, i / 32, none⟩) hqlt _) hqlt
                    exact ⟨i, rfl, by omega, hq4, hr5, (hb5.setCell (Nat.le_refl _) _).drew⟩
                  case measure => simp [intOf] <;> omega
              · have hcm : cmpN (ovT m n i) n < 0 := by unfold cmpN; split <;> (try split) <;> omega
                have hst := ov_small m n i hn0 (by omega)
                rw [← hst.1] at hrW
                rw [← hst.2] at hqW
                clear hst
                go_wp2
                go_roundw
                case rel => exact ⟨i, rfl, by omega, hqW, hrW, hbW⟩
                case measure => simp [intOf] <;> omega
            · have hnl := nlen_two_carry (ovR m n (i + 1)) c hc2 (Nat.pos_of_ne_zero hcz)
              have hX := hid (show ((cySmall (ovR m n (i + 1)) 2 c (nlen (ovR m n (i + 1))) : Nat) : Int) = ((D (ovR m n (i + 1) * 2 + c) (nlen (ovR m n (i + 1))) : Nat) : Int) from cySmall_last _ 2 c (by decide) (by omega))
              have hsz : w.heap.size + 1 ≤ wr.heap.size := by have := hq2.lt; omega
              have HN := hid hnl
              clear hnl
              go_wp2_with (at_builtin; refine app_u32 rfl _ _ rfl (w.heap.size + 1) _ (nlen (ovR m n (i + 1))) _ rfl hr3 _ rfl hX.out (by omega) hsz ?_; intro v' w1 hown1 hb1)
              have hrW := hown1.len_eq HN.out.symm rfl
              have hqW := hq2.keepAt hb1 (by omega)
              have hbW := hbw2.trans (hb1.mono (by omega))
              clear hr3 hq2 hbw2 hown1
              have hTe : ovR m n (i + 1) * 2 + c = ovT m n i := by rw [ovT, ← HC.out]
              replace hrW := hrW.len_eq (congrArg nlen hTe) (congrArg D hTe)
              clear hTe
              have hTn : nlen (ovT m n i) ≤ nlen n + 1 := by
                refine (nlen_le_iff _ _).2 ?_
                have h1 := ovR_lt m n (i + 1) hn0
                have h2 := Bool.toNat_le (m.testBit i)
                have h3 := lt_nlen n
                rw [pow32_succ]
                unfold ovT
                omega
              refine (compare_nat hrW.nat (hu.below hbW) (by omega) (by omega)).mono ?_
              rintro e w' ⟨rfl, rfl⟩
              have hil : i / 32 < nlen m := by omega
              by_cases hge2 : n ≤ ovT m n i
              · have hcm : 0 ≤ cmpN (ovT m n i) n := by unfold cmpN; split <;> (try split) <;> omega
                go_wp2_with fail
                refine (minus_nat hrW.nat (hu.below hbW) (by omega) (by omega) hge2).mono ?_
                rintro e w3 ⟨rn, rfl, hrn, hb3⟩
                have hg := hrW.row
                have hq3 := hqW.keepAt hb3 hqW.lt
                have hqc := hq3.cell (i / 32) hil
                have hqf := hq3.free (i / 32)
                have hw1 := ovQ_bit m n i
                have hst := hid (ov_big m n i hn0 hge2)
                go_wp2
                go_region
                all_goals
                  go_wp2
                  go_roundw
                  case rel =>
                    have hst2 := hst.out
                    have hq4 : Own .u32 75 (w3.setCell ⟨w.heap.size, i / 32, none⟩ (.int .u32 ((D (ovQ m n (i + 1) + 2 ^ i) (i / 32) : Nat) : Int))) w.heap.size (.slice (some ⟨w.heap.size, 0, none⟩) (nlen m) (nlen m)) (nlen m) (D (ovQ m n i)) := by
                      refine (hq3.store (i / 32) _).congr (fun t _ => ?_)
                      rw [hst2.2]
                      by_cases e : t = i / 32
                      · rw [if_pos e, e]
                      · rw [if_neg e, set_bit_D_ne _ i t (ovQ_mod m n (i + 1)) e]
                    have hb5 : Below w.heap.size w w3 := hbW.trans (hb3.mono hbW.size)
                    have hqlt := hqW.lt
                    have hr5 : Own .u32 75 (w3.setCell ⟨w.heap.size, i / 32, none⟩ (.int .u32 ((D (ovQ m n (i + 1) + 2 ^ i) (i / 32) : Nat) : Int))) (w.heap.size + 1) rn (nlen (ovR m n i)) (D (ovR m n i)) := by
                      rw [hst2.1]
                      exact Own.mono (ownsRow_setCell_below hrn (a := ⟨w.heap.size, i / 32, none⟩) hqlt _) hqlt
                    exact ⟨i, rfl, by omega, hq4, hr5, (hb5.setCell (Nat.le_refl _) _).drew⟩
                  case measure => simp [intOf] <;> omega
              · have hcm : cmpN (ovT m n i) n < 0 := by unfold cmpN; split <;> (try split) <;> omega
                have hst := ov_small m n i hn0 (by omega)
                rw [← hst.1] at hrW
                rw [← hst.2] at hqW
                clear hst
                go_wp2
                go_roundw
                case rel => exact ⟨i, rfl, by omega, hqW, hrW, hbW⟩
                case measure => simp [intOf] <;> omega
end Go.Proofs.YtkhgoeippamobaaGreatDoor
/-
  Products digit by digit (no program in sight).
-/
namespace Go.Proofs.YtkhgoeippamobaaGreatDoor
/-- behind i rounds: the low digits of m times n -/
def sT (m n i : Nat) : Nat := m % 2 ^ (32 * i) * n
/-- within round i, behind k digits of n -/
def tT (m n i k : Nat) : Nat := sT m n i % 2 ^ (32 * (i + k)) + D m i * (2 ^ (32 * i) * (n % 2 ^ (32 * k)))
def cT (m n i k : Nat) : Nat := tT m n i k / 2 ^ (32 * (i + k))
/-- the sum of a step -/
def uT (m n i k : Nat) : Nat := cT m n i k + (D (sT m n i) (i + k) + D m i * D n k)
theorem tT_zero (m n i : Nat) : tT m n i 0 = sT m n i % 2 ^ (32 * i) := by simp [tT, Nat.mod_one]
theorem cT_zero (m n i : Nat) : cT m n i 0 = 0 := by
  unfold cT; rw [tT_zero, Nat.add_zero]; exact Nat.div_eq_of_lt (Nat.mod_lt _ (pow32_pos i))
theorem pow32_add (i k : Nat) : 2 ^ (32 * (i + k)) = 2 ^ (32 * i) * 2 ^ (32 * k) := by rw [Nat.mul_add, Nat.pow_add]
theorem tT_succ (m n i k : Nat) : tT m n i (k + 1) = tT m n i k + 2 ^ (32 * (i + k)) * (D (sT m n i) (i + k) + D m i * D n k) := by
  unfold tT
  rw [show i + (k + 1) = (i + k) + 1 by omega, mod_split (sT m n i) (i + k), mod_split n k]
  have e : D m i * (2 ^ (32 * i) * (n % 2 ^ (32 * k) + 2 ^ (32 * k) * D n k)) = D m i * (2 ^ (32 * i) * (n % 2 ^ (32 * k))) + 2 ^ (32 * (i + k)) * (D m i * D n k) := by
    rw [pow32_add i k, Nat.mul_add (2 ^ (32 * i)), Nat.mul_add (D m i)]
    congr 1
    ac_rfl
  rw [e, Nat.mul_add (2 ^ (32 * (i + k)))]
  omega
theorem uT_eq (m n i k : Nat) : uT m n i k = tT m n i (k + 1) / 2 ^ (32 * (i + k)) := by
  rw [tT_succ, Nat.add_mul_div_left _ _ (pow32_pos _)]
  rfl
theorem uT_div (m n i k : Nat) : uT m n i k / 4294967296 = cT m n i (k + 1) := by
  rw [uT_eq, Nat.div_div_eq_div_mul]
  unfold cT
  rw [show i + (k + 1) = (i + k) + 1 by omega, pow32_succ]
theorem uT_mod (m n i k : Nat) : uT m n i k % 4294967296 = D (tT m n i (k + 1)) (i + k) := by
  rw [uT_eq]; rfl
theorem tT_low (m n i k t : Nat) (h : t < i + k) : D (tT m n i k) t = D (tT m n i (k + 1)) t := by
  apply D_congr
  rw [tT_succ]
  have e : 2 ^ (32 * (i + k)) = 2 ^ (32 * (t + 1)) * 2 ^ (32 * (i + k - (t + 1))) := by rw [← Nat.pow_add]; congr 1; omega
  rw [e, Nat.mul_assoc, Nat.add_mul_mod_self_left]
theorem cT_lt (m n i k : Nat) : cT m n i k < 4294967296 := by
  induction k with
  | zero => rw [cT_zero]; decide
  | succ k ih =>
    rw [← uT_div]
    unfold uT
    have h1 := D_lt (sT m n i) (i + k)
    have h2 := mul_lt_u64 _ _ (D_lt m i) (D_lt n k)
    omega
theorem uT_lt (m n i k : Nat) : uT m n i k < 18446744073709551616 := by
  unfold uT
  have h0 := cT_lt m n i k
  have h1 := D_lt (sT m n i) (i + k)
  have h2 := mul_lt_u64 _ _ (D_lt m i) (D_lt n k)
  omega
theorem uT_wrap1 (m n i k : Nat) : IntKind.u64.wrap ((D m i : Int) * (D n k : Int)) = (D m i : Int) * (D n k : Int) := by
  have := mul_lt_u64 _ _ (D_lt m i) (D_lt n k)
  rw [← Int.natCast_mul]
  exact wrap_u64_nat _ (by omega)
theorem uT_wrap2 (m n i k s : Nat) (h : s < 4294967296) : IntKind.u64.wrap ((s : Int) + (D m i : Int) * (D n k : Int)) = (s : Int) + (D m i : Int) * (D n k : Int) := by
  have := mul_lt_u64 _ _ (D_lt m i) (D_lt n k)
  rw [← Int.natCast_mul, ← Int.natCast_add]
  exact wrap_u64_nat _ (by omega)
theorem uT_wrap3 (m n i k : Nat) : IntKind.u64.wrap ((cT m n i k : Int) + ((D (sT m n i) (i + k) : Int) + (D m i : Int) * (D n k : Int))) = (uT m n i k : Int) := by
  have := uT_lt m n i k
  rw [← Int.natCast_mul, ← Int.natCast_add, ← Int.natCast_add]
  exact wrap_u64_nat _ this
theorem sT_lt (m n i : Nat) : sT m n i < 2 ^ (32 * (i + nlen n)) := by
  unfold sT
  rw [pow32_add]
  exact Nat.mul_lt_mul'' (Nat.mod_lt _ (pow32_pos i)) (lt_nlen n)
theorem tT_end (m n i : Nat) : tT m n i (nlen n) = sT m n (i + 1) := by
  unfold tT
  rw [Nat.mod_eq_of_lt (sT_lt m n i), Nat.mod_eq_of_lt (lt_nlen n)]
  unfold sT
  rw [mod_split m i, Nat.add_mul, Nat.mul_assoc, Nat.mul_left_comm]
theorem cT_end (m n i : Nat) : cT m n i (nlen n) = D (sT m n (i + 1)) (i + nlen n) := by
  unfold cT
  rw [tT_end, D_eq]
  rw [show i + nlen n + 1 = i + 1 + nlen n by omega]
  exact sT_lt m n (i + 1)
theorem sT_zero (m n : Nat) : sT m n 0 = 0 := by simp [sT, Nat.mod_one]
theorem sT_all (m n : Nat) : sT m n (nlen m) = m * n := by
  unfold sT; rw [Nat.mod_eq_of_lt (lt_nlen m)]
theorem mul_lt_pow (m n : Nat) : m * n < 2 ^ (32 * (nlen m + nlen n)) := by rw [← sT_all]; exact sT_lt m n _
theorem tT_start (m n i t : Nat) (h : t < i) : D (tT m n i 0) t = D (sT m n i) t := by
  rw [tT_zero]
  apply D_congr
  have e : 2 ^ (32 * i) = 2 ^ (32 * (t + 1)) * 2 ^ (32 * (i - (t + 1))) := by rw [← Nat.pow_add]; congr 1; omega
  rw [e, Nat.mod_mul_right_mod]
theorem D_high (x k t : Nat) (h : x < 2 ^ (32 * k)) (ht : k ≤ t) : D x t = 0 := D_out x t (Nat.le_trans ((nlen_le_iff x k).2 h) ht)
end Go.Proofs.YtkhgoeippamobaaGreatDoor
/-
  The product of two numbers.
-/
namespace Go.Proofs.YtkhgoeippamobaaGreatDoor
open Go.RowKit
set_option maxRecDepth 100000 in
set_option maxHeartbeats 2000000 in
theorem times_nat {v u : Value} {m n : Nat} {w : World} (hv : NatRep w v m) (hu : NatRep w u n) (hm : nlen m ≤ 100000000) (hn : nlen n ≤ 100000000) :
    Calls Tryz.prog 114 #[v, u] w (Fresh (m * n) w) := by
  obtain ⟨a, cap, rfl⟩ := hv.shape
  obtain ⟨a', cap', rfl⟩ := hu.shape
  go_enter Tryz.func114, Tryz.ntmps114
  go_wp2_with (at_make; refine mk_u32 _ rfl _ _ rfl w.heap.size (nlen m + nlen n) _ _ rfl rfl (by simp) (by simp) (by omega) (Nat.le_refl _) ?_; intro w1 hown hb hz hb1)
  go_loopw [19] (fun i wr => ∃ j : Nat, i = .int .i64 j ∧ j ≤ nlen m ∧ Own .u32 75 wr w.heap.size (.slice (some ⟨w.heap.size, 0, none⟩) (nlen m + nlen n) (nlen m + nlen n)) (nlen m + nlen n) (D (sT m n j)) ∧ Below w.heap.size w wr)
    (fun i _ => nlen m - (intOf i).toNat)
  case atStart => exact ⟨0, rfl, Nat.zero_le _, hown.congr (fun t _ => by rw [sT_zero, D_zero]), hb⟩
  case round =>
    obtain ⟨i, rfl, hi, hown1, hbr⟩ := hrel
    by_cases hlt : i < nlen m
    · obtain ⟨a1, cap1, hv1, _, hcell⟩ := hv.below hbr
      simp only [Value.slice.injEq, true_and] at hv1
      obtain ⟨rfl, rfl⟩ := hv1
      obtain ⟨b, off, rfl, _, hc0⟩ := hcell (by omega)
      have hcj := hc0 i hlt
      have hd := D_lt m i
      clear hown hb hz hb1
      obtain ⟨wo, rfl⟩ : ∃ wo : World, wo = wr := ⟨_, rfl⟩
      go_wp2
      go_loopw [8, 26] (fun carry k wr => ∃ j : Nat, k = .int .i64 j ∧ j ≤ nlen n ∧ carry = .int .u64 (cT m n i j) ∧ Own .u32 75 wr w.heap.size (.slice (some ⟨w.heap.size, 0, none⟩) (nlen m + nlen n) (nlen m + nlen n)) (nlen m + nlen n) (fun t => if t < i + j then D (tT m n i j) t else D (sT m n i) t) ∧ Below w.heap.size w wr)
        (fun _ k _ => nlen n - (intOf k).toNat)
      case atStart =>
        refine ⟨0, rfl, Nat.zero_le _, by rw [cT_zero]; rfl, hown1.congr (fun t _ => ?_), hbr⟩
        by_cases e : t < i
        · rw [if_pos (by omega), tT_start m n i t e]
        · rw [if_neg (by omega)]
      case round =>
        obtain ⟨k, rfl, hk, rfl, hown2, hbr2⟩ := hrel
        by_cases hlt2 : k < nlen n
        · obtain ⟨a2, cap2, hv2, _, hcell2⟩ := hu.below hbr2
          simp only [Value.slice.injEq, true_and] at hv2
          obtain ⟨rfl, rfl⟩ := hv2
          obtain ⟨b2, off2, rfl, _, hc2⟩ := hcell2 (by omega)
          have hck := hc2 k hlt2
          have hoc := hown2.cell (i + k) (by omega)
          rw [if_neg (by omega)] at hoc
          have hof := hown2.free (i + k)
          have hd2 := D_lt n k
          have hd3 := D_lt (sT m n i) (i + k)
          have hw1 := uT_wrap1 m n i k
          have hw2 := uT_wrap2 m n i k _ hd3
          have hw3 := uT_wrap3 m n i k
          have hw4 : ((uT m n i k : Nat) : Int) % 4294967296 = ((D (tT m n i (k + 1)) (i + k) : Nat) : Int) := by rw [← uT_mod]; omega
          have hw5 : ((uT m n i k : Nat) : Int) / 4294967296 = ((cT m n i (k + 1) : Nat) : Int) := by rw [← uT_div]; omega
          have hc1 := cT_lt m n i k
          clear hcell hcell2 hc0 hc2
          go_wp2
          go_roundw
          case rel =>
            refine ⟨k + 1, by go_num, by omega, rfl, (hown2.store (i + k) _).congr ?_, hbr2.setCell (Nat.le_refl _) _⟩
            intro t ht
            show (if t = i + k then _ else if t < i + k then _ else _) = _
            by_cases e : t = i + k
            · rw [if_pos e, if_pos (by omega), e]
            · rw [if_neg e]
              by_cases e2 : t < i + k
              · rw [if_pos e2, if_pos (by omega), tT_low m n i k t e2]
              · rw [if_neg e2, if_neg (by omega)]
          case measure => simp [intOf] <;> omega
        · obtain rfl : k = nlen n := by omega
          have hoc := hown2.cell (i + nlen n) (by omega)
          have hof := hown2.free (i + nlen n)
          have hc1 := cT_lt m n i (nlen n)
          go_wp2
          go_roundw
          case rel =>
            refine ⟨i + 1, by go_num, by omega, (hown2.store (i + nlen n) _).congr ?_, hbr2.setCell (Nat.le_refl _) _⟩
            intro t ht
            show (if t = i + nlen n then _ else if t < i + nlen n then _ else _) = _
            by_cases e : t = i + nlen n
            · rw [if_pos e, e, cT_end]
            · rw [if_neg e]
              by_cases e2 : t < i + nlen n
              · rw [if_pos e2, tT_end]
              · rw [if_neg e2, D_high _ _ _ (sT_lt m n i) (by omega), D_high _ _ _ (sT_lt m n (i + 1)) (by omega)]
          case measure => simp [intOf] <;> omega
    · obtain rfl : i = nlen m := by omega
      rw [sT_all] at hown1
      go_wp2_with fail
      refine (trimmed_own hown1 (by omega) (mul_lt_pow m n)).mono ?_
      rintro e w' ⟨⟨u2, rfl, hu2⟩, rfl⟩
      go_wp2
      go_ret
      exact ⟨u2, rfl, hu2, hbr⟩
end Go.Proofs.YtkhgoeippamobaaGreatDoor
/-
  Numbers with a sign.
-/
namespace Go.Proofs.YtkhgoeippamobaaGreatDoor
open Go.RowKit
/-- a number of package big: its size, its sign, whether it is too long -/
def NumV (w : World) (v : Value) (n : Nat) (neg lg : Bool) : Prop := ∃ s, v = .agg #[s, .bool neg, .bool lg] ∧ NatRep w s n
theorem NumV.below {w w' : World} {v : Value} {n : Nat} {neg lg : Bool} (h : NumV w v n neg lg) (hb : Below w.heap.size w w') : NumV w' v n neg lg := by
  obtain ⟨s, rfl, h⟩ := h
  exact ⟨s, rfl, h.below hb⟩
/-- an integer, not too long -/
def IntV (w : World) (v : Value) (z : Int) : Prop := NumV w v z.natAbs (decide (z < 0)) false
theorem IntV.below {w w' : World} {v : Value} {z : Int} (h : IntV w v z) (hb : Below w.heap.size w w') : IntV w' v z := NumV.below h hb
theorem bcell {W w1 : World} (hb : Below W.heap.size W w1) : (∀ b o, b < W.heap.size → w1.cell? ⟨b, o, none⟩ = W.cell? ⟨b, o, none⟩) ∧ (∀ b o, b < W.heap.size → w1.frozen? ⟨b, o, none⟩ = W.frozen? ⟨b, o, none⟩) :=
  ⟨fun b o h => hb.cell (p := ⟨b, o, none⟩) h, fun b o h => hb.frozen (p := ⟨b, o, none⟩) h⟩
/-- a block of cells, known whole -/
def Blk (w : World) (b : Nat) (cs : Array Value) (t : TypeId) : Prop := w.heap[b]? = some (.cells cs t (0, 0))
theorem Blk.new (w : World) (cs : Array Value) (t : TypeId) : Blk (w.alloc (.cells cs t)) w.heap.size cs t := World.alloc_heap_new w _
theorem Blk.lt {w : World} {b : Nat} {cs : Array Value} {t : TypeId} (h : Blk w b cs t) : b < w.heap.size := (Array.getElem?_eq_some_iff.1 h).1
theorem Blk.below {w w' : World} {b B : Nat} {cs : Array Value} {t : TypeId} (h : Blk w b cs t) (hb : Below B w w') (hB : b < B) : Blk w' b cs t := (hb.block b hB).trans h
theorem Blk.later {w w' : World} {b : Nat} {cs : Array Value} {t : TypeId} (h : Blk w b cs t) (hb : Below w.heap.size w w') : Blk w' b cs t := h.below hb h.lt
theorem Blk.alloc {w : World} {b : Nat} {cs : Array Value} {t : TypeId} (h : Blk w b cs t) (o : Obj) : Blk (w.alloc o) b cs t := h.later ((Below.refl _ w).alloc (Nat.le_refl _) o)
theorem Blk.drew {w : World} {b : Nat} {cs : Array Value} {t : TypeId} (h : Blk w b cs t) : Blk w.drew b cs t := h
theorem Blk.cell {w : World} {b : Nat} {cs : Array Value} {t : TypeId} (h : Blk w b cs t) (i : Nat) : w.cell? ⟨b, i, none⟩ = cs[i]? := by
  have h' : w.heap[b]? = _ := h
  simp [World.cell?, h']
theorem Blk.free {w : World} {b : Nat} {cs : Array Value} {t : TypeId} (h : Blk w b cs t) (i : Nat) : w.frozen? ⟨b, i, none⟩ = false := by
  have h' : w.heap[b]? = _ := h
  simp [World.frozen?, h']
/-- a block of three cells: what the walk wants of it -/
theorem Blk.three {w : World} {b : Nat} {x y z : Value} {t : TypeId} (h : Blk w b #[x, y, z] t) : (w.cell? ⟨b, 0, none⟩ = some x ∧ w.cell? ⟨b, 1, none⟩ = some y ∧ w.cell? ⟨b, 2, none⟩ = some z) ∧ (w.frozen? ⟨b, 0, none⟩ = false ∧ w.frozen? ⟨b, 1, none⟩ = false ∧ w.frozen? ⟨b, 2, none⟩ = false) :=
  ⟨⟨h.cell 0, h.cell 1, h.cell 2⟩, h.free 0, h.free 1, h.free 2⟩
def RetInt (z : Int) (w : World) (e : Ending) (w' : World) : Prop := ∃ v, e = .returned v ∧ IntV w' v z ∧ Below w.heap.size w w'
/-- an integer whose size is a fresh slice -/
def OwnInt (w : World) (base : Nat) (v : Value) (z : Int) : Prop := ∃ s, v = .agg #[s, .bool (decide (z < 0)), .bool false] ∧ Own .u32 75 w base s (nlen z.natAbs) (D z.natAbs)
theorem OwnInt.int {w : World} {base : Nat} {v : Value} {z : Int} (h : OwnInt w base v z) : IntV w v z := by
  obtain ⟨s, rfl, h⟩ := h
  exact ⟨s, rfl, h.nat⟩
def FreshInt (z : Int) (w : World) (e : Ending) (w' : World) : Prop := ∃ v, e = .returned v ∧ OwnInt w' w.heap.size v z ∧ Below w.heap.size w w'
set_option maxRecDepth 100000 in
set_option maxHeartbeats 1000000 in
theorem of_nat {v : Value} {n : Nat} {w : World} (h : NatRep w v n) (neg : Bool) (hl : nlen n ≤ 100000000) :
    Calls Tryz.prog 84 #[v, .bool neg] w fun e w' => e = .returned (.agg #[v, .bool (neg && decide (0 < n)), .bool false]) ∧ Below w.heap.size w w' := by
  obtain ⟨a, cap, rfl⟩ := h.shape
  have hn : decide (0 < n) = decide (0 < nlen n) := by
    have := nlen_eq_zero n
    by_cases h0 : n = 0
    · rw [h0]; rfl
    · rw [decide_eq_true (by omega), decide_eq_true (by omega)]
  rw [hn]
  clear hn
  cases neg
  · go_enter Tryz.func84, Tryz.ntmps84
    go_wp2
    refine bodyPost_ret (v := .agg #[.slice a (nlen n) cap, .bool false, .bool false]) (by simp [results, Tryz.results84, go_sem]) rfl ⟨rfl, ?_⟩
    exact (Below.refl _ _).alloc (Nat.le_refl _) _
  · go_enter Tryz.func84, Tryz.ntmps84
    go_wp2
    refine bodyPost_ret (v := .agg #[.slice a (nlen n) cap, .bool (decide (0 < nlen n)), .bool false]) (by simp [results, Tryz.results84, go_sem]) rfl ⟨by simp, ?_⟩
    exact (Below.refl _ _).alloc (Nat.le_refl _) _
/-- the sign of a number, also of one that is too long -/
def sgn (n : Nat) (neg lg : Bool) : Int := if neg then -1 else if lg || decide (0 < n) then 1 else 0
set_option maxRecDepth 100000 in
set_option maxHeartbeats 1000000 in
theorem sign_nat {v : Value} {n : Nat} {neg lg : Bool} {w : World} (h : NumV w v n neg lg) :
    Calls Tryz.prog 70 #[v] w fun e w' => e = .returned (.int .i64 (sgn n neg lg)) ∧ Below w.heap.size w w' := by
  obtain ⟨s, rfl, h⟩ := h
  obtain ⟨a, cap, rfl⟩ := h.shape
  have hn : (0 < n) ↔ 0 < nlen n := by have := nlen_eq_zero n; omega
  have hb : Below w.heap.size w (w.alloc (.cells #[.slice a (nlen n) cap, .bool neg, .bool lg] 49)) := (Below.refl _ _).alloc (Nat.le_refl _) _
  cases neg
  · cases lg
    · by_cases h0 : 0 < nlen n
      · go_enter Tryz.func70, Tryz.ntmps70
        go_wp2
        go_ret
        exact ⟨by simp [sgn, hn.2 h0], hb⟩
      · go_enter Tryz.func70, Tryz.ntmps70
        go_wp2
        go_ret
        exact ⟨by have : ¬ 0 < n := fun hh => h0 (hn.1 hh); simp [sgn]; omega, hb⟩
    · go_enter Tryz.func70, Tryz.ntmps70
      go_wp2
      go_ret
      exact ⟨by simp [sgn], hb⟩
  · go_enter Tryz.func70, Tryz.ntmps70
    go_wp2
    go_ret
    exact ⟨by simp [sgn], hb⟩
set_option maxRecDepth 100000 in
set_option maxHeartbeats 1000000 in
theorem opposite_int {v : Value} {z : Int} {w : World} (h : IntV w v z) (hl : nlen z.natAbs ≤ 10000000) : Calls Tryz.prog 58 #[v] w (RetInt (-z) w) := by
  obtain ⟨s, rfl, h⟩ := h
  obtain ⟨a, cap, rfl⟩ := h.shape
  have hb : Below w.heap.size w ((w.alloc (.cells #[.slice a (nlen z.natAbs) cap, .bool (decide (z < 0)), .bool false] 49)).alloc (.cells #[.slice none 0 0, .bool false, .bool false] 49)) := ((Below.refl _ _).alloc (Nat.le_refl _) _).alloc (by simp) _
  go_enter Tryz.func58, Tryz.ntmps58
  go_wp2_with fail
  refine (of_nat (h.below hb) _ (by omega)).mono ?_
  rintro e w1 ⟨rfl, hb1⟩
  obtain ⟨hc, hf⟩ := bcell hb1
  go_wp2
  have hz := hb1.size
  simp at hz
  have hbw : Below w.heap.size w w1 := hb.trans (hb1.mono (by simp; omega))
  have hbe : Below w.heap.size w (((w1.setCell ⟨w.heap.size + 1, 0, none⟩ (.slice a (nlen z.natAbs) cap)).setCell ⟨w.heap.size + 1, 1, none⟩ (.bool (!decide (z < 0) && !decide (z = 0)))).setCell ⟨w.heap.size + 1, 2, none⟩ (.bool false)) :=
    ((hbw.setCell (p := ⟨w.heap.size + 1, 0, none⟩) (by simp) _).setCell (p := ⟨w.heap.size + 1, 1, none⟩) (by simp) _).setCell (p := ⟨w.heap.size + 1, 2, none⟩) (by simp) _
  refine bodyPost_ret (v := .agg #[.slice a (nlen z.natAbs) cap, .bool (!decide (z < 0) && !decide (z = 0)), .bool false]) (by simp [results, Tryz.results58, go_sem, hc]) rfl ⟨_, rfl, ⟨.slice a (nlen z.natAbs) cap, ?_, ?_⟩, hbe⟩
  · have e : (!decide (z < 0) && !decide (z = 0)) = decide (-z < 0) := by
      by_cases h1 : z < 0
      · simp [h1]; omega
      · by_cases h2 : z = 0
        · simp [h2]
        · simp [h1, h2]; omega
    rw [e]
  · rw [Int.natAbs_neg]
    exact h.below hbe
end Go.Proofs.YtkhgoeippamobaaGreatDoor
/-
  Sums of integers.
-/
namespace Go.Proofs.YtkhgoeippamobaaGreatDoor
open Go.RowKit
theorem nlen_add_le (m n : Nat) : nlen (m + n) ≤ max (nlen m) (nlen n) + 1 := (nlen_le_iff _ _).2 (sum_lt m n)
theorem cell_set3 {w : World} {b c : Nat} (i : Nat) (x y z : Value) (h : c ≠ b) : (((w.setCell ⟨b, 0, none⟩ x).setCell ⟨b, 1, none⟩ y).setCell ⟨b, 2, none⟩ z).cell? ⟨c, i, none⟩ = w.cell? ⟨c, i, none⟩ :=
  World.cell?_of_block (a := ⟨c, i, none⟩) (((Below.heap_setCell _ _ _ _ h).trans (Below.heap_setCell _ _ _ _ h)).trans (Below.heap_setCell _ _ _ _ h))
theorem Blk.set3 {w : World} {b : Nat} {x y z : Value} {t : TypeId} (h : Blk w b #[x, y, z] t) (x' y' z' : Value) : Blk (((w.setCell ⟨b, 0, none⟩ x').setCell ⟨b, 1, none⟩ y').setCell ⟨b, 2, none⟩ z') b #[x', y', z'] t := by
  have h0 : w.heap[b]? = _ := h
  have h1 := heap_setCell_same w b 0 _ t x' h0
  have h2 := heap_setCell_same _ b 1 _ t y' h1
  have h3 := heap_setCell_same _ b 2 _ t z' h2
  exact h3
theorem Blk.set3_ne {w : World} {b c : Nat} {cs : Array Value} {t : TypeId} (h : Blk w c cs t) (hne : c ≠ b) (x y z : Value) : Blk (((w.setCell ⟨b, 0, none⟩ x).setCell ⟨b, 1, none⟩ y).setCell ⟨b, 2, none⟩ z) c cs t :=
  ((Below.heap_setCell _ _ _ _ hne).trans ((Below.heap_setCell _ _ _ _ hne).trans (Below.heap_setCell _ _ _ _ hne))).trans h
theorem own_set3 {ik : IntKind} {e : TypeId} {w : World} {base b n : Nat} {v : Value} {f : Nat → Nat} (h : Own ik e w base v n f) (x y z : Value) (hb : b < base) : Own ik e (((w.setCell ⟨b, 0, none⟩ x).setCell ⟨b, 1, none⟩ y).setCell ⟨b, 2, none⟩ z) base v n f :=
  ownsRow_setCell_below (ownsRow_setCell_below (ownsRow_setCell_below h (a := ⟨b, 0, none⟩) hb x) (a := ⟨b, 1, none⟩) hb y) (a := ⟨b, 2, none⟩) hb z
/-- a number, whatever its sign, that is not too long, in new memory -/
def FreshNum (n : Nat) (neg : Bool) (w : World) (e : Ending) (w' : World) : Prop := ∃ s, e = .returned (.agg #[s, .bool (neg && decide (0 < n)), .bool false]) ∧ Own .u32 75 w' w.heap.size s (nlen n) (D n) ∧ Below w.heap.size w w'
set_option maxRecDepth 100000 in
set_option maxHeartbeats 4000000 in
theorem plus_same {a1 a2 : Option Addr} {c1 c2 m n : Nat} {w : World} (hs : NatRep w (.slice a1 (nlen m) c1) m) (ht : NatRep w (.slice a2 (nlen n) c2) n) (hm : nlen m ≤ 1000000) (hn : nlen n ≤ 1000000) (sa sb : Bool) (hsg : (sa == sb) = true) :
    Calls Tryz.prog 56 #[.agg #[.slice a1 (nlen m) c1, .bool sa, .bool false], .agg #[.slice a2 (nlen n) c2, .bool sb, .bool false]] w (FreshNum (m + n) sa w) := by
  have k1 := Blk.new w #[.slice a1 (nlen m) c1, .bool sa, .bool false] 49
  have k2 := Blk.new (w.alloc (.cells #[.slice a1 (nlen m) c1, .bool sa, .bool false] 49)) #[.slice a2 (nlen n) c2, .bool sb, .bool false] 49
  have k3 := Blk.new ((w.alloc (.cells #[.slice a1 (nlen m) c1, .bool sa, .bool false] 49)).alloc (.cells #[.slice a2 (nlen n) c2, .bool sb, .bool false] 49)) #[.slice none 0 0, .bool false, .bool false] 49
  simp only [World.size_alloc] at k2 k3
  have k1' := (k1.alloc (.cells #[.slice a2 (nlen n) c2, .bool sb, .bool false] 49)).alloc (.cells #[.slice none 0 0, .bool false, .bool false] 49)
  have k2' := k2.alloc (.cells #[.slice none 0 0, .bool false, .bool false] 49)
  have hb0 : Below w.heap.size w (((w.alloc (.cells #[.slice a1 (nlen m) c1, .bool sa, .bool false] 49)).alloc (.cells #[.slice a2 (nlen n) c2, .bool sb, .bool false] 49)).alloc (.cells #[.slice none 0 0, .bool false, .bool false] 49)) := (((Below.refl _ _).alloc (Nat.le_refl _) _).alloc (by simp) _).alloc (by simp; omega) _
  have hmn : nlen (m + n) ≤ 2000001 := by have := nlen_add_le m n; omega
  go_enter Tryz.func56, Tryz.ntmps56
  go_wp2_with fail
  generalize ((w.alloc (.cells #[.slice a1 (nlen m) c1, .bool sa, .bool false] 49)).alloc (.cells #[.slice a2 (nlen n) c2, .bool sb, .bool false] 49)).alloc (.cells #[.slice none 0 0, .bool false, .bool false] 49) = w0 at *
  clear k1 k2
  refine (compare_nat (hs.below hb0) (ht.below hb0) (by omega) (by omega)).mono ?_
  rintro e w' ⟨rfl, rfl⟩
  obtain ⟨⟨p1, p2, p3⟩, _⟩ := k1'.three
  obtain ⟨⟨q1, q2, q3⟩, _⟩ := k2'.three
  go_wp2
  go_region_held3 (fun w' => w'.cell? ⟨w.heap.size, 0, none⟩ = some (.slice a1 (nlen m) c1) ∧ w'.cell? ⟨w.heap.size, 1, none⟩ = some (.bool sa) ∧ w'.cell? ⟨w.heap.size + 1, 0, none⟩ = some (.slice a2 (nlen n) c2))
    (first | exact ⟨p1, p2, q1⟩ | exact ⟨p1', p2', q1'⟩ | exact ⟨p1'', p2'', q1''⟩ | exact ⟨(cell_set3 _ _ _ _ (by omega)).trans p1'', (cell_set3 _ _ _ _ (by omega)).trans p2'', (cell_set3 _ _ _ _ (by omega)).trans q1''⟩)
    (first
    | (go_at_call 112; refine (plus_nat (hs.below hb0.drew) (ht.below hb0.drew) (by omega) (by omega)).mono ?_; rintro e w1 ⟨r, rfl, hr, hb1⟩; obtain ⟨ra, rc, rfl⟩ := hr.shape; have k3' := k3.drew.later hb1; have k1'' := k1'.drew.later hb1; have k2'' := k2'.drew.later hb1; obtain ⟨⟨p1', p2', p3'⟩, _⟩ := k1''.three; obtain ⟨⟨q1', q2', q3'⟩, _⟩ := k2''.three)
    | (go_at_call 84; refine (of_nat hr.nat _ (by omega)).mono ?_; rintro e w2 ⟨rfl, hb2⟩; obtain ⟨⟨p1'', p2'', p3''⟩, _⟩ := (k1''.later hb2).three; obtain ⟨⟨q1'', q2'', q3''⟩, _⟩ := (k2''.later hb2).three; obtain ⟨⟨r1, r2, r3⟩, ⟨s1, s2, s3⟩⟩ := (k3'.later hb2).three))
  go_wp2
  have hz1 := hb1.size
  have hz3 := k3.lt
  have hbe : Below w.heap.size w w2 := hb0.trans ((Below.drew (Below.refl _ _)).trans ((hb1.mono (by have := hb0.size; exact this)).trans (hb2.mono (Nat.le_trans hb0.size hz1))))
  have hbf := ((hbe.setCell (p := ⟨w.heap.size + 1 + 1, 0, none⟩) (by simp; omega) (.slice ra (nlen (m + n)) rc)).setCell (p := ⟨w.heap.size + 1 + 1, 1, none⟩) (by simp; omega) (.bool (sa && decide (0 < m + n)))).setCell (p := ⟨w.heap.size + 1 + 1, 2, none⟩) (by simp; omega) (.bool false)
  exact bodyPost_ret (v := .agg #[.slice ra (nlen (m + n)) rc, .bool (sa && decide (0 < m + n)), .bool false]) (by simp [results, Tryz.results56, go_sem, r1, r2, r3]) rfl ⟨_, rfl, (own_set3 (hr.keep hb2 (Nat.le_refl _)) _ _ _ hz3).mono hb0.size, hbf⟩
set_option maxRecDepth 100000 in
set_option maxHeartbeats 4000000 in
theorem plus_big {a1 a2 : Option Addr} {c1 c2 m n : Nat} {w : World} (hs : NatRep w (.slice a1 (nlen m) c1) m) (ht : NatRep w (.slice a2 (nlen n) c2) n) (hm : nlen m ≤ 1000000) (hn : nlen n ≤ 1000000) (sa sb : Bool) (hnm : n ≤ m) (hsg : (sa == sb) = false) :
    Calls Tryz.prog 56 #[.agg #[.slice a1 (nlen m) c1, .bool sa, .bool false], .agg #[.slice a2 (nlen n) c2, .bool sb, .bool false]] w (FreshNum (m - n) sa w) := by
  have k1 := Blk.new w #[.slice a1 (nlen m) c1, .bool sa, .bool false] 49
  have k2 := Blk.new (w.alloc (.cells #[.slice a1 (nlen m) c1, .bool sa, .bool false] 49)) #[.slice a2 (nlen n) c2, .bool sb, .bool false] 49
  have k3 := Blk.new ((w.alloc (.cells #[.slice a1 (nlen m) c1, .bool sa, .bool false] 49)).alloc (.cells #[.slice a2 (nlen n) c2, .bool sb, .bool false] 49)) #[.slice none 0 0, .bool false, .bool false] 49
  simp only [World.size_alloc] at k2 k3
  have k1' := (k1.alloc (.cells #[.slice a2 (nlen n) c2, .bool sb, .bool false] 49)).alloc (.cells #[.slice none 0 0, .bool false, .bool false] 49)
  have k2' := k2.alloc (.cells #[.slice none 0 0, .bool false, .bool false] 49)
  have hb0 : Below w.heap.size w (((w.alloc (.cells #[.slice a1 (nlen m) c1, .bool sa, .bool false] 49)).alloc (.cells #[.slice a2 (nlen n) c2, .bool sb, .bool false] 49)).alloc (.cells #[.slice none 0 0, .bool false, .bool false] 49)) := (((Below.refl _ _).alloc (Nat.le_refl _) _).alloc (by simp) _).alloc (by simp; omega) _
  have hmn : nlen (m - n) ≤ nlen m := nlen_mono (Nat.sub_le m n)
  have hcm : 0 ≤ cmpN m n := by unfold cmpN; split <;> (try split) <;> omega
  go_enter Tryz.func56, Tryz.ntmps56
  go_wp2_with fail
  generalize ((w.alloc (.cells #[.slice a1 (nlen m) c1, .bool sa, .bool false] 49)).alloc (.cells #[.slice a2 (nlen n) c2, .bool sb, .bool false] 49)).alloc (.cells #[.slice none 0 0, .bool false, .bool false] 49) = w0 at *
  clear k1 k2
  refine (compare_nat (hs.below hb0) (ht.below hb0) (by omega) (by omega)).mono ?_
  rintro e w' ⟨rfl, rfl⟩
  obtain ⟨⟨p1, p2, p3⟩, _⟩ := k1'.three
  obtain ⟨⟨q1, q2, q3⟩, _⟩ := k2'.three
  go_wp2
  go_region_held3 (fun w' => w'.cell? ⟨w.heap.size, 0, none⟩ = some (.slice a1 (nlen m) c1) ∧ w'.cell? ⟨w.heap.size, 1, none⟩ = some (.bool sa) ∧ w'.cell? ⟨w.heap.size + 1, 0, none⟩ = some (.slice a2 (nlen n) c2))
    (first | exact ⟨p1, p2, q1⟩ | exact ⟨p1', p2', q1'⟩ | exact ⟨p1'', p2'', q1''⟩ | exact ⟨(cell_set3 _ _ _ _ (by omega)).trans p1'', (cell_set3 _ _ _ _ (by omega)).trans p2'', (cell_set3 _ _ _ _ (by omega)).trans q1''⟩)
    (first
    | (go_at_call 124; refine (minus_nat (hs.below hb0.drew) (ht.below hb0.drew) (by omega) (by omega) hnm).mono ?_; rintro e w1 ⟨r, rfl, hr, hb1⟩; obtain ⟨ra, rc, rfl⟩ := hr.shape; have k3' := k3.drew.later hb1; have k1'' := k1'.drew.later hb1; have k2'' := k2'.drew.later hb1; obtain ⟨⟨p1', p2', p3'⟩, _⟩ := k1''.three; obtain ⟨⟨q1', q2', q3'⟩, _⟩ := k2''.three)
    | (go_at_call 84; refine (of_nat hr.nat _ (by omega)).mono ?_; rintro e w2 ⟨rfl, hb2⟩; obtain ⟨⟨p1'', p2'', p3''⟩, _⟩ := (k1''.later hb2).three; obtain ⟨⟨q1'', q2'', q3''⟩, _⟩ := (k2''.later hb2).three; obtain ⟨⟨r1, r2, r3⟩, ⟨s1, s2, s3⟩⟩ := (k3'.later hb2).three))
  go_wp2
  have hz1 := hb1.size
  have hz3 := k3.lt
  have hbe : Below w.heap.size w w2 := hb0.trans ((Below.drew (Below.refl _ _)).trans ((hb1.mono (by have := hb0.size; exact this)).trans (hb2.mono (Nat.le_trans hb0.size hz1))))
  have hbf := ((hbe.setCell (p := ⟨w.heap.size + 1 + 1, 0, none⟩) (by simp; omega) (.slice ra (nlen (m - n)) rc)).setCell (p := ⟨w.heap.size + 1 + 1, 1, none⟩) (by simp; omega) (.bool (sa && decide (0 < m - n)))).setCell (p := ⟨w.heap.size + 1 + 1, 2, none⟩) (by simp; omega) (.bool false)
  exact bodyPost_ret (v := .agg #[.slice ra (nlen (m - n)) rc, .bool (sa && decide (0 < m - n)), .bool false]) (by simp [results, Tryz.results56, go_sem, r1, r2, r3]) rfl ⟨_, rfl, (own_set3 (hr.keep hb2 (Nat.le_refl _)) _ _ _ hz3).mono hb0.size, hbf⟩
set_option maxRecDepth 100000 in
set_option maxHeartbeats 4000000 in
theorem plus_less {a1 a2 : Option Addr} {c1 c2 m n : Nat} {w : World} (hs : NatRep w (.slice a1 (nlen m) c1) m) (ht : NatRep w (.slice a2 (nlen n) c2) n) (hm : nlen m ≤ 1000000) (hn : nlen n ≤ 1000000) (sa sb : Bool) (hnm : m < n) (hsg : (sa == sb) = false) :
    Calls Tryz.prog 56 #[.agg #[.slice a1 (nlen m) c1, .bool sa, .bool false], .agg #[.slice a2 (nlen n) c2, .bool sb, .bool false]] w (FreshNum (n - m) sb w) := by
  have k1 := Blk.new w #[.slice a1 (nlen m) c1, .bool sa, .bool false] 49
  have k2 := Blk.new (w.alloc (.cells #[.slice a1 (nlen m) c1, .bool sa, .bool false] 49)) #[.slice a2 (nlen n) c2, .bool sb, .bool false] 49
  have k3 := Blk.new ((w.alloc (.cells #[.slice a1 (nlen m) c1, .bool sa, .bool false] 49)).alloc (.cells #[.slice a2 (nlen n) c2, .bool sb, .bool false] 49)) #[.slice none 0 0, .bool false, .bool false] 49
  simp only [World.size_alloc] at k2 k3
  have k1' := (k1.alloc (.cells #[.slice a2 (nlen n) c2, .bool sb, .bool false] 49)).alloc (.cells #[.slice none 0 0, .bool false, .bool false] 49)
  have k2' := k2.alloc (.cells #[.slice none 0 0, .bool false, .bool false] 49)
  have hb0 : Below w.heap.size w (((w.alloc (.cells #[.slice a1 (nlen m) c1, .bool sa, .bool false] 49)).alloc (.cells #[.slice a2 (nlen n) c2, .bool sb, .bool false] 49)).alloc (.cells #[.slice none 0 0, .bool false, .bool false] 49)) := (((Below.refl _ _).alloc (Nat.le_refl _) _).alloc (by simp) _).alloc (by simp; omega) _
  have hmn : nlen (n - m) ≤ nlen n := nlen_mono (Nat.sub_le n m)
  have hcm : cmpN m n < 0 := by unfold cmpN; split <;> (try split) <;> omega
  go_enter Tryz.func56, Tryz.ntmps56
  go_wp2_with fail
  generalize ((w.alloc (.cells #[.slice a1 (nlen m) c1, .bool sa, .bool false] 49)).alloc (.cells #[.slice a2 (nlen n) c2, .bool sb, .bool false] 49)).alloc (.cells #[.slice none 0 0, .bool false, .bool false] 49) = w0 at *
  clear k1 k2
  refine (compare_nat (hs.below hb0) (ht.below hb0) (by omega) (by omega)).mono ?_
  rintro e w' ⟨rfl, rfl⟩
  obtain ⟨⟨p1, p2, p3⟩, _⟩ := k1'.three
  obtain ⟨⟨q1, q2, q3⟩, _⟩ := k2'.three
  go_wp2
  go_region_held3 (fun w' => w'.cell? ⟨w.heap.size, 0, none⟩ = some (.slice a1 (nlen m) c1) ∧ w'.cell? ⟨w.heap.size + 1, 1, none⟩ = some (.bool sb) ∧ w'.cell? ⟨w.heap.size + 1, 0, none⟩ = some (.slice a2 (nlen n) c2))
    (first | exact ⟨p1, q2, q1⟩ | exact ⟨p1', q2', q1'⟩ | exact ⟨p1'', q2'', q1''⟩ | exact ⟨(cell_set3 _ _ _ _ (by omega)).trans p1'', (cell_set3 _ _ _ _ (by omega)).trans q2'', (cell_set3 _ _ _ _ (by omega)).trans q1''⟩)
    (first
    | (go_at_call 124; refine (minus_nat (ht.below hb0.drew) (hs.below hb0.drew) (by omega) (by omega) (Nat.le_of_lt hnm)).mono ?_; rintro e w1 ⟨r, rfl, hr, hb1⟩; obtain ⟨ra, rc, rfl⟩ := hr.shape; have k3' := k3.drew.later hb1; have k1'' := k1'.drew.later hb1; have k2'' := k2'.drew.later hb1; obtain ⟨⟨p1', p2', p3'⟩, _⟩ := k1''.three; obtain ⟨⟨q1', q2', q3'⟩, _⟩ := k2''.three)
    | (go_at_call 84; refine (of_nat hr.nat _ (by omega)).mono ?_; rintro e w2 ⟨rfl, hb2⟩; obtain ⟨⟨p1'', p2'', p3''⟩, _⟩ := (k1''.later hb2).three; obtain ⟨⟨q1'', q2'', q3''⟩, _⟩ := (k2''.later hb2).three; obtain ⟨⟨r1, r2, r3⟩, ⟨s1, s2, s3⟩⟩ := (k3'.later hb2).three))
  go_wp2
  have hz1 := hb1.size
  have hz3 := k3.lt
  have hbe : Below w.heap.size w w2 := hb0.trans ((Below.drew (Below.refl _ _)).trans ((hb1.mono (by have := hb0.size; exact this)).trans (hb2.mono (Nat.le_trans hb0.size hz1))))
  have hbf := ((hbe.setCell (p := ⟨w.heap.size + 1 + 1, 0, none⟩) (by simp; omega) (.slice ra (nlen (n - m)) rc)).setCell (p := ⟨w.heap.size + 1 + 1, 1, none⟩) (by simp; omega) (.bool (sb && decide (0 < n - m)))).setCell (p := ⟨w.heap.size + 1 + 1, 2, none⟩) (by simp; omega) (.bool false)
  exact bodyPost_ret (v := .agg #[.slice ra (nlen (n - m)) rc, .bool (sb && decide (0 < n - m)), .bool false]) (by simp [results, Tryz.results56, go_sem, r1, r2, r3]) rfl ⟨_, rfl, (own_set3 (hr.keep hb2 (Nat.le_refl _)) _ _ _ hz3).mono hb0.size, hbf⟩
end Go.Proofs.YtkhgoeippamobaaGreatDoor
/-
  Products of integers.
-/
namespace Go.Proofs.YtkhgoeippamobaaGreatDoor
open Go.RowKit
set_option maxRecDepth 100000 in
set_option maxHeartbeats 4000000 in
theorem timesN {a1 a2 : Option Addr} {c1 c2 m n : Nat} {w : World} (hs : NatRep w (.slice a1 (nlen m) c1) m) (ht : NatRep w (.slice a2 (nlen n) c2) n) (hm : nlen m ≤ 1000000) (hn : nlen n ≤ 1000000) (sa sb : Bool) :
    Calls Tryz.prog 62 #[.agg #[.slice a1 (nlen m) c1, .bool sa, .bool false], .agg #[.slice a2 (nlen n) c2, .bool sb, .bool false]] w (FreshNum (m * n) (!(sa == sb)) w) := by
  have k1 := Blk.new w #[.slice a1 (nlen m) c1, .bool sa, .bool false] 49
  have k2 := Blk.new (w.alloc (.cells #[.slice a1 (nlen m) c1, .bool sa, .bool false] 49)) #[.slice a2 (nlen n) c2, .bool sb, .bool false] 49
  have k3 := Blk.new ((w.alloc (.cells #[.slice a1 (nlen m) c1, .bool sa, .bool false] 49)).alloc (.cells #[.slice a2 (nlen n) c2, .bool sb, .bool false] 49)) #[.slice none 0 0, .bool false, .bool false] 49
  simp only [World.size_alloc] at k2 k3
  have k1' := (k1.alloc (.cells #[.slice a2 (nlen n) c2, .bool sb, .bool false] 49)).alloc (.cells #[.slice none 0 0, .bool false, .bool false] 49)
  have k2' := k2.alloc (.cells #[.slice none 0 0, .bool false, .bool false] 49)
  have hb0 : Below w.heap.size w (((w.alloc (.cells #[.slice a1 (nlen m) c1, .bool sa, .bool false] 49)).alloc (.cells #[.slice a2 (nlen n) c2, .bool sb, .bool false] 49)).alloc (.cells #[.slice none 0 0, .bool false, .bool false] 49)) := (((Below.refl _ _).alloc (Nat.le_refl _) _).alloc (by simp) _).alloc (by simp; omega) _
  have hmn : nlen (m * n) ≤ 2000000 := by have := (nlen_le_iff _ _).2 (mul_lt_pow m n); omega
  go_enter Tryz.func62, Tryz.ntmps62
  go_wp2_with fail
  generalize ((w.alloc (.cells #[.slice a1 (nlen m) c1, .bool sa, .bool false] 49)).alloc (.cells #[.slice a2 (nlen n) c2, .bool sb, .bool false] 49)).alloc (.cells #[.slice none 0 0, .bool false, .bool false] 49) = w0 at *
  clear k1 k2
  obtain ⟨⟨p1, p2, p3⟩, _⟩ := k1'.three
  obtain ⟨⟨q1, q2, q3⟩, _⟩ := k2'.three
  go_region_held3 (fun w' => w'.cell? ⟨w.heap.size, 0, none⟩ = some (.slice a1 (nlen m) c1) ∧ w'.cell? ⟨w.heap.size, 1, none⟩ = some (.bool sa) ∧ w'.cell? ⟨w.heap.size + 1, 1, none⟩ = some (.bool sb) ∧ w'.cell? ⟨w.heap.size + 1, 0, none⟩ = some (.slice a2 (nlen n) c2))
    (first | exact ⟨p1, p2, q2, q1⟩ | exact ⟨p1', p2', q2', q1'⟩ | exact ⟨p1'', p2'', q2'', q1''⟩ | exact ⟨(cell_set3 _ _ _ _ (by omega)).trans p1'', (cell_set3 _ _ _ _ (by omega)).trans p2'', (cell_set3 _ _ _ _ (by omega)).trans q2'', (cell_set3 _ _ _ _ (by omega)).trans q1''⟩)
    (first
    | (go_at_call 114; refine (times_nat (hs.below hb0.drew) (ht.below hb0.drew) (by omega) (by omega)).mono ?_; rintro e w1 ⟨r, rfl, hr, hb1⟩; obtain ⟨ra, rc, rfl⟩ := hr.shape; have k3' := k3.drew.later hb1; have k1'' := k1'.drew.later hb1; have k2'' := k2'.drew.later hb1; obtain ⟨⟨p1', p2', p3'⟩, _⟩ := k1''.three; obtain ⟨⟨q1', q2', q3'⟩, _⟩ := k2''.three)
    | (go_at_call 84; refine (of_nat hr.nat _ (by omega)).mono ?_; rintro e w2 ⟨rfl, hb2⟩; obtain ⟨⟨p1'', p2'', p3''⟩, _⟩ := (k1''.later hb2).three; obtain ⟨⟨q1'', q2'', q3''⟩, _⟩ := (k2''.later hb2).three; obtain ⟨⟨r1, r2, r3⟩, ⟨s1, s2, s3⟩⟩ := (k3'.later hb2).three))
  go_wp2
  have hz1 := hb1.size
  have hz3 := k3.lt
  have hbe : Below w.heap.size w w2 := hb0.trans ((Below.drew (Below.refl _ _)).trans ((hb1.mono (by have := hb0.size; exact this)).trans (hb2.mono (Nat.le_trans hb0.size hz1))))
  have hbf := ((hbe.setCell (p := ⟨w.heap.size + 1 + 1, 0, none⟩) (by simp; omega) (.slice ra (nlen (m * n)) rc)).setCell (p := ⟨w.heap.size + 1 + 1, 1, none⟩) (by simp; omega) (.bool ((!(sa == sb)) && decide (0 < m * n)))).setCell (p := ⟨w.heap.size + 1 + 1, 2, none⟩) (by simp; omega) (.bool false)
  exact bodyPost_ret (v := .agg #[.slice ra (nlen (m * n)) rc, .bool ((!(sa == sb)) && decide (0 < m * n)), .bool false]) (by simp [results, Tryz.results62, go_sem, r1, r2, r3]) rfl ⟨_, rfl, (own_set3 (hr.keep hb2 (Nat.le_refl _)) _ _ _ hz3).mono hb0.size, hbf⟩
end Go.Proofs.YtkhgoeippamobaaGreatDoor
/-
  Sums and products, said of integers.
-/
namespace Go.Proofs.YtkhgoeippamobaaGreatDoor
open Go.RowKit
theorem IntV.shape {w : World} {v : Value} {z : Int} (h : IntV w v z) : ∃ a cap, v = .agg #[.slice a (nlen z.natAbs) cap, .bool (decide (z < 0)), .bool false] ∧ NatRep w (.slice a (nlen z.natAbs) cap) z.natAbs := by
  obtain ⟨s, rfl, h⟩ := h
  obtain ⟨a, cap, rfl⟩ := h.shape
  exact ⟨a, cap, rfl, h⟩
theorem IntV.mk {w : World} {s : Value} {z : Int} {n : Nat} {b : Bool} (h : NatRep w s n) (hn : n = z.natAbs) (hb : b = decide (z < 0)) : IntV w (.agg #[s, .bool b, .bool false]) z := by
  subst hn; subst hb; exact ⟨s, rfl, h⟩
theorem OwnInt.mk {w : World} {base : Nat} {s : Value} {z : Int} {n : Nat} {b : Bool} (h : Own .u32 75 w base s (nlen n) (D n)) (hn : n = z.natAbs) (hb : b = decide (z < 0)) : OwnInt w base (.agg #[s, .bool b, .bool false]) z := by
  subst hn; subst hb; exact ⟨s, rfl, h⟩
theorem FreshNum.int {n : Nat} {neg : Bool} {z : Int} {w : World} {e : Ending} {w' : World} (h : FreshNum n neg w e w') (hn : n = z.natAbs) (hb : (neg && decide (0 < n)) = decide (z < 0)) : FreshInt z w e w' := by
  obtain ⟨s, rfl, hr, hbl⟩ := h
  exact ⟨_, rfl, OwnInt.mk hr hn hb, hbl⟩
theorem plusN_int {v u : Value} {a b : Int} {w : World} (hv : IntV w v a) (hu : IntV w u b) (hla : nlen a.natAbs ≤ 1000000) (hlb : nlen b.natAbs ≤ 1000000) : Calls Tryz.prog 56 #[v, u] w (FreshInt (a + b) w) := by
  obtain ⟨a1, c1, rfl, hs⟩ := hv.shape
  obtain ⟨a2, c2, rfl, ht⟩ := hu.shape
  by_cases hsg : (decide (a < 0) == decide (b < 0)) = true
  · refine (plus_same hs ht hla hlb _ _ hsg).mono fun e w' h => h.int ?_ ?_
    · have : (a < 0) ↔ (b < 0) := by simpa using hsg
      omega
    · have : (a < 0) ↔ (b < 0) := by simpa using hsg
      by_cases ha : a < 0
      · have hb := this.1 ha
        rw [decide_eq_true ha, decide_eq_true (show a + b < 0 by omega)]
        simp; omega
      · have hb : ¬ b < 0 := fun hh => ha (this.2 hh)
        rw [decide_eq_false ha, decide_eq_false (show ¬ a + b < 0 by omega)]
        rfl
  · have hsg' : (decide (a < 0) == decide (b < 0)) = false := by simpa using hsg
    have hne : ¬ ((a < 0) ↔ (b < 0)) := by simpa using hsg
    by_cases hc : b.natAbs ≤ a.natAbs
    · refine (plus_big hs ht hla hlb _ _ hc hsg').mono fun e w' h => h.int (by omega) ?_
      by_cases ha : a < 0
      · rw [decide_eq_true ha]
        by_cases h0 : a + b < 0
        · rw [decide_eq_true h0, decide_eq_true (by omega)]; rfl
        · rw [decide_eq_false h0, decide_eq_false (by omega)]; rfl
      · rw [decide_eq_false ha, decide_eq_false (show ¬ a + b < 0 by omega)]
        rfl
    · refine (plus_less hs ht hla hlb _ _ (by omega) hsg').mono fun e w' h => h.int (by omega) ?_
      by_cases hb : b < 0
      · rw [decide_eq_true hb]
        by_cases h0 : a + b < 0
        · rw [decide_eq_true h0, decide_eq_true (by omega)]; rfl
        · rw [decide_eq_false h0, decide_eq_false (by omega)]; rfl
      · rw [decide_eq_false hb, decide_eq_false (show ¬ a + b < 0 by omega)]
        rfl
theorem timesN_int {v u : Value} {a b : Int} {w : World} (hv : IntV w v a) (hu : IntV w u b) (hla : nlen a.natAbs ≤ 1000000) (hlb : nlen b.natAbs ≤ 1000000) : Calls Tryz.prog 62 #[v, u] w (FreshInt (a * b) w) := by
  obtain ⟨a1, c1, rfl, hs⟩ := hv.shape
  obtain ⟨a2, c2, rfl, ht⟩ := hu.shape
  refine (timesN hs ht hla hlb _ _).mono fun e w' h => h.int (Int.natAbs_mul a b).symm ?_
  rw [← Int.natAbs_mul]
  by_cases h0 : a * b < 0
  · have e2 : decide (0 < (a * b).natAbs) = true := decide_eq_true (by omega)
    rw [decide_eq_true h0, e2]
    have e : (decide (a < 0) == decide (b < 0)) = false := by
      by_cases ha : a < 0
      · by_cases hb : b < 0
        · have := Int.mul_pos_of_neg_of_neg ha hb
          omega
        · rw [decide_eq_true ha, decide_eq_false hb]; rfl
      · by_cases hb : b < 0
        · rw [decide_eq_false ha, decide_eq_true hb]; rfl
        · have h1 : 0 ≤ a := by omega
          have h2 : 0 ≤ b := by omega
          have := Int.mul_nonneg h1 h2
          omega
    rw [e]; rfl
  · rw [decide_eq_false h0]
    by_cases hz : a * b = 0
    · rw [hz]; simp
    · have hp : 0 < a * b := by omega
      have : (a < 0) ↔ (b < 0) := by
        constructor
        · intro ha
          apply Decidable.byContradiction
          intro hb
          have := Int.mul_nonpos_of_nonpos_of_nonneg (show a ≤ 0 by omega) (show 0 ≤ b by omega)
          omega
        · intro hb
          apply Decidable.byContradiction
          intro ha
          have := Int.mul_nonpos_of_nonneg_of_nonpos (show 0 ≤ a by omega) (show b ≤ 0 by omega)
          omega
      have e : (decide (a < 0) == decide (b < 0)) = true := by simpa using this
      rw [e]; rfl
end Go.Proofs.YtkhgoeippamobaaGreatDoor
/-
  A region that draws its order: loads may be taken first although the region's last operations write the cells that they read: the condition on the world is asked only as long as loads are waited for.
-/
namespace Go.Proofs.YtkhgoeippamobaaGreatDoor
open Go.RowKit
section
variable {P : Program} {ops : Array Oper} {Q : Exit → Act → World → Prop} {md : Region.Mode} {S : World → Prop} {late : Nat → Bool}
/-- whatever order is picked; behind each operation that is not late, S holds -/
def anyU (P : Program) (md : Region.Mode) (ops : Array Oper) (Q : Exit → Act → World → Prop) (late : Nat → Bool) (S : World → Prop) : Nat → Array Bool → Act → World → Prop
  | 0, listed, a, w => Region.ready md ops listed = [] ∧ Q .normal a w
  | fuel + 1, listed, a, w => (Region.ready md ops listed = [] → Q .normal a w) ∧
      ∀ i ∈ Region.ready md ops listed, wpOp P ops Q i (fun b u => (late i = true ∨ S u) ∧ anyU P md ops Q late S fuel (listed.setIfInBounds i true) b u) a w
theorem any_of_U : ∀ (fuel : Nat) (listed : Array Bool) (a : Act) (w : World), anyU P md ops Q late S fuel listed a w → wpAny P md ops Q fuel listed a w
  | 0, _, _, _, h => h
  | fuel + 1, _, _, _, h => ⟨h.1, fun i hi => wpOp_mono (fun b u k => any_of_U fuel _ b u k.2) (h.2 i hi)⟩
theorem unlisted_of_ready {i : Nat} {listed : Array Bool} (h : i ∈ Region.ready md ops listed) : listed.getD i false = false := by
  have h0 := (mem_ready.1 h).1
  by_cases hlt : i < listed.size
  · simp [hlt] at h0 ⊢; exact h0
  · simp [Array.getElem?_eq_none (Nat.le_of_not_lt hlt)]
/-- what is listed has all that it waits for listed -/
def Closed (md : Region.Mode) (ops : Array Oper) (listed : Array Bool) : Prop := ∀ j oj, ops[j]? = some oj → listed.getD j false = true → ∀ e ∈ oj.after, Region.binds md e = true → listed.getD e.on false = true
theorem Closed.add {j : Nat} {listed : Array Bool} (h : Closed md ops listed) (hj : j ∈ Region.ready md ops listed) : Closed md ops (listed.setIfInBounds j true) := by
  obtain ⟨_, oj, hoj, hall⟩ := mem_ready.1 hj
  intro k ok hk hl e he hb
  apply getD_set_true
  rcases Nat.decEq j k with hjk | rfl
  · rw [getD_set_ne false hjk] at hl
    exact h k ok hk hl e he hb
  · have := Option.some.inj (hoj.symm.trans hk)
    subst this
    exact hall e he hb
/-- number j waits for number i, by one step or two -/
def waitsB (md : Region.Mode) (ops : Array Oper) (j i : Nat) : Bool :=
  ((ops[j]?).map fun o => o.after.any fun e => Region.binds md e && (e.on == i || ((ops[e.on]?).map fun o' => o'.after.any fun e' => Region.binds md e' && e'.on == i).getD false)).getD false
theorem waitsB_listed {i j : Nat} {listed : Array Bool} (h : waitsB md ops j i = true) (hc : Closed md ops listed) (hj : j ∈ Region.ready md ops listed) : listed.getD i false = true := by
  obtain ⟨_, oj, hoj, hall⟩ := mem_ready.1 hj
  unfold waitsB at h
  rw [hoj] at h
  have h2 : (oj.after.any fun e => Region.binds md e && (e.on == i || ((ops[e.on]?).map fun o' => o'.after.any fun e' => Region.binds md e' && e'.on == i).getD false)) = true := h
  obtain ⟨e, he, hb⟩ := Array.any_eq_true'.1 h2
  simp only [Bool.and_eq_true, Bool.or_eq_true, beq_iff_eq] at hb
  rcases hb.2 with h3 | h3
  · rw [← h3]; exact hall e he hb.1
  · cases ho : ops[e.on]? with
    | none => rw [ho] at h3; cases h3
    | some o' =>
      rw [ho] at h3
      have h4 : (o'.after.any fun e' => Region.binds md e' && e'.on == i) = true := h3
      obtain ⟨e', he', hb'⟩ := Array.any_eq_true'.1 h4
      simp only [Bool.and_eq_true, beq_iff_eq] at hb'
      rw [← hb'.2]
      exact hc e.on o' ho (hall e he hb.1) e' he' hb'.1
theorem U_first {i : Nat} {oi : Oper} {v : Value} (hi : ops[i]? = some oi) (hsel : ∀ (j : Nat) (o : Oper) cs b, ops[j]? = some o → o.op ≠ .select cs b)
    (hQ : ∀ c a w, Q (.panic c) (a.put oi.dst v) w → Q (.panic c) a w)
    (hlate : ∀ j, j < ops.size → late j = true → waitsB md ops j i = true) :
    ∀ (fuel : Nat) (listed : Array Bool) (a : Act) (w : World), Closed md ops listed →
      (∀ j oj, ops[j]? = some oj → j ≠ i → listed.getD j true = false → (∀ e ∈ oj.after, Region.binds md e = true → e.on ≠ i) → oi.apart ops oj = true) →
      i ∈ Region.ready md ops listed → YieldsIf P ops S oi v a → S w →
      anyU P md ops Q late S fuel (listed.setIfInBounds i true) (a.put oi.dst v) w → anyU P md ops Q late S (fuel + 1) listed a w
  | 0, listed, a, w, _, _, hr, hy, hS, H => by
    refine ⟨fun h => (by rw [h] at hr; cases hr), fun j hj => ?_⟩
    rcases Nat.decEq j i with hji | rfl
    · have hm := ready_mono hj hji
      rw [H.1] at hm; cases hm
    · exact hy.wpOp hi hS ⟨.inr hS, H⟩
  | fuel + 1, listed, a, w, hcl, hfree, hr, hy, hS, H => by
    refine ⟨fun h => (by rw [h] at hr; cases hr), fun j hj => ?_⟩
    rcases Nat.decEq j i with hji | rfl
    · obtain ⟨hjun, oj, hoj, hall⟩ := mem_ready.1 hj
      have hno : ∀ e ∈ oj.after, Region.binds md e = true → e.on ≠ i := fun e he hb heq => by
        have h1 := hall e he hb
        rw [heq, unlisted_of_ready hr] at h1; cases h1
      have hnl : ¬ late j = true := fun hl => by
        have h1 := waitsB_listed (hlate j (Array.getElem?_eq_some_iff.1 hoj).1 hl) hcl hj
        rw [unlisted_of_ready hr] at h1; cases h1
      have h2 := wpOp_putIf hoj (hfree j oj hoj hji hjun hno) (fun cs b => hsel i oi cs b hi) (fun cs b => hsel j oj cs b hoj) hQ hy (H.2 j (ready_mono hj hji))
      refine wpOp_mono (fun b u k => ?_) h2
      have hSu := k.2.1.resolve_left hnl
      refine ⟨.inr hSu, U_first hi hsel hQ hlate fuel _ b u (hcl.add hj) ?_ (ready_mono hr (Ne.symm hji)) k.1 hSu ?_⟩
      · intro l ol hol hli hun hw
        refine hfree l ol hol hli ?_ hw
        by_cases hjl : j = l
        · exact hjl ▸ hjun
        · rwa [getD_set_ne true hjl] at hun
      · rw [Array.setIfInBounds_comm _ _ hji]; exact k.2.2
    · exact hy.wpOp hi hS ⟨.inr hS, H⟩
def lateB (md : Region.Mode) (ops : Array Oper) (late : Nat → Bool) (i : Nat) : Bool := (List.range ops.size).all fun j => !late j || waitsB md ops j i
theorem lateB_spec {i : Nat} (h : lateB md ops late i = true) (j : Nat) (hj : j < ops.size) (hl : late j = true) : waitsB md ops j i = true := by
  have h1 := List.all_eq_true.1 h j (List.mem_range.2 hj)
  rwa [hl] at h1
def closedB (md : Region.Mode) (ops : Array Oper) (listed : Array Bool) : Bool := (List.range ops.size).all fun j => !listed.getD j false || ((ops[j]?).map fun o => o.after.all fun e => !Region.binds md e || listed.getD e.on false).getD true
theorem closedB_spec {listed : Array Bool} (h : closedB md ops listed = true) : Closed md ops listed := by
  intro j oj hj hl e he hb
  have h1 := List.all_eq_true.1 h j (List.mem_range.2 (Array.getElem?_eq_some_iff.1 hj).1)
  rw [hl, hj] at h1
  have h2 : (oj.after.all fun e => !Region.binds md e || listed.getD e.on false) = true := h1
  have h3 := Array.all_eq_true_iff_forall_mem.1 h2 e he
  rw [hb] at h3
  exact h3
theorem U_take {i : Nat} {oi : Oper} {v : Value} {fuel : Nat} {listed : Array Bool} {a : Act} {w : World} (hi : ops[i]? = some oi)
    (hs : Region.noSelect ops = true) (hf : Region.free md ops listed i = true) (hr : (Region.ready md ops listed).contains i = true) (hl : lateB md ops late i = true) (hc : closedB md ops listed = true)
    (hQ : ∀ c a w, Q (.panic c) (a.put oi.dst v) w → Q (.panic c) a w) (hy : YieldsIf P ops S oi v a) (hS : S w)
    (h : anyU P md ops Q late S fuel (listed.setIfInBounds i true) (a.put oi.dst v) w) : anyU P md ops Q late S (fuel + 1) listed a w :=
  U_first hi (Region.noSelect_spec hs) hQ (lateB_spec hl) fuel listed a w (closedB_spec hc) (Region.free_spec hi hf) (by simpa using hr) hy hS h
theorem U_begin {id : Nat} {a : Act} {w : World} (hm : P.follows .mixedOrders = true) (h : anyU P .any ops Q late S ops.size (Array.replicate ops.size false) a w.drew) : (Code.region id ops true).wp P Q a w :=
  wp_region_any hm (any_of_U _ _ _ _ h)
/-- one operation alone may come up -/
theorem U_step {j : Nat} {o : Oper} {fuel : Nat} {listed : Array Bool} {a : Act} {w : World} (hr : Region.ready md ops listed = [j]) (ho : ops[j]? = some o)
    (h : ∀ K : Act → World → Prop, Hid (∀ b u, (late j = true ∨ S u) → anyU P md ops Q late S fuel (listed.setIfInBounds j true) b u → K b u) → if Region.wanted o (yielded ops a.tmps) = true then Oper.wp P o a w K Q else K (a.put o.dst undef) w) :
    anyU P md ops Q late S (fuel + 1) listed a w := by
  refine ⟨fun h0 => (by rw [hr] at h0; cases h0), fun i hi => ?_⟩
  rw [hr] at hi
  obtain rfl : i = j := by simpa using hi
  exact wpOp_step ho fun K hK => h K fun b u h1 h2 => hK b u ⟨h1, h2⟩
/-- two operations may come up -/
theorem U_two {j1 j2 : Nat} {o1 o2 : Oper} {fuel : Nat} {listed : Array Bool} {a : Act} {w : World} (hr : Region.ready md ops listed = [j1, j2]) (ho1 : ops[j1]? = some o1) (ho2 : ops[j2]? = some o2)
    (h1 : ∀ K : Act → World → Prop, Hid (∀ b u, (late j1 = true ∨ S u) → anyU P md ops Q late S fuel (listed.setIfInBounds j1 true) b u → K b u) → if Region.wanted o1 (yielded ops a.tmps) = true then Oper.wp P o1 a w K Q else K (a.put o1.dst undef) w)
    (h2 : ∀ K : Act → World → Prop, Hid (∀ b u, (late j2 = true ∨ S u) → anyU P md ops Q late S fuel (listed.setIfInBounds j2 true) b u → K b u) → if Region.wanted o2 (yielded ops a.tmps) = true then Oper.wp P o2 a w K Q else K (a.put o2.dst undef) w) :
    anyU P md ops Q late S (fuel + 1) listed a w := by
  refine ⟨fun h0 => (by rw [hr] at h0; cases h0), fun i hi => ?_⟩
  rw [hr] at hi
  simp only [List.mem_cons, List.mem_nil_iff, or_false] at hi
  rcases hi with rfl | rfl
  · exact wpOp_step ho1 fun K hK => h1 K fun b u h1 h2 => hK b u ⟨h1, h2⟩
  · exact wpOp_step ho2 fun K hK => h2 K fun b u h1 h2 => hK b u ⟨h1, h2⟩
theorem U_done {listed : Array Bool} {a : Act} {w : World} (hr : Region.ready md ops listed = []) (h : Q .normal a w) : ∀ fuel, anyU P md ops Q late S fuel listed a w
  | 0 => ⟨hr, h⟩
  | _ + 1 => ⟨fun _ => h, by rw [hr]; simp⟩
end
end Go.Proofs.YtkhgoeippamobaaGreatDoor
/-
  Quotient and remainder of integers, rounded down.
-/
namespace Go.Proofs.YtkhgoeippamobaaGreatDoor
open Go.RowKit
def sgnInt (neg : Bool) (n : Nat) : Int := if neg then -(n : Int) else (n : Int)
theorem IntV.of {w : World} {s : Value} {n : Nat} (neg : Bool) (h : NatRep w s n) : IntV w (.agg #[s, .bool (neg && decide (0 < n)), .bool false]) (sgnInt neg n) := by
  refine IntV.mk h ?_ ?_
  · cases neg <;> simp [sgnInt]
  · cases neg
    · simp [sgnInt]
    · simp [sgnInt]
/-- rounding down, by sizes -/
theorem fdiv_sizes (a b : Int) (hb : b ≠ 0) :
    (0 < a.natAbs % b.natAbs → (!(decide (a < 0) == decide (b < 0))) = true → a.fdiv b = sgnInt (!(decide (a < 0) == decide (b < 0))) (a.natAbs / b.natAbs) + -1 ∧ a.fmod b = sgnInt (decide (a < 0)) (a.natAbs % b.natAbs) + b) ∧
    ((a.natAbs % b.natAbs = 0 ∨ (!(decide (a < 0) == decide (b < 0))) = false) → a.fdiv b = sgnInt (!(decide (a < 0) == decide (b < 0))) (a.natAbs / b.natAbs) ∧ a.fmod b = sgnInt (decide (a < 0)) (a.natAbs % b.natAbs)) := by
  have h1 := Nat.div_add_mod a.natAbs b.natAbs
  have h2 : a.natAbs % b.natAbs < b.natAbs := Nat.mod_lt _ (by omega)
  generalize hQ : a.natAbs / b.natAbs = Q at *
  generalize hR : a.natAbs % b.natAbs = R at *
  have h3 : (b.natAbs : Int) * (Q : Int) + (R : Int) = (a.natAbs : Int) := by exact_mod_cast h1
  rcases Int.lt_or_gt_of_ne hb with hbn | hbp
  · have e1 : (b.natAbs : Int) = -b := by omega
    rw [e1] at h3
    have e4 : -b * (Q : Int) = -(b * Q) := Int.neg_mul _ _
    rw [e4] at h3
    have hd : decide (b < 0) = true := decide_eq_true hbn
    rw [hd]
    by_cases ha : a < 0
    · have hda : decide (a < 0) = true := decide_eq_true ha
      rw [hda]
      refine ⟨fun _ h => by simp at h, fun _ => ?_⟩
      refine (Int.fdiv_fmod_unique' hbn).2 ⟨?_, ?_, ?_⟩ <;> simp [sgnInt] <;> omega
    · have hda : decide (a < 0) = false := decide_eq_false ha
      rw [hda]
      have e5 : b * -(Q : Int) = -(b * Q) := Int.mul_neg _ _
      have e6 : b * (-(Q : Int) + -1) = -(b * Q) - b := by rw [Int.mul_add, e5]; omega
      refine ⟨fun h0 _ => ?_, fun h => ?_⟩
      · refine (Int.fdiv_fmod_unique' hbn).2 ⟨?_, ?_, ?_⟩ <;> simp [sgnInt] <;> omega
      · refine (Int.fdiv_fmod_unique' hbn).2 ⟨?_, ?_, ?_⟩ <;> simp [sgnInt] at h ⊢ <;> omega
  · have e1 : (b.natAbs : Int) = b := by omega
    rw [e1] at h3
    have hd : decide (b < 0) = false := decide_eq_false (by omega)
    rw [hd]
    by_cases ha : a < 0
    · have hda : decide (a < 0) = true := decide_eq_true ha
      rw [hda]
      have e5 : b * -(Q : Int) = -(b * Q) := Int.mul_neg _ _
      have e6 : b * (-(Q : Int) + -1) = -(b * Q) - b := by rw [Int.mul_add, e5]; omega
      refine ⟨fun h0 _ => ?_, fun h => ?_⟩
      · refine (Int.fdiv_fmod_unique hbp).2 ⟨?_, ?_, ?_⟩ <;> simp [sgnInt] <;> omega
      · refine (Int.fdiv_fmod_unique hbp).2 ⟨?_, ?_, ?_⟩ <;> simp [sgnInt] at h ⊢ <;> omega
    · have hda : decide (a < 0) = false := decide_eq_false ha
      rw [hda]
      refine ⟨fun _ h => by simp at h, fun _ => ?_⟩
      refine (Int.fdiv_fmod_unique hbp).2 ⟨?_, ?_, ?_⟩ <;> simp [sgnInt] <;> omega
theorem OwnInt.shape4 {w : World} {base : Nat} {v : Value} {z : Int} (h : OwnInt w base v z) : ∃ a n c b, v = .agg #[.slice a n c, .bool b, .bool false] := by
  obtain ⟨s, rfl, h⟩ := h
  obtain ⟨a, c, rfl⟩ := h.shape
  exact ⟨_, _, _, _, rfl⟩
theorem OwnInt.keep {w w' : World} {base : Nat} {v : Value} {z : Int} (h : OwnInt w base v z) (hb : Below w.heap.size w w') : OwnInt w' base v z := by
  obtain ⟨s, rfl, h⟩ := h
  exact ⟨s, rfl, h.keep hb (Nat.le_refl _)⟩
theorem OwnInt.mono {w : World} {base base' : Nat} {v : Value} {z : Int} (h : OwnInt w base v z) (hb : base' ≤ base) : OwnInt w base' v z := by
  obtain ⟨s, rfl, h⟩ := h
  exact ⟨s, rfl, h.mono hb⟩
theorem OwnInt.set3 {w : World} {base b : Nat} {v : Value} {z : Int} (h : OwnInt w base v z) (hb : b < base) (x y t : Value) : OwnInt (((w.setCell ⟨b, 0, none⟩ x).setCell ⟨b, 1, none⟩ y).setCell ⟨b, 2, none⟩ t) base v z := by
  obtain ⟨s, rfl, h⟩ := h
  exact ⟨s, rfl, own_set3 h x y t hb⟩
theorem OwnInt.of {w : World} {base : Nat} {s : Value} {n : Nat} (neg : Bool) (h : Own .u32 75 w base s (nlen n) (D n)) : OwnInt w base (.agg #[s, .bool (neg && decide (0 < n)), .bool false]) (sgnInt neg n) := by
  refine OwnInt.mk h ?_ ?_
  · cases neg <;> simp [sgnInt]
  · cases neg <;> simp [sgnInt]
theorem IntV.shape4 {w : World} {v : Value} {z : Int} (h : IntV w v z) : ∃ a n c b, v = .agg #[.slice a n c, .bool b, .bool false] := by
  obtain ⟨a, c, rfl, _⟩ := h.shape
  exact ⟨_, _, _, _, rfl⟩
theorem natAbs_sgnInt (neg : Bool) (n : Nat) : (sgnInt neg n).natAbs = n := by cases neg <;> simp [sgnInt]
theorem one_rep (W : World) : NatRep (W.alloc (.cells #[.int .u32 1] 75)).drew (.slice (some ⟨W.heap.size, 0, none⟩) 1 1) 1 := by
  have hn : nlen 1 = 1 := by decide
  refine ⟨some ⟨W.heap.size, 0, none⟩, 1, by rw [hn], by rw [hn]; exact Nat.le_refl _, fun _ => ⟨W.heap.size, 0, rfl, by simp [World.drew], fun i hi => ?_⟩⟩
  rw [hn] at hi
  obtain rfl : i = 0 := by omega
  exact (Blk.new W #[.int .u32 1] 75).cell 0
set_option maxRecDepth 100000 in
set_option maxHeartbeats 40000000 in
theorem overN {v u : Value} {a b : Int} {w : World} (hv : IntV w v a) (hu : IntV w u b) (hm : nlen a.natAbs ≤ 1000000) (hn : nlen b.natAbs ≤ 1000000) (hb0 : b ≠ 0) :
    Calls Tryz.prog 76 #[v, u] w fun e w' => ∃ q r, e = .returned (.tuple #[q, r]) ∧ OwnInt w' w.heap.size q (a.fdiv b) ∧ OwnInt w' w.heap.size r (a.fmod b) ∧ Below w.heap.size w w' := by
  obtain ⟨a1, c1, rfl, hs⟩ := hv.shape
  obtain ⟨a2, c2, rfl, ht⟩ := hu.shape
  have hsz := fdiv_sizes a b hb0
  have hnb : 0 < b.natAbs := by omega
  have hHV := hid hv
  have hHU := hid hu
  clear hv hu
  generalize decide (a < 0) = sa at *
  generalize decide (b < 0) = sb at *
  have HS := hid hsz
  clear hsz
  have k1 := Blk.new w #[.slice a1 (nlen a.natAbs) c1, .bool sa, .bool false] 49
  have k2 := Blk.new (w.alloc (.cells #[.slice a1 (nlen a.natAbs) c1, .bool sa, .bool false] 49)) #[.slice a2 (nlen b.natAbs) c2, .bool sb, .bool false] 49
  have k3 := Blk.new ((w.alloc (.cells #[.slice a1 (nlen a.natAbs) c1, .bool sa, .bool false] 49)).alloc (.cells #[.slice a2 (nlen b.natAbs) c2, .bool sb, .bool false] 49)) #[.slice none 0 0, .bool false, .bool false] 49
  have k4 := Blk.new (((w.alloc (.cells #[.slice a1 (nlen a.natAbs) c1, .bool sa, .bool false] 49)).alloc (.cells #[.slice a2 (nlen b.natAbs) c2, .bool sb, .bool false] 49)).alloc (.cells #[.slice none 0 0, .bool false, .bool false] 49)) #[.slice none 0 0, .bool false, .bool false] 49
  simp only [World.size_alloc] at k2 k3 k4
  replace k1 := ((k1.alloc (.cells #[.slice a2 (nlen b.natAbs) c2, .bool sb, .bool false] 49)).alloc (.cells #[.slice none 0 0, .bool false, .bool false] 49)).alloc (.cells #[.slice none 0 0, .bool false, .bool false] 49)
  replace k2 := (k2.alloc (.cells #[.slice none 0 0, .bool false, .bool false] 49)).alloc (.cells #[.slice none 0 0, .bool false, .bool false] 49)
  replace k3 := k3.alloc (.cells #[.slice none 0 0, .bool false, .bool false] 49)
  have hb0 : Below w.heap.size w ((((w.alloc (.cells #[.slice a1 (nlen a.natAbs) c1, .bool sa, .bool false] 49)).alloc (.cells #[.slice a2 (nlen b.natAbs) c2, .bool sb, .bool false] 49)).alloc (.cells #[.slice none 0 0, .bool false, .bool false] 49)).alloc (.cells #[.slice none 0 0, .bool false, .bool false] 49)) := ((((Below.refl _ _).alloc (Nat.le_refl _) _).alloc (by simp) _).alloc (by simp; omega) _).alloc (by simp; omega) _
  go_enter Tryz.func76, Tryz.ntmps76
  go_wp2_with fail
  generalize (((w.alloc (.cells #[.slice a1 (nlen a.natAbs) c1, .bool sa, .bool false] 49)).alloc (.cells #[.slice a2 (nlen b.natAbs) c2, .bool sb, .bool false] 49)).alloc (.cells #[.slice none 0 0, .bool false, .bool false] 49)).alloc (.cells #[.slice none 0 0, .bool false, .bool false] 49) = w0 at *
  refine (over_nat (hs.below hb0) (ht.below hb0) (by omega) (by omega) hnb).mono ?_
  rintro e w1 ⟨⟨q, r, rfl, hq, hr⟩, hb1⟩
  have hqn : nlen (a.natAbs / b.natAbs) ≤ nlen a.natAbs := nlen_mono (Nat.div_le_self _ _)
  have hrn : nlen (a.natAbs % b.natAbs) ≤ nlen b.natAbs := nlen_mono (Nat.le_of_lt (Nat.mod_lt _ hnb))
  generalize a.natAbs / b.natAbs = Q at *
  generalize a.natAbs % b.natAbs = R at *
  obtain ⟨qa, qc, rfl⟩ := hq.shape
  obtain ⟨ra, rc, rfl⟩ := hr.shape
  replace k1 := k1.later hb1
  replace k2 := k2.later hb1
  replace k3 := k3.later hb1
  have hz4 := k4.lt
  replace k4 := k4.later hb1
  have hbw1 : Below w.heap.size w w1 := hb0.trans (hb1.mono hb0.size)
  obtain ⟨⟨p1, p2, p3⟩, _⟩ := k1.three
  obtain ⟨⟨q1, q2, q3⟩, _⟩ := k2.three
  have p2d : w1.drew.cell? ⟨w.heap.size, 1, none⟩ = some (.bool sa) := p2
  have q2d : w1.drew.cell? ⟨w.heap.size + 1, 1, none⟩ = some (.bool sb) := q2
  have hq0 := hq.nat
  have hr0 := hr.nat
  have HQ := hid hqn
  have HR := hid hrn
  have HC1 := hid (fun (neg : Bool) => of_nat (hq0.below (Below.refl _ _).drew) neg (by omega))
  clear hqn hrn
  go_wp2
  go_region_held3 (fun w' => w'.cell? ⟨w.heap.size, 1, none⟩ = some (.bool sa) ∧ w'.cell? ⟨w.heap.size + 1, 1, none⟩ = some (.bool sb))
    (first | with_reducible exact ⟨p2d, q2d⟩ | with_reducible exact ⟨p2', q2'⟩ | with_reducible exact ⟨p2'', q2''⟩ | with_reducible exact ⟨(cell_set3 _ _ _ _ (by omega)).trans p2'', (cell_set3 _ _ _ _ (by omega)).trans q2''⟩ | with_reducible exact ⟨(cell_set3 _ _ _ _ (by omega)).trans ((cell_set3 _ _ _ _ (by omega)).trans p2''), (cell_set3 _ _ _ _ (by omega)).trans ((cell_set3 _ _ _ _ (by omega)).trans q2'')⟩)
    (first
    | (go_at_call 84; (with_reducible refine (HC1.out _).mono ?_); rintro e w2 ⟨rfl, hb2⟩; have k1' := k1.drew.later hb2; have k2' := k2.drew.later hb2; have k3' := k3.drew.later hb2; have k4' := k4.drew.later hb2; have hr1 : Own .u32 75 w2 w0.heap.size (.slice ra (nlen R) rc) (nlen R) (D R) := Own.keep (w := w1.drew) hr hb2 (Nat.le_refl _); have hq1 : Own .u32 75 w2 w0.heap.size (.slice qa (nlen Q) qc) (nlen Q) (D Q) := Own.keep (w := w1.drew) hq hb2 (Nat.le_refl _); have HC2 := hid (fun (neg : Bool) => of_nat hr1.nat neg (by have := HR.out; omega)); obtain ⟨⟨p1', p2', p3'⟩, _⟩ := k1'.three; obtain ⟨⟨q1', q2', q3'⟩, _⟩ := k2'.three)
    | (go_at_call 84; (with_reducible refine (HC2.out _).mono ?_); rintro e w3 ⟨rfl, hb3⟩; have k1'' := k1'.later hb3; have k2'' := k2'.later hb3; have k3'' := k3'.later hb3; have k4'' := k4'.later hb3; have hr2 := hr1.keep hb3 (Nat.le_refl _); have hq2 := hq1.keep hb3 (Nat.le_refl _); obtain ⟨⟨p1'', p2'', p3''⟩, _⟩ := k1''.three; obtain ⟨⟨q1'', q2'', q3''⟩, _⟩ := k2''.three; obtain ⟨⟨x1, x2, x3⟩, ⟨y1, y2, y3⟩⟩ := k3''.three; obtain ⟨⟨z1, z2, z3⟩, ⟨v1, v2, v3⟩⟩ := k4''.three))
  have hz1 := hb1.size
  have hz2 := hb2.size
  have hz3 := hb3.size
  have hbw3 : Below w.heap.size w w3 := hbw1.trans ((Below.refl _ _).drew.trans ((hb2.mono hbw1.size).trans (hb3.mono (Nat.le_trans hbw1.size hz2))))
  have hq3 := own_set3 (own_set3 hq2 (.slice qa (nlen Q) qc) (.bool (!(sa == sb) && decide (0 < Q))) (.bool false) (b := w.heap.size + 1 + 1) (by omega)) (.slice ra (nlen R) rc) (.bool (sa && decide (0 < R))) (.bool false) (b := w.heap.size + 1 + 1 + 1) (by omega)
  have hr3 := own_set3 (own_set3 hr2 (.slice qa (nlen Q) qc) (.bool (!(sa == sb) && decide (0 < Q))) (.bool false) (b := w.heap.size + 1 + 1) (by omega)) (.slice ra (nlen R) rc) (.bool (sa && decide (0 < R))) (.bool false) (b := w.heap.size + 1 + 1 + 1) (by omega)
  have K1 := ((k1''.set3_ne (b := w.heap.size + 1 + 1) (by omega) (.slice qa (nlen Q) qc) (.bool (!(sa == sb) && decide (0 < Q))) (.bool false)).set3_ne (b := w.heap.size + 1 + 1 + 1) (by omega) (.slice ra (nlen R) rc) (.bool (sa && decide (0 < R))) (.bool false))
  have K2 := ((k2''.set3_ne (b := w.heap.size + 1 + 1) (by omega) (.slice qa (nlen Q) qc) (.bool (!(sa == sb) && decide (0 < Q))) (.bool false)).set3_ne (b := w.heap.size + 1 + 1 + 1) (by omega) (.slice ra (nlen R) rc) (.bool (sa && decide (0 < R))) (.bool false))
  have K3 := ((k3''.set3 (.slice qa (nlen Q) qc) (.bool (!(sa == sb) && decide (0 < Q))) (.bool false)).set3_ne (b := w.heap.size + 1 + 1 + 1) (by omega) (.slice ra (nlen R) rc) (.bool (sa && decide (0 < R))) (.bool false))
  have K4 := ((k4''.set3_ne (b := w.heap.size + 1 + 1) (by omega) (.slice qa (nlen Q) qc) (.bool (!(sa == sb) && decide (0 < Q))) (.bool false)).set3 (.slice ra (nlen R) rc) (.bool (sa && decide (0 < R))) (.bool false))
  have hbW := ((((((hbw3.setCell (p := ⟨w.heap.size + 1 + 1, 0, none⟩) (by simp; omega) (.slice qa (nlen Q) qc)).setCell (p := ⟨w.heap.size + 1 + 1, 1, none⟩) (by simp; omega) (.bool (!(sa == sb) && decide (0 < Q)))).setCell (p := ⟨w.heap.size + 1 + 1, 2, none⟩) (by simp; omega) (.bool false)).setCell (p := ⟨w.heap.size + 1 + 1 + 1, 0, none⟩) (by simp; omega) (.slice ra (nlen R) rc)).setCell (p := ⟨w.heap.size + 1 + 1 + 1, 1, none⟩) (by simp; omega) (.bool (sa && decide (0 < R)))).setCell (p := ⟨w.heap.size + 1 + 1 + 1, 2, none⟩) (by simp; omega) (.bool false))
  generalize ((((((w3.setCell ⟨w.heap.size + 1 + 1, 0, none⟩ (.slice qa (nlen Q) qc)).setCell ⟨w.heap.size + 1 + 1, 1, none⟩ (.bool (!(sa == sb) && decide (0 < Q)))).setCell ⟨w.heap.size + 1 + 1, 2, none⟩ (.bool false)).setCell ⟨w.heap.size + 1 + 1 + 1, 0, none⟩ (.slice ra (nlen R) rc)).setCell ⟨w.heap.size + 1 + 1 + 1, 1, none⟩ (.bool (sa && decide (0 < R)))).setCell ⟨w.heap.size + 1 + 1 + 1, 2, none⟩ (.bool false)) = W at *
  clear k1 k2 k3 k4 k1' k2' k3' k4' k1'' k2'' k3'' k4'' p1 p2 p3 q1 q2 q3 p1' p2' p3' q1' q2' q3' p1'' p2'' p3'' q1'' q2'' q3'' x1 x2 x3 y1 y2 y3 z1 z2 z3 v1 v2 v3 hq hr hq0 hr0 hq1 hr1 hq2 hr2 HC1 HC2 p2d q2d
  obtain ⟨⟨p1, p2, p3⟩, _⟩ := K1.three
  obtain ⟨⟨q1, q2, q3⟩, _⟩ := K2.three
  obtain ⟨⟨x1, x2, x3⟩, ⟨y1, y2, y3⟩⟩ := K3.three
  obtain ⟨⟨z1, z2, z3⟩, ⟨v1, v2, v3⟩⟩ := K4.three
  have hIQ := IntV.of (!(sa == sb)) hq3.nat
  have hIR := IntV.of sa hr3.nat
  by_cases hcond : 0 < R ∧ (!(sa == sb)) = true
  · have hd := hid (HS.out.1 hcond.1 hcond.2)
    have hsab := hcond.2
    have hn1 : 0 < nlen R := by have := nlen_eq_zero R; omega
    clear hcond hq3 hr3
    rw [hsab, Bool.true_and] at hIQ
    rw [hsab] at hd
    rw [hsab, Bool.true_and] at K3 x2
    generalize decide (0 < Q) = bq at *
    generalize (sa && decide (0 < R)) = br at *
    have hone := hid (one_rep W)
    have HC1 := hid (of_nat (one_rep W) true (by decide))
    have L3 := hid K3.lt
    have L4 := hid K4.lt
    have L2 := hid K2.lt
    have HU2 := hid (hHU.out.below hbW)
    have bq1 : nlen (sgnInt true Q).natAbs ≤ 1000000 := by rw [natAbs_sgnInt]; have := HQ.out; omega
    have br1 : nlen (sgnInt sa R).natAbs ≤ 1000000 := by rw [natAbs_sgnInt]; have := HR.out; omega
    have bo1 : nlen (-1 : Int).natAbs ≤ 1000000 := by decide
    have BQ := hid bq1
    have BR := hid br1
    have BO := hid bo1
    clear bq1 br1 bo1
    go_wp2
    refine U_begin (late := fun i => decide (6 ≤ i)) (S := fun u => Blk u (w.heap.size + 1) #[.slice a2 (nlen b.natAbs) c2, .bool sb, .bool false] 49 ∧ Blk u (w.heap.size + 1 + 1) #[.slice qa (nlen Q) qc, .bool bq, .bool false] 49 ∧ Blk u (w.heap.size + 1 + 1 + 1) #[.slice ra (nlen R) rc, .bool br, .bool false] 49) (by kernel_rfl) ?_
    refine U_take (i := 0) (v := .agg #[.slice qa (nlen Q) qc, .bool bq, .bool false]) rfl (by kernel_rfl) (by kernel_rfl) (by kernel_rfl) (by kernel_rfl) (by kernel_rfl) (fun _ _ _ h => h) (.inl ⟨rfl, fun u hu => (by obtain ⟨⟨h1, h2, h3⟩, _⟩ := hu.2.1.three; go_simp)⟩) ⟨K2.drew, K3.drew, K4.drew⟩ ?_
    refine U_take (i := 4) (v := .agg #[.slice ra (nlen R) rc, .bool br, .bool false]) rfl (by kernel_rfl) (by kernel_rfl) (by kernel_rfl) (by kernel_rfl) (by kernel_rfl) (fun _ _ _ h => h) (.inl ⟨rfl, fun u hu => (by obtain ⟨⟨h1, h2, h3⟩, _⟩ := hu.2.2.three; go_simp)⟩) ⟨K2.drew, K3.drew, K4.drew⟩ ?_
    refine U_take (i := 5) (v := .agg #[.slice a2 (nlen b.natAbs) c2, .bool sb, .bool false]) rfl (by kernel_rfl) (by kernel_rfl) (by kernel_rfl) (by kernel_rfl) (by kernel_rfl) (fun _ _ _ h => h) (.inl ⟨rfl, fun u hu => (by obtain ⟨⟨h1, h2, h3⟩, _⟩ := hu.1.three; go_simp)⟩) ⟨K2.drew, K3.drew, K4.drew⟩ ?_
    refine U_step (j := 1) (by kernel_rfl) rfl (fun K hK => ?_)
    go_simp
    refine hK.out _ _ (.inr ⟨(K2.alloc _).drew, (K3.alloc _).drew, (K4.alloc _).drew⟩) ?_
    clear hK K
    refine U_step (j := 2) (by kernel_rfl) rfl (fun K hK => ?_)
    go_simp
    (with_reducible refine HC1.out.mono ?_); rintro e w4 ⟨rfl, hb4⟩
    have hb4' : Below W.heap.size W w4 := ((Below.refl _ W).alloc (Nat.le_refl _) _).drew.trans (hb4.mono (by simp))
    have hI1 : IntV w4 (.agg #[.slice (some ⟨W.heap.size, 0, none⟩) 1 1, .bool true, .bool false]) (-1) := IntV.of true (hone.out.below hb4)
    have PL1 := hid (plusN_int (hIQ.below hb4') hI1 BQ.out BO.out)
    refine hK.out _ _ (.inr ⟨K2.later hb4', K3.later hb4', K4.later hb4'⟩) ?_
    clear hK K
    refine U_step (j := 3) (by kernel_rfl) rfl (fun K hK => ?_)
    go_simp
    (with_reducible refine PL1.out.mono ?_); rintro e w5 ⟨v5, rfl, hI5, hb5⟩
    obtain ⟨a5, n5, c5, g5, rfl⟩ := hI5.shape4
    have hb5' := hb4'.trans (hb5.mono hb4'.size)
    have PL2 := hid (plusN_int (hIR.below hb5') (HU2.out.below hb5') BR.out hn)
    refine hK.out _ _ (.inr ⟨K2.later hb5', K3.later hb5', K4.later hb5'⟩) ?_
    clear hK K
    refine U_step (j := 6) (by kernel_rfl) rfl (fun K hK => ?_)
    go_simp
    (with_reducible refine PL2.out.mono ?_); rintro e w6 ⟨v6, rfl, hI6, hb6⟩
    obtain ⟨a6, n6, c6, g6, rfl⟩ := hI6.shape4
    have hb6' := hb5'.trans (hb6.mono hb5'.size)
    have M3 := K3.later hb6'
    have M4 := K4.later hb6'
    obtain ⟨⟨u1, u2, u3⟩, ⟨u4, u5, u6⟩⟩ := M3.three
    obtain ⟨⟨u7, u8, u9⟩, ⟨u10, u11, u12⟩⟩ := M4.three
    refine hK.out _ _ (.inl rfl) ?_
    clear hK K
    refine U_step (j := 7) (by kernel_rfl) rfl (fun K hK => ?_)
    go_simp
    refine hK.out _ _ (.inl rfl) ?_
    clear hK K
    refine U_step (j := 8) (by kernel_rfl) rfl (fun K hK => ?_)
    go_simp
    refine hK.out _ _ (.inl rfl) ?_
    clear hK K
    refine U_done (by kernel_rfl) ?_ _
    go_wp2
    have l3 := K3.lt
    have l4 := K4.lt
    have hs4 := hb4'.size
    have hs5 := hb5.size
    have hF5 : OwnInt _ W.heap.size _ (sgnInt true Q + -1) := (((hI5.keep hb6).mono hs4).set3 (b := w.heap.size + 1 + 1) l3 (.slice a5 n5 c5) (.bool g5) (.bool false)).set3 (b := w.heap.size + 1 + 1 + 1) l4 (.slice a6 n6 c6) (.bool g6) (.bool false)
    have hF6 : OwnInt _ W.heap.size _ (sgnInt sa R + b) := ((hI6.mono (Nat.le_trans hs4 hs5)).set3 (b := w.heap.size + 1 + 1) l3 (.slice a5 n5 c5) (.bool g5) (.bool false)).set3 (b := w.heap.size + 1 + 1 + 1) l4 (.slice a6 n6 c6) (.bool g6) (.bool false)
    have hbF := ((((((hbW.trans (hb6'.mono hbW.size)).setCell (p := ⟨w.heap.size + 1 + 1, 0, none⟩) (by simp; omega) (.slice a5 n5 c5)).setCell (p := ⟨w.heap.size + 1 + 1, 1, none⟩) (by simp; omega) (.bool g5)).setCell (p := ⟨w.heap.size + 1 + 1, 2, none⟩) (by simp; omega) (.bool false)).setCell (p := ⟨w.heap.size + 1 + 1 + 1, 0, none⟩) (by simp; omega) (.slice a6 n6 c6)).setCell (p := ⟨w.heap.size + 1 + 1 + 1, 1, none⟩) (by simp; omega) (.bool g6)).setCell (p := ⟨w.heap.size + 1 + 1 + 1, 2, none⟩) (by simp; omega) (.bool false)
    rw [← hd.out.1] at hF5
    rw [← hd.out.2] at hF6
    exact bodyPost_ret (v := .tuple #[.agg #[.slice a5 n5 c5, .bool g5, .bool false], .agg #[.slice a6 n6 c6, .bool g6, .bool false]]) (by simp [results, Tryz.results76, go_sem, u1, u2, u3, u7, u8, u9]) rfl ⟨_, _, rfl, hF5.mono hbW.size, hF6.mono hbW.size, hbF⟩
  · have hd := hid (HS.out.2 (by
      by_cases h0 : R = 0
      · exact .inl h0
      · right
        cases hb : (!(sa == sb))
        · rfl
        · exact absurd ⟨Nat.pos_of_ne_zero h0, hb⟩ hcond))
    by_cases h0 : R = 0
    · have hn0 : decide ((0 : Int) < (nlen R : Int)) = false := by rw [h0]; rfl
      have hn1 : ¬ (0 < nlen R) := by rw [h0]; decide
      clear hcond h0
      go_wp2
      go_region
      all_goals
        go_wp2
        have hqF := own_set3 (own_set3 hq3 (.slice qa (nlen Q) qc) (.bool (!(sa == sb) && decide (0 < Q))) (.bool false) (b := w.heap.size + 1 + 1) (by omega)) (.slice ra (nlen R) rc) (.bool (sa && decide (0 < R))) (.bool false) (b := w.heap.size + 1 + 1 + 1) (by omega)
        have hrF := own_set3 (own_set3 hr3 (.slice qa (nlen Q) qc) (.bool (!(sa == sb) && decide (0 < Q))) (.bool false) (b := w.heap.size + 1 + 1) (by omega)) (.slice ra (nlen R) rc) (.bool (sa && decide (0 < R))) (.bool false) (b := w.heap.size + 1 + 1 + 1) (by omega)
        have hbF := ((((((hbW.setCell (p := ⟨w.heap.size + 1 + 1, 0, none⟩) (by simp; omega) (.slice qa (nlen Q) qc)).setCell (p := ⟨w.heap.size + 1 + 1, 1, none⟩) (by simp; omega) (.bool (!(sa == sb) && decide (0 < Q)))).setCell (p := ⟨w.heap.size + 1 + 1, 2, none⟩) (by simp; omega) (.bool false)).setCell (p := ⟨w.heap.size + 1 + 1 + 1, 0, none⟩) (by simp; omega) (.slice ra (nlen R) rc)).setCell (p := ⟨w.heap.size + 1 + 1 + 1, 1, none⟩) (by simp; omega) (.bool (sa && decide (0 < R)))).setCell (p := ⟨w.heap.size + 1 + 1 + 1, 2, none⟩) (by simp; omega) (.bool false)).drew
        refine bodyPost_ret (v := .tuple #[.agg #[.slice qa (nlen Q) qc, .bool (!(sa == sb) && decide (0 < Q)), .bool false], .agg #[.slice ra (nlen R) rc, .bool (sa && decide (0 < R)), .bool false]]) (by simp [results, Tryz.results76, go_sem, x1, x2, x3, z1, z2, z3]) rfl ⟨_, _, rfl, ?_, ?_, hbF⟩
        · rw [hd.out.1]
          have hi : OwnInt _ w.heap.size _ _ := OwnInt.of (!(sa == sb)) (Own.mono (hqF.keep (Below.refl _ _).drew (Nat.le_refl _)) hb0.size)
          exact hi
        · rw [hd.out.2]
          exact OwnInt.of sa (Own.mono (hrF.keep (Below.refl _ _).drew (Nat.le_refl _)) hb0.size)
    · have hsab : (!(sa == sb)) = false := by
        cases hb : (!(sa == sb))
        · rfl
        · exact absurd ⟨Nat.pos_of_ne_zero h0, hb⟩ hcond
      have hn1 : 0 < nlen R := by have := nlen_eq_zero R; omega
      clear hcond h0
      go_wp2
      go_region
      all_goals
        go_wp2
        have hqF := own_set3 (own_set3 hq3 (.slice qa (nlen Q) qc) (.bool false) (.bool false) (b := w.heap.size + 1 + 1) (by omega)) (.slice ra (nlen R) rc) (.bool (sa && decide (0 < R))) (.bool false) (b := w.heap.size + 1 + 1 + 1) (by omega)
        have hrF := own_set3 (own_set3 hr3 (.slice qa (nlen Q) qc) (.bool false) (.bool false) (b := w.heap.size + 1 + 1) (by omega)) (.slice ra (nlen R) rc) (.bool (sa && decide (0 < R))) (.bool false) (b := w.heap.size + 1 + 1 + 1) (by omega)
        have hbF := ((((((hbW.setCell (p := ⟨w.heap.size + 1 + 1, 0, none⟩) (by simp; omega) (.slice qa (nlen Q) qc)).setCell (p := ⟨w.heap.size + 1 + 1, 1, none⟩) (by simp; omega) (.bool false)).setCell (p := ⟨w.heap.size + 1 + 1, 2, none⟩) (by simp; omega) (.bool false)).setCell (p := ⟨w.heap.size + 1 + 1 + 1, 0, none⟩) (by simp; omega) (.slice ra (nlen R) rc)).setCell (p := ⟨w.heap.size + 1 + 1 + 1, 1, none⟩) (by simp; omega) (.bool (sa && decide (0 < R)))).setCell (p := ⟨w.heap.size + 1 + 1 + 1, 2, none⟩) (by simp; omega) (.bool false)).drew
        refine bodyPost_ret (v := .tuple #[.agg #[.slice qa (nlen Q) qc, .bool false, .bool false], .agg #[.slice ra (nlen R) rc, .bool (sa && decide (0 < R)), .bool false]]) (by simp [results, Tryz.results76, go_sem, x1, x2, x3, z1, z2, z3]) rfl ⟨_, _, rfl, ?_, ?_, hbF⟩
        · rw [hd.out.1]
          have hi : OwnInt _ w.heap.size _ _ := OwnInt.of (!(sa == sb)) (Own.mono (hqF.keep (Below.refl _ _).drew (Nat.le_refl _)) hb0.size)
          rw [hsab] at hi ⊢
          exact hi
        · rw [hd.out.2]
          exact OwnInt.of sa (Own.mono (hrF.keep (Below.refl _ _).drew (Nat.le_refl _)) hb0.size)
end Go.Proofs.YtkhgoeippamobaaGreatDoor
/-
  times a small number, and a small one more.
-/
namespace Go.Proofs.YtkhgoeippamobaaGreatDoor
open Go.RowKit
set_option maxRecDepth 100000 in
set_option maxHeartbeats 1000000 in
theorem small_nat {v : Value} {n : Nat} {w : World} (h : NatRep w v n) (hl : nlen n ≤ 100000000) (k c : Nat) (hk : k < 4294967296) (hc : c < 4294967296) :
    Calls Tryz.prog 150 #[v, .int .u32 k, .int .u32 c] w (Fresh (n * k + c) w) := by
  obtain ⟨a, cap, rfl⟩ := h.shape
  go_enter Tryz.func150, Tryz.ntmps150
  go_wp2
  go_loopw [7, 8, 10, 15] (fun out carry _ i wr => ∃ j : Nat, i = .int .i64 j ∧ j ≤ nlen n ∧ Own .u32 75 wr w.heap.size out j (D (n * k + c)) ∧ carry = .int .u64 (cySmall n k c j) ∧ Below w.heap.size w wr)
     (fun _ _ _ i _ => nlen n - (intOf i).toNat)
  case atStart => exact ⟨0, rfl, Nat.zero_le _, Own.nil, by rw [cySmall_zero], Below.refl _ _⟩
  case round =>
    obtain ⟨j, rfl, hj, hown, rfl, hb⟩ := hrel
    have hcy := cySmall_lt n k c j hk hc
    by_cases hlt : j < nlen n
    · obtain ⟨a', cap', hv, _, hcell⟩ := h.below hb
      simp only [Value.slice.injEq, true_and] at hv
      obtain ⟨rfl, rfl⟩ := hv
      obtain ⟨b, off, rfl, _, hc0⟩ := hcell (by omega)
      have hcj := hc0 j hlt
      have hd := D_lt n j
      have hw1 := tSmall_mul n k j hk
      have hw2 := tSmall_wrap n k c j hk hc
      have hw3 := tSmall_mod n k c j
      have hw4 := tSmall_div n k c j
      have hsz := hb.size
      go_wp2_with (at_builtin; refine app_u32 rfl _ _ rfl w.heap.size _ j _ rfl hown _ rfl rfl (by omega) hsz ?_; intro v' w1 hown1 hb1)
      go_roundw
      case rel => exact ⟨j + 1, by go_num, by omega, hown1, rfl, hb.trans (hb1.mono (by omega))⟩
      case measure => simp [intOf] <;> omega
    · obtain rfl : j = nlen n := by omega
      have hw3 := hid (cySmall_last n k c hk hc)
      have hsz := hb.size
      go_wp2_with (at_builtin; refine app_u32 rfl _ _ rfl w.heap.size _ (nlen n) _ rfl hown _ rfl hw3.out (by omega) hsz ?_; intro v' w1 hown1 hb1)
      refine (trimmed_own hown1 (by omega) (small_lt n k c hk hc)).mono ?_
      rintro e w2 ⟨⟨v2, rfl, hown2⟩, rfl⟩
      go_wp2
      go_ret
      exact ⟨v2, rfl, hown2, hb.trans (hb1.mono (by omega))⟩
end Go.Proofs.YtkhgoeippamobaaGreatDoor
/-
  The texts of numbers, and what an operation tells.
-/
namespace Go.Proofs.YtkhgoeippamobaaGreatDoor
open Go.RowKit
theorem dlen_zero_iff (b n : Nat) (hb : 2 ≤ b) : dlen b n = 0 ↔ n = 0 := by
  have := dlen_le_iff b n 0 hb
  simp at this; omega
theorem strOf_isEmpty (b n : Nat) (hb : 2 ≤ b) : (strOf b n).isEmpty = decide (n = 0) := by
  have h1 := strOf_length b n
  have h2 := dlen_zero_iff b n hb
  by_cases h0 : n = 0
  · rw [decide_eq_true h0]
    rw [h2.2 h0] at h1
    rw [List.eq_nil_of_length_eq_zero h1]; rfl
  · rw [decide_eq_false h0]
    cases hs : strOf b n with
    | nil => rw [hs] at h1; simp at h1; omega
    | cons x l => rfl
/-- the text of a number with digits of a base -/
def numText (b n : Nat) (neg : Bool) : List UInt8 := if n = 0 then [48] else if neg then 45 :: strOf b n else strOf b n
theorem decimal_nat {v : Value} {n : Nat} {w : World} (h : NatRep w v n) (hl : nlen n ≤ 1000000) :
    Calls Tryz.prog 142 #[v] w fun e w' => e = .returned (.string ⟨(strOf 10 n).toArray⟩) ∧ Below w.heap.size w w' := by
  obtain ⟨a, cap, rfl⟩ := h.shape
  go_enter Tryz.func142, Tryz.ntmps142
  go_wp2_with fail
  refine (based_nat h hl 10 (by decide) (by decide)).mono ?_
  rintro e w1 ⟨rfl, hb⟩
  go_wp2
  go_ret
  exact ⟨rfl, hb⟩
set_option maxRecDepth 100000 in
set_option maxHeartbeats 2000000 in
theorem text_num {v : Value} {n : Nat} {neg lg : Bool} {w : World} (h : NumV w v n neg lg) (hl : nlen n ≤ 1000000) (b : Nat) (hb2 : 2 ≤ b) (hb36 : b ≤ 36) :
    Calls Tryz.prog 120 #[v, .int .i64 b] w fun e w' => e = .returned (.string ⟨(numText b n neg).toArray⟩) ∧ Below w.heap.size w w' := by
  obtain ⟨s, rfl, h⟩ := h
  obtain ⟨a, cap, rfl⟩ := h.shape
  have k1 := Blk.new w #[.slice a (nlen n) cap, .bool neg, .bool lg] 49
  have hb0 : Below w.heap.size w (w.alloc (.cells #[.slice a (nlen n) cap, .bool neg, .bool lg] 49)) := (Below.refl _ _).alloc (Nat.le_refl _) _
  have hc := hid (based_nat (h.below hb0) hl b hb2 hb36)
  have hlen := strOf_length b n
  have hdl := dlen_bound b n hb2
  have hem := strOf_isEmpty b n hb2
  go_enter Tryz.func120, Tryz.ntmps120
  go_wp2_with fail
  (with_reducible refine hc.out.mono ?_); rintro e w1 ⟨rfl, hb1⟩
  obtain ⟨⟨p1, p2, p3⟩, _⟩ := (k1.later hb1).three
  have hbw := hb0.trans (hb1.mono (by simp))
  have hsz : (strOf b n).length ≤ 32000000 := by omega
  clear hlen hdl
  by_cases h0 : n = 0
  · rw [decide_eq_true h0] at hem
    have hn : numText b n neg = [48] := by rw [numText, if_pos h0]
    have HN := hid hn
    clear h0 hn
    go_wp2
    go_ret
    exact ⟨by rw [HN.out]; rfl, hbw⟩
  · rw [decide_eq_false h0] at hem
    cases neg
    · have hn : numText b n false = strOf b n := by rw [numText, if_neg h0]; rfl
      have HN := hid hn
      clear h0 hn
      go_wp2
      go_ret
      exact ⟨by rw [HN.out]; rfl, hbw⟩
    · have hn : numText b n true = 45 :: strOf b n := by rw [numText, if_neg h0]; rfl
      have HN := hid hn
      clear h0 hn
      go_wp2
      go_ret
      exact ⟨by rw [HN.out]; rfl, hbw⟩
/-- how many digits a result may have -/
def big600 : Nat := ((10 ^ 60) ^ 2) ^ 5
/-- an integer's text, or the error that it is too long -/
def resOf (z : Int) : List UInt8 × Int := if z.natAbs < big600 then (numText 10 z.natAbs (decide (z < 0)), 0) else ([], 4)
theorem big600_le : big600 ≤ 2 ^ 2010 := by
  have h1 : (10 : Nat) ^ 60 ≤ 2 ^ 201 := by decide
  have h2 := Nat.pow_le_pow_left (Nat.pow_le_pow_left h1 2) 5
  have e : (2 : Nat) ^ 2010 = ((2 ^ 201) ^ 2) ^ 5 := by simp only [← Nat.pow_mul, Nat.reduceMul]
  rw [e]; exact h2
theorem pow_chain (t a b c k : Nat) (hk : k = a * b * c) : ((t ^ a) ^ b) ^ c = t ^ k := by
  rw [hk, Nat.pow_mul, Nat.pow_mul]
theorem big600_eq (k : Nat) (hk : k = 600) : big600 = 10 ^ k := by
  unfold big600
  exact pow_chain 10 60 2 5 k (by omega)
theorem bits_2010 (n : Nat) (h : n < big600) : nbits n ≤ 2010 := (nbits_le_iff n 2010).2 (Nat.lt_of_lt_of_le h big600_le)
theorem digits_600 (n : Nat) : (dlen 10 n ≤ 600) ↔ n < big600 := by
  have key : ∀ k, k = 600 → ((dlen 10 n ≤ k) ↔ n < big600) := by
    intro k hk
    rw [big600_eq k hk]
    exact dlen_le_iff 10 n k (by decide)
  exact key 600 rfl
theorem text_num10 {v : Value} {n : Nat} {neg lg : Bool} {w : World} (h : NumV w v n neg lg) (hl : nlen n ≤ 1000000) :
    Calls Tryz.prog 120 #[v, .int .i64 10] w fun e w' => e = .returned (.string ⟨(numText 10 n neg).toArray⟩) ∧ Below w.heap.size w w' :=
  text_num h hl 10 (by decide) (by decide)
set_option maxRecDepth 100000 in
set_option maxHeartbeats 2000000 in
theorem result_long {v : Value} {n : Nat} {neg : Bool} {w : World} (h : NumV w v n neg true) :
    Calls Tryz.prog 123 #[v] w fun e w' => e = .returned (.tuple #[.string ⟨#[]⟩, .int .i64 4]) ∧ Below w.heap.size w w' := by
  obtain ⟨s, rfl, h⟩ := h
  obtain ⟨a, cap, rfl⟩ := h.shape
  have hb0 : Below w.heap.size w (w.alloc (.cells #[.slice a (nlen n) cap, .bool neg, .bool true] 49)) := (Below.refl _ _).alloc (Nat.le_refl _) _
  go_enter Tryz.func123, Tryz.ntmps123
  go_wp2
  go_ret2
  exact ⟨rfl, hb0⟩
set_option maxRecDepth 100000 in
set_option maxHeartbeats 2000000 in
theorem result_num {v : Value} {n : Nat} {neg : Bool} {w : World} (h : NumV w v n neg false) (hl : nlen n ≤ 1000000) :
    Calls Tryz.prog 123 #[v] w fun e w' => e = .returned (if n < big600 then .tuple #[.string ⟨(numText 10 n neg).toArray⟩, .int .i64 0] else .tuple #[.string ⟨#[]⟩, .int .i64 4]) ∧ Below w.heap.size w w' := by
  obtain ⟨s, rfl, h⟩ := h
  obtain ⟨a, cap, rfl⟩ := h.shape
  have k1 := Blk.new w #[.slice a (nlen n) cap, .bool neg, .bool false] 49
  have hb0 : Below w.heap.size w (w.alloc (.cells #[.slice a (nlen n) cap, .bool neg, .bool false] 49)) := (Below.refl _ _).alloc (Nat.le_refl _) _
  have c1 := hid (bits_nat (h.below hb0) (by omega))
  have c2 := hid (decimal_nat (h.below hb0) hl)
  have hlen := strOf_length 10 n
  have hdg := digits_600 n
  have hbt := nbits_le_nlen n
  have hdl := dlen_bound 10 n (by decide)
  have hsz : (strOf 10 n).length ≤ 32000000 := by omega
  by_cases hbits : nbits n ≤ 2010
  · by_cases hn : n < big600
    · rw [if_pos hn]
      have hd : (strOf 10 n).length ≤ 600 := by rw [hlen]; exact hdg.2 hn
      have HN := hid hn
      clear hlen hdg hdl hn
      go_enter Tryz.func123, Tryz.ntmps123
      go_wp2_with fail
      (with_reducible refine c1.out.mono ?_); rintro e w' ⟨rfl, rfl⟩
      go_wp2_with fail
      (with_reducible refine c2.out.mono ?_); rintro e w1 ⟨rfl, hb1⟩
      obtain ⟨⟨p1, p2, p3⟩, _⟩ := (k1.later hb1).three
      have hbw := hb0.trans (hb1.mono (by simp))
      have c3 := hid (text_num10 (v := .agg #[.slice a (nlen n) cap, .bool neg, .bool false]) ⟨_, rfl, h.below hbw⟩ hl)
      go_wp2_with fail
      (with_reducible refine c3.out.mono ?_); rintro e w2 ⟨rfl, hb2⟩
      go_wp2
      go_ret2
      exact ⟨rfl, hbw.trans (hb2.mono hbw.size)⟩
    · rw [if_neg hn]
      have hd : 600 < (strOf 10 n).length := by
        rw [hlen]
        have : ¬ dlen 10 n ≤ 600 := fun hh => hn (hdg.1 hh)
        omega
      clear hlen hdg hdl hn
      go_enter Tryz.func123, Tryz.ntmps123
      go_wp2_with fail
      (with_reducible refine c1.out.mono ?_); rintro e w' ⟨rfl, rfl⟩
      go_wp2_with fail
      (with_reducible refine c2.out.mono ?_); rintro e w1 ⟨rfl, hb1⟩
      go_wp2
      go_ret2
      exact ⟨rfl, hb0.trans (hb1.mono (by simp))⟩
  · have hn : ¬ n < big600 := fun hh => hbits (bits_2010 n hh)
    rw [if_neg hn]
    clear hn hdg
    have hbits' : 2010 < nbits n := by omega
    go_enter Tryz.func123, Tryz.ntmps123
    go_wp2_with fail
    (with_reducible refine c1.out.mono ?_); rintro e w' ⟨rfl, rfl⟩
    go_wp2
    go_ret2
    exact ⟨rfl, hb0⟩
theorem result_int {v : Value} {z : Int} {w : World} (h : IntV w v z) (hl : nlen z.natAbs ≤ 1000000) :
    Calls Tryz.prog 123 #[v] w fun e w' => e = .returned (.tuple #[.string ⟨(resOf z).1.toArray⟩, .int .i64 (resOf z).2]) ∧ Below w.heap.size w w' := by
  refine (result_num h hl).mono ?_
  rintro e w' ⟨rfl, hb⟩
  refine ⟨?_, hb⟩
  unfold resOf
  split <;> rfl
end Go.Proofs.YtkhgoeippamobaaGreatDoor
