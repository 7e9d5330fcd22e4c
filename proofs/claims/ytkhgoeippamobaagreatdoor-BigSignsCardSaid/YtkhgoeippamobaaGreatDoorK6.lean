/-
  Part K6 of the proofs of this seat: contracts of functions and plain facts, merged from 5 texts.
-/
import Derived.Deep.QuietTactic
import Derived.BigQuiet
import Derived.Test.YtkhgoeippamobaaGreatDoorK1
import Derived.Test.YtkhgoeippamobaaGreatDoorK2
import Derived.Test.YtkhgoeippamobaaGreatDoorK3
import Derived.Test.YtkhgoeippamobaaGreatDoorK4
import Derived.Test.YtkhgoeippamobaaGreatDoorK5
/-
  A number times a power of two.
-/
namespace Go.Proofs.YtkhgoeippamobaaGreatDoor
open Go.RowKit
theorem cySmall_lt2 (n k j : Nat) (hk : 0 < k) : cySmall n k 0 j < k := by
  unfold cySmall
  rw [Nat.div_lt_iff_lt_mul (pow32_pos j), Nat.add_zero, Nat.mul_comm k]
  exact Nat.mul_lt_mul_of_pos_right (Nat.mod_lt _ (pow32_pos j)) hk
theorem D_shift_low (a k t : Nat) (h : t < k / 32) : D (a * 2 ^ k) t = 0 := by
  unfold D
  have e : 2 ^ k = 2 ^ (32 * t) * (4294967296 * 2 ^ (k - 32 * t - 32)) := by
    rw [show (4294967296 : Nat) = 2 ^ 32 from rfl, ← Nat.pow_add, ← Nat.pow_add]; congr 1; omega
  rw [e, Nat.mul_left_comm, Nat.mul_div_cancel_left _ (pow32_pos t), Nat.mul_left_comm, Nat.mul_mod_right]
theorem D_shift_high (a k j : Nat) : D (a * 2 ^ k) (k / 32 + j) = D (a * 2 ^ (k % 32)) j := by
  unfold D
  have e : 2 ^ k = 2 ^ (32 * (k / 32)) * 2 ^ (k % 32) := by rw [← Nat.pow_add]; congr 1; omega
  rw [e, Nat.mul_left_comm, Nat.mul_add, Nat.pow_add, Nat.mul_div_mul_left _ _ (pow32_pos _)]
theorem left_or (n k j : Nat) : bits BinOp.or IntKind.u64 ((cySmall n (2 ^ (k % 32)) 0 j : Nat) : Int) (IntKind.u64.wrap ((D n j : Int) * (2 : Int) ^ (k % 32))) = ((tSmall n (2 ^ (k % 32)) 0 j : Nat) : Int) := by
  have hk32 : k % 32 < 32 := Nat.mod_lt _ (by decide)
  have hp : 2 ^ (k % 32) < 4294967296 := Nat.lt_of_le_of_lt (Nat.pow_le_pow_right (by decide) (show k % 32 ≤ 31 by omega)) (by decide)
  have hp0 : 0 < 2 ^ (k % 32) := Nat.pow_pos (by decide)
  have hcy := cySmall_lt2 n _ j hp0
  have h1 := mul_lt_u64 _ _ (D_lt n j) hp
  have e : (D n j : Int) * (2 : Int) ^ (k % 32) = ((D n j * 2 ^ (k % 32) : Nat) : Int) := by simp
  rw [e, wrap_u64_nat _ (by omega), u64_or_nat _ _ (by omega) (by omega), Nat.or_comm, nat_join (k % 32) _ _ (Nat.mul_mod_left _ _) hcy]
  unfold tSmall
  rw [Nat.add_comm]
set_option maxRecDepth 100000 in
set_option maxHeartbeats 2000000 in
theorem left_nat {v : Value} {n : Nat} {w : World} (h : NatRep w v n) (hl : nlen n ≤ 10000000) (k : Nat) (hk : k ≤ 10000000) :
    Calls Tryz.prog 113 #[v, .int .i64 k] w (Fresh (n * 2 ^ k) w) := by
  obtain ⟨a, cap, rfl⟩ := h.shape
  go_enter Tryz.func113, Tryz.ntmps113
  go_wp2_with (at_make; refine mk2_u32 _ rfl _ _ rfl w.heap.size (k / 32) (k / 32 + nlen n + 1) _ _ rfl rfl (by simp) (by simp) (by omega) (by omega) (Nat.le_refl _) ?_; intro w1 hown hb hz hb1)
  go_loopw [5, 6, 20] (fun out carry i wr => ∃ j : Nat, i = .int .i64 j ∧ j ≤ nlen n ∧ Own .u32 75 wr w.heap.size out (k / 32 + j) (D (n * 2 ^ k)) ∧ carry = .int .u64 (cySmall n (2 ^ (k % 32)) 0 j) ∧ Below w.heap.size w wr)
     (fun _ _ i _ => nlen n - (intOf i).toNat)
  case atStart => exact ⟨0, rfl, Nat.zero_le _, hown.congr (fun t ht => (D_shift_low n k t ht).symm), by rw [cySmall_zero]; rfl, hb⟩
  case round =>
    obtain ⟨j, rfl, hj, hown1, rfl, hbr⟩ := hrel
    have hk32 : k % 32 < 32 := Nat.mod_lt _ (by decide)
    have hp : 2 ^ (k % 32) < 4294967296 := Nat.lt_of_le_of_lt (Nat.pow_le_pow_right (by decide) (show k % 32 ≤ 31 by omega)) (by decide)
    have hp0 : 0 < 2 ^ (k % 32) := Nat.pow_pos (by decide)
    have hcy := cySmall_lt2 n _ j hp0
    by_cases hlt : j < nlen n
    · obtain ⟨a', cap', hv, _, hcell⟩ := h.below hbr
      simp only [Value.slice.injEq, true_and] at hv
      obtain ⟨rfl, rfl⟩ := hv
      obtain ⟨b, off, rfl, _, hc0⟩ := hcell (by omega)
      have hcj := hc0 j hlt
      have hd := D_lt n j
      have hsz := hbr.size
      have hw1 := left_or n k j
      have hw3 : ((tSmall n (2 ^ (k % 32)) 0 j : Nat) : Int) % 4294967296 = ((D (n * 2 ^ k) (k / 32 + j) : Nat) : Int) := by rw [tSmall_mod, Nat.add_zero, D_shift_high]
      have hw4 := tSmall_div n (2 ^ (k % 32)) 0 j
      clear hp hp0 hcy hk32 hown hcell hc0
      go_wp2_with (at_builtin; refine app_u32 rfl _ _ rfl w.heap.size _ (k / 32 + j) _ rfl hown1 _ rfl rfl (by omega) hsz ?_; intro v' w2 hown2 hb2)
      go_roundw
      case rel => exact ⟨j + 1, by go_num, by omega, hown2, rfl, hbr.trans (hb2.mono (by omega))⟩
      case measure => simp [intOf] <;> omega
    · obtain rfl : j = nlen n := by omega
      have hlast : ((cySmall n (2 ^ (k % 32)) 0 (nlen n) : Nat) : Int) = ((D (n * 2 ^ k) (k / 32 + nlen n) : Nat) : Int) := by
        rw [D_shift_high, cySmall_last n _ 0 hp (by decide), Nat.add_zero]
      have hw3 := hid hlast
      have hsz := hbr.size
      have hcy2 : cySmall n (2 ^ (k % 32)) 0 (nlen n) < 4294967296 := Nat.lt_trans hcy hp
      have hlt2 : n * 2 ^ k < 2 ^ (32 * (k / 32 + nlen n + 1)) := by
        have e : 2 ^ (32 * (k / 32 + nlen n + 1)) = 2 ^ (32 * nlen n) * 2 ^ (32 * (k / 32) + 32) := by rw [← Nat.pow_add]; congr 1; omega
        rw [e]
        exact Nat.mul_lt_mul_of_lt_of_le (lt_nlen n) (Nat.pow_le_pow_right (by decide) (by omega)) (Nat.pow_pos (by decide))
      have H2 := hid hlt2
      clear hp hp0 hcy hk32 hown hlast hlt2
      go_wp2_with (at_builtin; refine app_u32 rfl _ _ rfl w.heap.size _ (k / 32 + nlen n) _ rfl hown1 _ rfl hw3.out (by omega) hsz ?_; intro v' w2 hown2 hb2)
      refine (trimmed_own hown2 (by omega) H2.out).mono ?_
      rintro e w3 ⟨⟨v2, rfl, hown3⟩, rfl⟩
      go_wp2
      go_ret
      exact ⟨v2, rfl, hown3, hbr.trans (hb2.mono (by omega))⟩
end Go.Proofs.YtkhgoeippamobaaGreatDoor
/-
  A number divided by a power of two.
-/
namespace Go.Proofs.YtkhgoeippamobaaGreatDoor
open Go.RowKit
theorem mod_pow_succ (n i : Nat) : n % 2 ^ (i + 1) = n % 2 ^ i + 2 ^ i * (n.testBit i).toNat := by
  rw [Nat.testBit_eq_decide_div_mod_eq, Nat.mod_pow_succ]
  congr 1
  have := Nat.mod_two_eq_zero_or_one (n / 2 ^ i)
  rcases this with h | h <;> rw [h] <;> simp
/-- whether a bit below i is set -/
def lostB (n i : Nat) : Bool := decide (n % 2 ^ i ≠ 0)
theorem lostB_zero (n : Nat) : lostB n 0 = false := by simp [lostB, Nat.mod_one]
theorem lostB_succ (n i : Nat) : lostB n (i + 1) = (lostB n i || n.testBit i) := by
  unfold lostB
  rw [mod_pow_succ]
  have := Nat.pow_pos (n := i) (show 0 < 2 by decide)
  cases n.testBit i
  · simp
  · simp <;> omega
theorem lostB_top (n k : Nat) : lostB n (min k (32 * nlen n)) = lostB n k := by
  by_cases h : k ≤ 32 * nlen n
  · rw [Nat.min_eq_left h]
  · rw [Nat.min_eq_right (by omega)]
    unfold lostB
    rw [Nat.mod_eq_of_lt (lt_nlen n), Nat.mod_eq_of_lt (Nat.lt_of_lt_of_le (lt_nlen n) (Nat.pow_le_pow_right (by decide) (by omega)))]
theorem D_right (n k i : Nat) (hi : k / 32 ≤ i) : (D n (i + 1) * 4294967296 + D n i) / 2 ^ (k % 32) % 4294967296 = D (n / 2 ^ k) (i - k / 32) := by
  have h1 : D n (i + 1) * 4294967296 + D n i = n / 2 ^ (32 * i) % 2 ^ 64 := by
    have h2 := div_split n i
    have h3 := div_split n (i + 1)
    have h4 := D_lt n i
    have h5 := D_lt n (i + 1)
    rw [show (2 : Nat) ^ 64 = 4294967296 * 4294967296 from rfl]
    omega
  rw [h1]
  unfold D
  have e : 2 ^ k * 2 ^ (32 * (i - k / 32)) = 2 ^ (32 * i) * 2 ^ (k % 32) := by rw [← Nat.pow_add, ← Nat.pow_add]; congr 1; omega
  rw [Nat.div_div_eq_div_mul, e, ← Nat.div_div_eq_div_mul]
  generalize n / 2 ^ (32 * i) = x
  apply Nat.eq_of_testBit_eq
  intro t
  rw [show (4294967296 : Nat) = 2 ^ 32 from rfl, Nat.testBit_mod_two_pow, Nat.testBit_mod_two_pow, Nat.testBit_div_two_pow, Nat.testBit_div_two_pow, Nat.testBit_mod_two_pow]
  have hk : k % 32 < 32 := Nat.mod_lt _ (by decide)
  by_cases ht : t < 32
  · simp [ht]
    intro h; omega
  · simp [ht]
def wideR (n i : Nat) : Nat := D n (i + 1) * 4294967296 + D n i
theorem wideR_or (n i : Nat) : bits BinOp.or IntKind.u64 ((D n (i + 1) : Int) * 4294967296) (D n i : Int) = (wideR n i : Int) := by
  have h1 := D_lt n (i + 1)
  have h2 := D_lt n i
  have e : (D n (i + 1) : Int) * 4294967296 = ((D n (i + 1) * 4294967296 : Nat) : Int) := by simp
  rw [e, u64_or_nat _ _ (by omega) (by omega), nat_join 32 _ _ (by omega) (by omega)]
  rfl
theorem wideR_mod (n k i : Nat) (hi : k / 32 ≤ i) : (wideR n i : Int) / 2 ^ (k % 32) % 4294967296 = (D (n / 2 ^ k) (i - k / 32) : Int) := by
  rw [← D_right n k i hi]
  simp [wideR]
theorem right_lt (n k j : Nat) (h : nlen n ≤ k / 32 + j) : n / 2 ^ k < 2 ^ (32 * j) := by
  rw [Nat.div_lt_iff_lt_mul (Nat.pow_pos (by decide)), ← Nat.pow_add]
  exact Nat.lt_of_lt_of_le (lt_nlen n) (Nat.pow_le_pow_right (by decide) (by omega))
set_option maxRecDepth 100000 in
set_option maxHeartbeats 2000000 in
theorem right_nat {v : Value} {n : Nat} {w : World} (h : NatRep w v n) (hl : nlen n ≤ 10000000) (k : Nat) (hk : k ≤ 10000000) :
    Calls Tryz.prog 132 #[v, .int .i64 k] w fun e w' => (∃ u, e = .returned (.tuple #[u, .bool (lostB n k)]) ∧ Own .u32 75 w' w.heap.size u (nlen (n / 2 ^ k)) (D (n / 2 ^ k))) ∧ Below w.heap.size w w' := by
  obtain ⟨a, cap, rfl⟩ := h.shape
  go_enter Tryz.func132, Tryz.ntmps132
  go_wp2
  go_loop [6, 16] (fun lost i => ∃ j : Nat, i = .int .i64 j ∧ j ≤ min k (32 * nlen n) ∧ lost = .bool (lostB n j)) (fun _ i => (min k (32 * nlen n)) - (intOf i).toNat)
  case atStart => exact ⟨0, rfl, Nat.zero_le _, by rw [lostB_zero]⟩
  case round =>
    obtain ⟨j, rfl, hj, rfl⟩ := hrel
    by_cases hlt : j < min k (32 * nlen n)
    · have hs := hid (lostB_succ n j)
      by_cases hb : lostB n j = true
      · go_wp2
        go_round
        case rel => exact ⟨j + 1, by go_num, by omega, by rw [hs.out, hb]; rfl⟩
        case measure => simp [intOf] <;> omega
      · rw [Bool.not_eq_true] at hb
        go_wp2_with fail
        refine (bit_nat h (by omega) _ (by omega) (by omega)).mono ?_
        rintro e w' ⟨rfl, rfl⟩
        rw [Int.toNat_natCast]
        go_wp2
        go_round
        case rel => exact ⟨j + 1, by go_num, by omega, by rw [hs.out, hb]; rfl⟩
        case measure => simp [intOf] <;> omega
    · obtain rfl : j = min k (32 * nlen n) := by omega
      rw [lostB_top]
      go_wp2
      go_loopw [8, 9] (fun out i wr => ∃ j : Nat, i = .int .i64 j ∧ k / 32 ≤ j ∧ (j = k / 32 ∨ j ≤ nlen n) ∧ Own .u32 75 wr w.heap.size out (j - k / 32) (D (n / 2 ^ k)) ∧ Below w.heap.size w wr)
        (fun _ i _ => nlen n - (intOf i).toNat)
      case atStart => exact ⟨k / 32, by simp, Nat.le_refl _, .inl rfl, by rw [Nat.sub_self]; exact Own.nil, Below.refl _ _⟩
      case round =>
        obtain ⟨i, rfl, hi1, hi2, hown, hbr⟩ := hrel
        by_cases hlt2 : i < nlen n
        · obtain ⟨a', cap', hv, _, hcell⟩ := h.below hbr
          simp only [Value.slice.injEq, true_and] at hv
          obtain ⟨rfl, rfl⟩ := hv
          obtain ⟨b, off, rfl, _, hc0⟩ := hcell (by omega)
          have hcj := hc0 i hlt2
          have hd := D_lt n i
          have hd2 := D_lt n (i + 1)
          have hsz := hbr.size
          have h' := h.below hbr
          have hcall := hid (fun (q : Nat) => at_nat (h'.below (below_drewN (Below.refl wr.heap.size wr) q)) (by omega) ((i : Int) + 1) (by omega) (by omega))
          go_wp2_with fail
          go_quiet ((go_at_call 118; exact Calls.quiet_of_same ((hcall.out _).mono fun e w' ⟨he, hw⟩ => ⟨he, hw.symm⟩)))
          have hw1 := wideR_or n i
          have hw2 := wideR_mod n k i hi1
          have hown1 : Own .u32 75 (wr.drewN nq) w.heap.size u8 (i - k / 32) (D (n / 2 ^ k)) := hown
          have hbr1 := below_drewN hbr nq
          clear hcall hcell hc0 h' hlt hj
          go_wp2_with (at_builtin; refine app_u32 rfl _ _ rfl w.heap.size _ (i - k / 32) _ rfl hown1 _ rfl rfl (by omega) hsz ?_; intro v' w2 hown2 hb2)
          go_roundw
          case rel => exact ⟨i + 1, by go_num, by omega, .inr (by omega), by rw [show i + 1 - k / 32 = i - k / 32 + 1 by omega]; exact hown2, hbr1.trans (hb2.mono (by omega))⟩
          case measure => simp [intOf] <;> omega
        · have hq := right_lt n k (i - k / 32) (by omega)
          go_wp2_with fail
          refine (trimmed_own hown (by omega) hq).mono ?_
          rintro e w' ⟨⟨u2, rfl, hu2⟩, rfl⟩
          go_wp2
          go_ret2
          exact ⟨⟨u2, rfl, hu2⟩, hbr⟩
end Go.Proofs.YtkhgoeippamobaaGreatDoor
/-
  Shift of big.
-/
namespace Go.Proofs.YtkhgoeippamobaaGreatDoor
open Go.RowKit
/-- a result whose slice is empty or of the call's own -/
def RNumO (w : World) (base : Nat) (v : Value) (z : Int) : Prop :=
  (∃ a c, v = .agg #[.slice a 0 c, .bool false, .bool false] ∧ z = 0) ∨ (∃ g, v = .agg #[.slice none 0 0, .bool g, .bool true] ∧ big600 ≤ z.natAbs) ∨ (OwnInt w base v z ∧ nlen z.natAbs ≤ 1000000)
theorem rnum_zero {w : World} (a : Option Addr) (c : Nat) : IntV w (.agg #[.slice a 0 c, .bool false, .bool false]) 0 := IntV.mk (n := 0) ⟨a, c, rfl, Nat.zero_le _, fun h => absurd h (by decide)⟩ rfl rfl
theorem RNumO.r {w : World} {base : Nat} {v : Value} {z : Int} (h : RNumO w base v z) : RNum w v z := by
  rcases h with ⟨a, c, rfl, rfl⟩ | ⟨g, rfl, h⟩ | ⟨h, h2⟩
  · exact RNum.of_int (rnum_zero a c) (by decide)
  · exact ⟨0, g, true, ⟨_, rfl, nat_zero _⟩, (fun h => by cases h), (fun _ => h), by decide⟩
  · exact RNum.of_int h.int h2
theorem RNumO.shape {w : World} {base : Nat} {v : Value} {z : Int} (h : RNumO w base v z) : ∃ a n c g b, v = .agg #[.slice a n c, .bool g, .bool b] := by
  rcases h with ⟨a, c, rfl, rfl⟩ | ⟨g, rfl, h⟩ | ⟨h, h2⟩
  · exact ⟨_, _, _, _, _, rfl⟩
  · exact ⟨_, _, _, _, _, rfl⟩
  · obtain ⟨a, n, c, b, rfl⟩ := h.shape4
    exact ⟨_, _, _, _, _, rfl⟩
theorem RNumO.set3 {w : World} {base b : Nat} {v : Value} {z : Int} (h : RNumO w base v z) (hb : b < base) (x y t : Value) : RNumO (((w.setCell ⟨b, 0, none⟩ x).setCell ⟨b, 1, none⟩ y).setCell ⟨b, 2, none⟩ t) base v z := by
  rcases h with h | h | ⟨h, h2⟩
  · exact .inl h
  · exact .inr (.inl h)
  · exact .inr (.inr ⟨h.set3 hb x y t, h2⟩)
/-- the number shifted -/
def shI (z n : Int) : Int := if 0 ≤ n then z * ((2 ^ n.toNat : Nat) : Int) else z.fdiv ((2 ^ (-n).toNat : Nat) : Int)
theorem shI_zero (n : Int) : shI 0 n = 0 := by
  unfold shI
  split
  · rw [Int.zero_mul]
  · exact Int.zero_fdiv _
theorem nbits_mul (m k : Nat) (h : 0 < m) : nbits (m * 2 ^ k) = nbits m + k := by
  have h1 := (nbits_le_iff m (nbits m)).1 (Nat.le_refl _)
  have h2 : 2 ^ (nbits m - 1) ≤ m := by
    rcases Nat.lt_or_ge m (2 ^ (nbits m - 1)) with h3 | h3
    · have h4 := (nbits_le_iff m (nbits m - 1)).2 h3
      have h5 : nbits m = 0 := by omega
      have h6 := (nbits_le_iff m 0).1 (by omega)
      simp at h6
      omega
    · exact h3
  have hb : 0 < nbits m := by
    rcases Nat.eq_zero_or_pos (nbits m) with h3 | h3
    · have h6 := (nbits_le_iff m 0).1 (by omega)
      simp at h6
      omega
    · exact h3
  have h7 : m * 2 ^ k < 2 ^ (nbits m + k) := by rw [Nat.pow_add]; exact Nat.mul_lt_mul_of_pos_right h1 (Nat.two_pow_pos k)
  have h8 := (nbits_le_iff (m * 2 ^ k) (nbits m + k)).2 h7
  have h9 : ¬ nbits (m * 2 ^ k) ≤ nbits m + k - 1 := by
    intro h10
    have h11 := (nbits_le_iff _ _).1 h10
    have h12 : 2 ^ (nbits m - 1) * 2 ^ k ≤ m * 2 ^ k := Nat.mul_le_mul_right _ h2
    rw [← Nat.pow_add, show nbits m - 1 + k = nbits m + k - 1 by omega] at h12
    omega
  omega
theorem shI_pos (z : Int) (k : Nat) : shI z (k : Int) = z * ((2 ^ k : Nat) : Int) := by
  unfold shI
  rw [if_pos (by omega), Int.toNat_natCast]
theorem shI_pos_abs (z : Int) (k : Nat) : (shI z (k : Int)).natAbs = z.natAbs * 2 ^ k ∧ decide (shI z (k : Int) < 0) = decide (z < 0) := by
  rw [shI_pos]
  refine ⟨by rw [Int.natAbs_mul, Int.natAbs_natCast], decide_eq_decide.2 ?_⟩
  have hp := Nat.two_pow_pos k
  generalize 2 ^ k = p at *
  constructor
  · intro h
    rcases Int.lt_or_le z 0 with h1 | h1
    · exact h1
    · have := Int.mul_nonneg h1 (show (0 : Int) ≤ (p : Int) by omega)
      omega
  · intro h
    exact Int.mul_neg_of_neg_of_pos h (by omega)
set_option maxRecDepth 100000 in
set_option maxHeartbeats 2000000 in
theorem shifted_up {v : Value} {z : Int} {w : World} (h : IntV w v z) (hl : nlen z.natAbs ≤ 1000) (hz : z ≠ 0) (k : Nat) (hk : k ≤ 100000) :
    Calls Tryz.prog 105 #[v, .int .i64 k] w fun e w' => ∃ u, e = .returned u ∧ RNumO w' w.heap.size u (shI z k) ∧ Below w.heap.size w w' := by
  obtain ⟨a, c, rfl, h1⟩ := h.shape
  obtain ⟨habs, hsgn⟩ := shI_pos_abs z k
  have hnb := nbits_mul z.natAbs k (by omega)
  have hnl := nbits_le_nlen z.natAbs
  have hln : 0 < nlen z.natAbs := by have := nlen_eq_zero z.natAbs; omega
  have HA := hid habs
  have HSG := hid hsgn
  have HNB := hid hnb
  clear habs hsgn hnb hz h
  generalize shI z k = R at *
  generalize hs : decide (z < 0) = s at *
  clear hs
  generalize z.natAbs = N at *
  have k1 := Blk.new w #[.slice a (nlen N) c, .bool s, .bool false] 49
  have k2 := Blk.new (w.alloc (.cells #[.slice a (nlen N) c, .bool s, .bool false] 49)) #[.slice none 0 0, .bool false, .bool false] 49
  simp only [World.size_alloc] at k2
  have k1 := k1.alloc (.cells #[.slice none 0 0, .bool false, .bool false] 49)
  have hb0 : Below w.heap.size w ((w.alloc (.cells #[.slice a (nlen N) c, .bool s, .bool false] 49)).alloc (.cells #[.slice none 0 0, .bool false, .bool false] 49)) := ((Below.refl _ _).alloc (Nat.le_refl _) _).alloc (by simp) _
  have HB := hid (bits_nat (h1.below hb0) (by omega))
  by_cases hbig : 2010 < nbits N + k
  · have hbi : (2010 : Int) < ((nbits N : Nat) : Int) + (k : Int) := by omega
    have HBIG := hid hbig
    clear hbig
    go_enter Tryz.func105, Tryz.ntmps105
    go_wp2_with fail
    generalize (w.alloc (.cells #[.slice a (nlen N) c, .bool s, .bool false] 49)).alloc (.cells #[.slice none 0 0, .bool false, .bool false] 49) = w0 at *
    obtain ⟨⟨p1, p2, p3⟩, _⟩ := k1.three
    obtain ⟨⟨r1, r2, r3⟩, r4, r5, r6⟩ := k2.three
    go_wp2_with fail
    (with_reducible refine HB.out.mono ?_); rintro e w1 ⟨rfl, rfl⟩
    go_wp2
    have k2 := k2.set3 (.slice none 0 0) (.bool false) (.bool true)
    obtain ⟨⟨z1, z2, z3⟩, _⟩ := k2.three
    have hbF := ((hb0.setCell (p := ⟨w.heap.size + 1, 0, none⟩) (by simp) (.slice none 0 0)).setCell (p := ⟨w.heap.size + 1, 1, none⟩) (by simp) (.bool false)).setCell (p := ⟨w.heap.size + 1, 2, none⟩) (by simp) (.bool true)
    refine bodyPost_ret (v := .agg #[.slice none 0 0, .bool false, .bool true]) (by simp [results, Tryz.results105, go_sem, z1, z2, z3]) rfl ⟨_, rfl, .inr (.inl ⟨false, rfl, ?_⟩), hbF⟩
    rw [HA.out]
    exact big_of_bits _ (by rw [HNB.out]; have := HBIG.out; omega)
  · have hbi : ¬ (2010 : Int) < ((nbits N : Nat) : Int) + (k : Int) := by omega
    have HBIG := hid hbig
    clear hbig
    go_enter Tryz.func105, Tryz.ntmps105
    go_wp2_with fail
    generalize (w.alloc (.cells #[.slice a (nlen N) c, .bool s, .bool false] 49)).alloc (.cells #[.slice none 0 0, .bool false, .bool false] 49) = w0 at *
    obtain ⟨⟨p1, p2, p3⟩, _⟩ := k1.three
    go_wp2_with fail
    (with_reducible refine HB.out.mono ?_); rintro e w1 ⟨rfl, rfl⟩
    go_wp2_with fail
    clear p1 p2 p3
    have kA := k1.drew
    have k2 := k2.drew
    have hb := hb0.drew
    have h1 := h1.below hb
    refine U_begin (late := fun i => decide (7 ≤ i)) (S := fun u => Blk u w.heap.size #[.slice a (nlen N) c, .bool s, .bool false] 49) (by kernel_rfl) ?_
    generalize w0.drew = wd at *
    refine U_take (i := 0) (v := .pointer (some ⟨w.heap.size, 0, none⟩)) rfl (by kernel_rfl) (by kernel_rfl) (by kernel_rfl) (by kernel_rfl) (by kernel_rfl) (fun _ _ _ h => h) (.inl ⟨rfl, fun u hu => (by go_simp)⟩) kA ?_
    refine U_take (i := 1) (v := .slice a (nlen N) c) rfl (by kernel_rfl) (by kernel_rfl) (by kernel_rfl) (by kernel_rfl) (by kernel_rfl) (fun _ _ _ h => h) (.inl ⟨rfl, fun u hu => (by obtain ⟨⟨h1, h2, h3⟩, _⟩ := hu.three; go_simp)⟩) kA ?_
    refine U_take (i := 2) (v := .int .i64 k) rfl (by kernel_rfl) (by kernel_rfl) (by kernel_rfl) (by kernel_rfl) (by kernel_rfl) (fun _ _ _ h => h) (.inl ⟨rfl, fun u hu => (by go_simp)⟩) kA ?_
    refine U_take (i := 4) (v := .pointer (some ⟨w.heap.size, 1, none⟩)) rfl (by kernel_rfl) (by kernel_rfl) (by kernel_rfl) (by kernel_rfl) (by kernel_rfl) (fun _ _ _ h => h) (.inl ⟨rfl, fun u hu => (by go_simp)⟩) kA ?_
    refine U_take (i := 5) (v := .bool s) rfl (by kernel_rfl) (by kernel_rfl) (by kernel_rfl) (by kernel_rfl) (by kernel_rfl) (fun _ _ _ h => h) (.inl ⟨rfl, fun u hu => (by obtain ⟨⟨h1, h2, h3⟩, _⟩ := hu.three; go_simp)⟩) kA ?_
    refine U_step (j := 3) (by kernel_rfl) rfl (fun K hK => ?_)
    go_simp
    have hc := hid (left_nat h1 (by omega) k (by omega))
    (with_reducible refine hc.out.mono ?_); rintro e x1 ⟨r, rfl, hr, gg⟩
    clear hc
    have hlt := k2.lt
    have hszw := hb.size
    have hb := hb.trans (gg.mono hb.size)
    have kA := kA.later gg
    have k2 := k2.later gg
    obtain ⟨ra, rc, rfl⟩ := hr.shape
    have hnlr : nlen (N * 2 ^ k) ≤ 63 := by
      have h5 := nlen_of_bits (N * 2 ^ k) 2010 (by rw [HNB.out]; have := HBIG.out; omega)
      omega
    have hc := hid (of_nat hr.nat s (by omega))
    refine hK.out _ _ (.inr kA) ?_
    clear hK K gg
    generalize hG : (s && decide (0 < N * 2 ^ k)) = G at *
    have HG := hid hG
    clear hG
    refine U_step (j := 6) (by kernel_rfl) rfl (fun K hK => ?_)
    go_simp
    (with_reducible refine hc.out.mono ?_); rintro e x2 ⟨rfl, gg⟩
    clear hc
    have hr := Own.keep hr gg (Nat.le_refl _)
    have hb := hb.trans (gg.mono hb.size)
    have kA := kA.later gg
    have k2 := k2.later gg
    refine hK.out _ _ (.inr kA) ?_
    clear hK K gg
    obtain ⟨⟨r1, r2, r3⟩, r4, r5, r6⟩ := k2.three
    refine U_step (j := 7) (by kernel_rfl) rfl (fun K hK => ?_)
    go_simp
    refine hK.out _ _ (.inl rfl) ?_
    clear hK K
    refine U_done (by kernel_rfl) ?_ _
    go_wp2
    generalize hX : nlen (N * 2 ^ k) = X at *
    have k2 := k2.set3 (.slice ra X rc) (.bool G) (.bool false)
    obtain ⟨⟨z1, z2, z3⟩, _⟩ := k2.three
    have hF := own_set3 hr (b := w.heap.size + 1) (.slice ra X rc) (.bool G) (.bool false) hlt
    have hbF := ((hb.setCell (p := ⟨w.heap.size + 1, 0, none⟩) (by simp) (.slice ra X rc)).setCell (p := ⟨w.heap.size + 1, 1, none⟩) (by simp) (.bool G)).setCell (p := ⟨w.heap.size + 1, 2, none⟩) (by simp) (.bool false)
    refine bodyPost_ret (v := .agg #[.slice ra X rc, .bool G, .bool false]) (by simp [results, Tryz.results105, go_sem, z1, z2, z3]) rfl ⟨_, rfl, ?_, hbF⟩
    subst hX
    refine .inr (.inr ⟨OwnInt.mono (OwnInt.mk hF HA.out.symm ?_) hszw, by rw [HA.out]; omega⟩)
    rw [HSG.out, ← HG.out]
    have hN0 : 0 < N := by have := nlen_eq_zero N; omega
    rw [decide_eq_true (Nat.mul_pos hN0 (Nat.two_pow_pos k)), Bool.and_true]
theorem shI_down (z : Int) (k : Nat) (hk : 0 < k) : shI z (-(k : Int)) = z.fdiv ((2 ^ k : Nat) : Int) := by
  unfold shI
  rw [if_neg (by omega), Int.neg_neg, Int.toNat_natCast]
/-- the size of what is shifted down -/
def downN (z : Int) (k : Nat) : Nat := z.natAbs / 2 ^ k + (if lostB z.natAbs k && decide (z < 0) then 1 else 0)
theorem shI_down_abs (z : Int) (k : Nat) (hk : 0 < k) : (shI z (-(k : Int))).natAbs = downN z k ∧ (decide (z < 0) && decide (0 < downN z k)) = decide (shI z (-(k : Int)) < 0) := by
  rw [shI_down z k hk]
  have hp := Nat.two_pow_pos k
  have hsz := fdiv_sizes z ((2 ^ k : Nat) : Int) (by omega)
  rw [Int.natAbs_natCast] at hsz
  have hb : decide (((2 ^ k : Nat) : Int) < 0) = false := decide_eq_false (by omega)
  rw [hb] at hsz
  unfold downN lostB
  generalize 2 ^ k = p at *
  by_cases hz : z < 0
  · rw [decide_eq_true hz] at hsz ⊢
    by_cases hr : z.natAbs % p = 0
    · have h1 := (hsz.2 (.inl hr)).1
      rw [h1]
      have h2 : decide (z.natAbs % p ≠ 0) = false := decide_eq_false (by omega)
      rw [h2]
      simp only [Bool.false_and, Bool.false_eq_true, if_false, Nat.add_zero]
      show (sgnInt true (z.natAbs / p)).natAbs = _ ∧ (true && decide (0 < z.natAbs / p)) = decide (sgnInt true (z.natAbs / p) < 0)
      rw [sgnInt_neg, sgnInt_abs]
      exact ⟨rfl, rfl⟩
    · have h1 := (hsz.1 (by omega) rfl).1
      rw [h1]
      have h2 : decide (z.natAbs % p ≠ 0) = true := decide_eq_true hr
      rw [h2]
      simp only [Bool.true_and, if_true]
      show (sgnInt true (z.natAbs / p) + -1).natAbs = _ ∧ decide (0 < z.natAbs / p + 1) = decide (sgnInt true (z.natAbs / p) + -1 < 0)
      unfold sgnInt
      rw [if_pos rfl]
      generalize z.natAbs / p = q
      exact ⟨by omega, decide_eq_decide.2 (by omega)⟩
  · rw [decide_eq_false hz] at hsz ⊢
    have h1 := (hsz.2 (.inr rfl)).1
    rw [h1]
    simp only [Bool.and_false, Bool.false_eq_true, if_false, Nat.add_zero, Bool.false_and]
    show (sgnInt false (z.natAbs / p)).natAbs = _ ∧ false = decide (sgnInt false (z.natAbs / p) < 0)
    rw [sgnInt_neg, sgnInt_abs]
    exact ⟨rfl, rfl⟩
set_option maxRecDepth 100000 in
set_option maxHeartbeats 2000000 in
theorem shifted_down {v : Value} {z : Int} {w : World} (h : IntV w v z) (hl : nlen z.natAbs ≤ 1000) (hz : z ≠ 0) (k : Nat) (hk0 : 0 < k) (hk : k ≤ 100000) :
    Calls Tryz.prog 105 #[v, .int .i64 (-(k : Int))] w fun e w' => ∃ u, e = .returned u ∧ RNumO w' w.heap.size u (shI z (-(k : Int))) ∧ Below w.heap.size w w' := by
  obtain ⟨a, c, rfl, h1⟩ := h.shape
  obtain ⟨habs, hsgn⟩ := shI_down_abs z k hk0
  have hdn : downN z k ≤ z.natAbs / 2 ^ k + 1 := by unfold downN; split <;> omega
  have hdd : downN z k = z.natAbs / 2 ^ k + (if lostB z.natAbs k && decide (z < 0) then 1 else 0) := rfl
  have hln : 0 < nlen z.natAbs := by have := nlen_eq_zero z.natAbs; omega
  have hq : nlen (z.natAbs / 2 ^ k) ≤ 1000 := Nat.le_trans (nlen_mono (Nat.div_le_self _ _)) hl
  have HA := hid habs
  have HSG := hid hsgn
  have HDD := hid hdd
  clear habs hsgn hz h hdd hdn
  generalize shI z (-(k : Int)) = R at *
  generalize downN z k = DN at *
  generalize hs : decide (z < 0) = s at *
  clear hs
  generalize z.natAbs = N at *
  have k1 := Blk.new w #[.slice a (nlen N) c, .bool s, .bool false] 49
  have k2 := Blk.new (w.alloc (.cells #[.slice a (nlen N) c, .bool s, .bool false] 49)) #[.slice none 0 0, .bool false, .bool false] 49
  simp only [World.size_alloc] at k2
  have k1 := k1.alloc (.cells #[.slice none 0 0, .bool false, .bool false] 49)
  have hb0 : Below w.heap.size w ((w.alloc (.cells #[.slice a (nlen N) c, .bool s, .bool false] 49)).alloc (.cells #[.slice none 0 0, .bool false, .bool false] 49)) := ((Below.refl _ _).alloc (Nat.le_refl _) _).alloc (by simp) _
  have HRI := hid (right_nat (h1.below hb0) (by omega) k (by omega))
  have HLO := hid (show lostB N k = lostB N k from rfl)
  generalize lostB N k = lo at *
  generalize N / 2 ^ k = M at *
  go_enter Tryz.func105, Tryz.ntmps105
  go_wp2_with fail
  generalize (w.alloc (.cells #[.slice a (nlen N) c, .bool s, .bool false] 49)).alloc (.cells #[.slice none 0 0, .bool false, .bool false] 49) = w0 at *
  obtain ⟨⟨p1, p2, p3⟩, _⟩ := k1.three
  go_wp2_with fail
  (with_reducible refine HRI.out.mono ?_); rintro e w1 ⟨⟨u, rfl, hu⟩, gg⟩
  obtain ⟨ua, uc, rfl⟩ := hu.shape
  have hlt := k2.lt
  have hszw := gg.size
  have k1 := k1.later gg
  have k2 := k2.later gg
  have hb := hb0.trans (gg.mono hb0.size)
  clear p1 p2 p3
  obtain ⟨⟨p1, p2, p3⟩, _⟩ := k1.three
  by_cases hboth : (lo && s) = true
  · obtain ⟨e1, e2⟩ := Bool.and_eq_true_iff.1 hboth
    subst e1
    subst e2
    have HD1 := hid (show DN = M + 1 by rw [HDD.out]; rfl)
    clear hboth HDD
    have gg2 : Below w1.heap.size w1 (w1.alloc (.cells #[.int .u32 1] 75)) := (Below.refl _ _).alloc (Nat.le_refl _) _
    have k4 := Blk.new w1 #[.int .u32 1] 75
    have HP := hid (plus_nat (hu.nat.below gg2) (nat_one k4) (by omega) (by rw [nlen_one]; decide))
    go_wp2_with fail
    (with_reducible refine HP.out.mono ?_); rintro e w2 ⟨r, rfl, hr, gg3⟩
    obtain ⟨ra, rc, rfl⟩ := hr.shape
    have k1 := (k1.later gg2).later gg3
    have k2 := (k2.later gg2).later gg3
    have hb := (hb.trans (gg2.mono hb.size)).trans (gg3.mono (Nat.le_trans hb.size gg2.size))
    have hltw := k2.lt
    have hnl1 : nlen (M + 1) ≤ 1002 := by
      have := nlen_add_le M 1
      rw [nlen_one] at this
      omega
    have HO := hid (of_nat hr.nat true (by omega))
    generalize hG : (true && decide (0 < M + 1)) = G at *
    have HG := hid hG
    clear p1 p2 p3 hG
    obtain ⟨⟨p1, p2, p3⟩, _⟩ := k1.three
    generalize hX : nlen (M + 1) = X at *
    have HX := hid hX
    clear hX
    go_wp2_with fail
    (with_reducible refine HO.out.mono ?_); rintro e w3 ⟨rfl, gg4⟩
    have hr := Own.keep hr gg4 (Nat.le_refl _)
    have k2 := k2.later gg4
    have hb := hb.trans (gg4.mono hb.size)
    obtain ⟨⟨r1, r2, r3⟩, r4, r5, r6⟩ := k2.three
    go_wp2
    have k2 := k2.set3 (.slice ra X rc) (.bool G) (.bool false)
    obtain ⟨⟨z1, z2, z3⟩, _⟩ := k2.three
    have hF := own_set3 hr (b := w.heap.size + 1) (.slice ra X rc) (.bool G) (.bool false) (by have := gg2.size; have := gg.size; omega)
    have hbF := ((hb.setCell (p := ⟨w.heap.size + 1, 0, none⟩) (by simp) (.slice ra X rc)).setCell (p := ⟨w.heap.size + 1, 1, none⟩) (by simp) (.bool G)).setCell (p := ⟨w.heap.size + 1, 2, none⟩) (by simp) (.bool false)
    refine bodyPost_ret (v := .agg #[.slice ra X rc, .bool G, .bool false]) (by simp [results, Tryz.results105, go_sem, z1, z2, z3]) rfl ⟨_, rfl, ?_, hbF⟩
    have hF2 := Own.len_eq hF HX.out.symm rfl
    exact .inr (.inr ⟨OwnInt.mono (OwnInt.mk hF2 (by rw [HA.out, HD1.out]) (by rw [← HG.out, ← HSG.out, HD1.out])) (by have := hb0.size; have := hszw; simp at *; omega), by rw [HA.out, HD1.out, HX.out]; omega⟩)
  · cases lo with
    | false =>
      have HD1 := hid (show DN = M by rw [HDD.out]; rfl)
      clear HDD hboth
      have HO := hid (of_nat hu.nat s (by omega))
      generalize hG : (s && decide (0 < M)) = G at *
      have HG := hid hG
      clear hG
      generalize hX : nlen M = X at *
      have HX := hid hX
      clear hX
      go_wp2_with fail
      (with_reducible refine HO.out.mono ?_); rintro e w3 ⟨rfl, gg4⟩
      have hr := Own.keep hu gg4 (Nat.le_refl _)
      have k2 := k2.later gg4
      have hb := hb.trans (gg4.mono hb.size)
      obtain ⟨⟨r1, r2, r3⟩, r4, r5, r6⟩ := k2.three
      go_wp2
      have k2 := k2.set3 (.slice ua X uc) (.bool G) (.bool false)
      obtain ⟨⟨z1, z2, z3⟩, _⟩ := k2.three
      have hF := own_set3 hr (b := w.heap.size + 1) (.slice ua X uc) (.bool G) (.bool false) (by omega)
      have hbF := ((hb.setCell (p := ⟨w.heap.size + 1, 0, none⟩) (by simp) (.slice ua X uc)).setCell (p := ⟨w.heap.size + 1, 1, none⟩) (by simp) (.bool G)).setCell (p := ⟨w.heap.size + 1, 2, none⟩) (by simp) (.bool false)
      refine bodyPost_ret (v := .agg #[.slice ua X uc, .bool G, .bool false]) (by simp [results, Tryz.results105, go_sem, z1, z2, z3]) rfl ⟨_, rfl, ?_, hbF⟩
      have hF2 := Own.len_eq hF HX.out.symm rfl
      exact .inr (.inr ⟨OwnInt.mono (OwnInt.mk hF2 (by rw [HA.out, HD1.out]) (by rw [← HG.out, ← HSG.out, HD1.out])) (by have := hb0.size; have := hszw; simp at *; omega), by rw [HA.out, HD1.out, HX.out]; omega⟩)
    | true =>
      cases s with
      | true => exact absurd rfl hboth
      | false =>
        have HD1 := hid (show DN = M by rw [HDD.out]; rfl)
        clear HDD hboth
        have HO := hid (of_nat hu.nat false (by omega))
        generalize hG : (false && decide (0 < M)) = G at *
        have HG := hid hG
        clear hG
        generalize hX : nlen M = X at *
        have HX := hid hX
        clear hX
        go_wp2_with fail
        (with_reducible refine HO.out.mono ?_); rintro e w3 ⟨rfl, gg4⟩
        have hr := Own.keep hu gg4 (Nat.le_refl _)
        have k2 := k2.later gg4
        have hb := hb.trans (gg4.mono hb.size)
        obtain ⟨⟨r1, r2, r3⟩, r4, r5, r6⟩ := k2.three
        go_wp2
        have k2 := k2.set3 (.slice ua X uc) (.bool G) (.bool false)
        obtain ⟨⟨z1, z2, z3⟩, _⟩ := k2.three
        have hF := own_set3 hr (b := w.heap.size + 1) (.slice ua X uc) (.bool G) (.bool false) (by omega)
        have hbF := ((hb.setCell (p := ⟨w.heap.size + 1, 0, none⟩) (by simp) (.slice ua X uc)).setCell (p := ⟨w.heap.size + 1, 1, none⟩) (by simp) (.bool G)).setCell (p := ⟨w.heap.size + 1, 2, none⟩) (by simp) (.bool false)
        refine bodyPost_ret (v := .agg #[.slice ua X uc, .bool G, .bool false]) (by simp [results, Tryz.results105, go_sem, z1, z2, z3]) rfl ⟨_, rfl, ?_, hbF⟩
        have hF2 := Own.len_eq hF HX.out.symm rfl
        exact .inr (.inr ⟨OwnInt.mono (OwnInt.mk hF2 (by rw [HA.out, HD1.out]) (by rw [← HG.out, ← HSG.out, HD1.out])) (by have := hb0.size; have := hszw; simp at *; omega), by rw [HA.out, HD1.out, HX.out]; omega⟩)
end Go.Proofs.YtkhgoeippamobaaGreatDoor
/-
  Shift of big: the exported function.
-/
namespace Go.Proofs.YtkhgoeippamobaaGreatDoor
open Go.RowKit
set_option maxRecDepth 100000 in
set_option maxHeartbeats 2000000 in
theorem shifted_zero {v : Value} {w : World} (h : IntV w v 0) (n : Int) :
    Calls Tryz.prog 105 #[v, .int .i64 n] w fun e w' => ∃ u, e = .returned u ∧ RNumO w' w.heap.size u 0 ∧ Below w.heap.size w w' := by
  obtain ⟨a, c, rfl, h1⟩ := h.shape
  have hn0 : nlen (0 : Int).natAbs = 0 := rfl
  have hs0 : decide ((0 : Int) < 0) = false := rfl
  rw [hn0, hs0]
  clear hn0 hs0 h
  go_enter Tryz.func105, Tryz.ntmps105
  go_wp2
  refine bodyPost_ret (v := .agg #[.slice a 0 c, .bool false, .bool false]) (by simp [results, Tryz.results105, go_sem]) rfl ⟨_, rfl, .inl ⟨a, c, rfl, rfl⟩, ((Below.refl _ _).alloc (Nat.le_refl _) _).alloc (by simp) _⟩
def farN (n : Int) : Int := if n < -100000 ∨ 100000 < n then 7 else 0
theorem shift_far {v : Value} {m : Nat} {neg lg : Bool} {w : World} {c : Nat} {n : Int} (hv : NumV w v m neg lg) (k : Blk w c #[.int .i64 n] 3) : Calls Tryz.prog 103 #[v, .pointer (some ⟨c, 0, none⟩)] w fun e w' => e = .returned (.int .i64 (farN n)) ∧ Below w.heap.size w w' := by
  obtain ⟨s, rfl, h⟩ := hv
  obtain ⟨a, cap, rfl⟩ := h.shape
  have hb : Below w.heap.size w (w.alloc (.cells #[.slice a (nlen m) cap, .bool neg, .bool lg] 49)) := (Below.refl _ _).alloc (Nat.le_refl _) _
  have p1 := k.cell 0
  have k := k.alloc (.cells #[.slice a (nlen m) cap, .bool neg, .bool lg] 49)
  have p2 := k.cell 0
  by_cases h1 : n < -100000
  · have HF := hid (show farN n = 7 by unfold farN; rw [if_pos (.inl h1)])
    go_enter Tryz.func103, Tryz.ntmps103
    go_wp2
    go_ret
    exact ⟨by rw [HF.out]; rfl, hb⟩
  · by_cases h2 : 100000 < n
    · have HF := hid (show farN n = 7 by unfold farN; rw [if_pos (.inr h2)])
      go_enter Tryz.func103, Tryz.ntmps103
      go_wp2
      go_ret
      exact ⟨by rw [HF.out]; rfl, hb⟩
    · have HF := hid (show farN n = 0 by unfold farN; rw [if_neg (by omega)])
      go_enter Tryz.func103, Tryz.ntmps103
      go_wp2
      go_ret
      exact ⟨by rw [HF.out]; rfl, hb⟩
theorem shifted_any {v : Value} {z : Int} {w : World} (h : IntV w v z) (hl : nlen z.natAbs ≤ 1000) (n : Int) (hn : farN n = 0) :
    Calls Tryz.prog 105 #[v, .int .i64 n] w fun e w' => ∃ u, e = .returned u ∧ RNumO w' w.heap.size u (shI z n) ∧ Below w.heap.size w w' := by
  have hr : ¬ (n < -100000 ∨ 100000 < n) := by
    intro h
    unfold farN at hn
    rw [if_pos h] at hn
    exact absurd hn (by decide)
  by_cases hz : z = 0
  · subst hz
    rw [shI_zero]
    exact shifted_zero h n
  · by_cases h0 : 0 ≤ n
    · obtain ⟨k, rfl⟩ := Int.eq_ofNat_of_zero_le h0
      exact shifted_up h hl hz k (by omega)
    · obtain ⟨k, hk⟩ := Int.eq_ofNat_of_zero_le (show 0 ≤ -n by omega)
      obtain rfl : n = -(k : Int) := by omega
      exact shifted_down h hl hz k (by omega) (by omega)
set_option maxRecDepth 100000 in
set_option maxHeartbeats 2000000 in
theorem shift2 {v : Value} {z : Int} {w : World} {c : Nat} {n : Int} (hv : IntV w v z) (hl : nlen z.natAbs ≤ 1000) (k : Blk w c #[.int .i64 n] 3) (hn : farN n = 0) :
    Calls Tryz.prog 104 #[v, .pointer (some ⟨c, 0, none⟩)] w fun e w' => ∃ u, e = .returned u ∧ RNum w' u (shI z n) ∧ Below w.heap.size w w' := by
  obtain ⟨a, m, cap, s, rfl⟩ := hv.shape4
  have k1 := Blk.new w #[.slice a m cap, .bool s, .bool false] 49
  have k2 := Blk.new (w.alloc (.cells #[.slice a m cap, .bool s, .bool false] 49)) #[.slice none 0 0, .bool false, .bool false] 49
  simp only [World.size_alloc] at k2
  have k1 := k1.alloc (.cells #[.slice none 0 0, .bool false, .bool false] 49)
  have hb0 : Below w.heap.size w ((w.alloc (.cells #[.slice a m cap, .bool s, .bool false] 49)).alloc (.cells #[.slice none 0 0, .bool false, .bool false] 49)) := ((Below.refl _ _).alloc (Nat.le_refl _) _).alloc (by simp) _
  have hv := hv.below hb0
  have kn := (k.alloc (.cells #[.slice a m cap, .bool s, .bool false] 49)).alloc (.cells #[.slice none 0 0, .bool false, .bool false] 49)
  have HC := hid (shifted_any hv hl n hn)
  have hsz : ((w.alloc (.cells #[.slice a m cap, .bool s, .bool false] 49)).alloc (.cells #[.slice none 0 0, .bool false, .bool false] 49)).heap.size = w.heap.size + 2 := by simp
  have p0 : ((w.alloc (.cells #[.slice a m cap, .bool s, .bool false] 49)).alloc (.cells #[.slice none 0 0, .bool false, .bool false] 49)).cell? ⟨c, 0, none⟩ = some (.int .i64 n) := kn.cell 0
  clear hn hl
  go_enter Tryz.func104, Tryz.ntmps104
  go_wp2_with fail
  generalize (w.alloc (.cells #[.slice a m cap, .bool s, .bool false] 49)).alloc (.cells #[.slice none 0 0, .bool false, .bool false] 49) = w0 at *
  obtain ⟨⟨p1, p2, p3⟩, _⟩ := k1.three
  go_wp2_with fail
  (with_reducible refine HC.out.mono ?_); rintro e w1 ⟨u, rfl, hu, gg⟩
  have k2 := k2.later gg
  have hb := hb0.trans (gg.mono hb0.size)
  obtain ⟨ua, un, uc, ug, ub, rfl⟩ := hu.shape
  obtain ⟨⟨r1, r2, r3⟩, r4, r5, r6⟩ := k2.three
  go_wp2
  have k2 := k2.set3 (.slice ua un uc) (.bool ug) (.bool ub)
  obtain ⟨⟨z1, z2, z3⟩, _⟩ := k2.three
  have hF := hu.set3 (b := w.heap.size + 1) (by omega) (.slice ua un uc) (.bool ug) (.bool ub)
  have hbF := ((hb.setCell (p := ⟨w.heap.size + 1, 0, none⟩) (by simp) (.slice ua un uc)).setCell (p := ⟨w.heap.size + 1, 1, none⟩) (by simp) (.bool ug)).setCell (p := ⟨w.heap.size + 1, 2, none⟩) (by simp) (.bool ub)
  exact bodyPost_ret (v := .agg #[.slice ua un uc, .bool ug, .bool ub]) (by simp [results, Tryz.results104, go_sem, z1, z2, z3]) rfl ⟨_, rfl, hF.r, hbF⟩
def shiftRes (a : List UInt8) (n : Int) : List UInt8 × Int := oneRes a (farN n) (shI (pVal a) n)
set_option maxRecDepth 100000 in
set_option maxHeartbeats 2000000 in
theorem shift_fn (a : List UInt8) (ha : a.length ≤ 1000000000) (n : Int) (w : World) :
    Calls Tryz.prog 36 #[.string ⟨a.toArray⟩, .int .i64 n] w fun e w' => e = .returned (.tuple #[.string ⟨(shiftRes a n).1.toArray⟩, .int .i64 (shiftRes a n).2]) ∧ Below w.heap.size w w' := by
  have kn := Blk.new w #[.int .i64 n] 3
  have hb0 : Below w.heap.size w (w.alloc (.cells #[.int .i64 n] 3)) := (Below.refl _ _).alloc (Nat.le_refl _) _
  have hc := hid (one_fn a ha 103 104 #[.pointer (some ⟨w.heap.size, 0, none⟩)] #[.pointer (some ⟨w.heap.size, 0, none⟩)] (farN n) (shI (pVal a) n) (w.alloc (.cells #[.int .i64 n] 3)) (w.alloc (.cells #[.int .i64 n] 3)).heap.size (Nat.le_refl _) (enters_of Tryz.func103 (by kernel_rfl) rfl) (enters_of Tryz.func104 (by kernel_rfl) rfl)
    (fun _ w1 v hb h1 => by
      obtain ⟨n, lg, h1, _⟩ := h1
      exact shift_far h1 (kn.later hb))
    (fun _ hp _ w1 v hb h1 h2 => (shift2 h1 h2 (kn.later hb) hp).mono fun e w' h => by
      obtain ⟨u, rfl, h3, h4⟩ := h
      exact ⟨u, rfl, h3, h4.mono hb.size⟩))
  go_enter Tryz.func36, Tryz.ntmps36
  go_wp2_with fail
  (with_reducible refine hc.out.mono ?_); rintro e w1 ⟨rfl, hb1⟩
  go_wp2
  go_ret2
  exact ⟨rfl, hb0.trans (hb1.mono hb0.size)⟩
end Go.Proofs.YtkhgoeippamobaaGreatDoor
/-
  BigFits: the walk.
-/
namespace Go.Proofs.YtkhgoeippamobaaGreatDoor
open Go.RowKit
theorem and_sm {a b : List UInt8} {x y z : Int} (ha : Sm a x) (hb : Sm b y) (hz : z.natAbs < big600) (e : bitI (· &&& ·) x y = z) (w : World) :
    Calls Tryz.prog 31 #[.string ⟨a.toArray⟩, .string ⟨b.toArray⟩] w fun e w' => e = .returned (.tuple #[.string ⟨(txt z).toArray⟩, .int .i64 0]) ∧ Below w.heap.size w w' := by
  obtain ⟨a1, rfl, a2, a3⟩ := ha
  obtain ⟨b1, rfl, b2, b3⟩ := hb
  have h := and_fn a b a3 b3 w
  unfold andRes at h
  generalize bitI (· &&& ·) (pVal a) (pVal b) = R at *
  subst e
  rw [two_small a b R a1 b1 a2 b2 hz] at h
  exact h
theorem or_sm {a b : List UInt8} {x y z : Int} (ha : Sm a x) (hb : Sm b y) (hz : z.natAbs < big600) (e : bitI (· ||| ·) x y = z) (w : World) :
    Calls Tryz.prog 32 #[.string ⟨a.toArray⟩, .string ⟨b.toArray⟩] w fun e w' => e = .returned (.tuple #[.string ⟨(txt z).toArray⟩, .int .i64 0]) ∧ Below w.heap.size w w' := by
  obtain ⟨a1, rfl, a2, a3⟩ := ha
  obtain ⟨b1, rfl, b2, b3⟩ := hb
  have h := or_fn a b a3 b3 w
  unfold orRes at h
  generalize bitI (· ||| ·) (pVal a) (pVal b) = R at *
  subst e
  rw [two_small a b R a1 b1 a2 b2 hz] at h
  exact h
theorem xor_sm {a b : List UInt8} {x y z : Int} (ha : Sm a x) (hb : Sm b y) (hz : z.natAbs < big600) (e : bitI (· ^^^ ·) x y = z) (w : World) :
    Calls Tryz.prog 33 #[.string ⟨a.toArray⟩, .string ⟨b.toArray⟩] w fun e w' => e = .returned (.tuple #[.string ⟨(txt z).toArray⟩, .int .i64 0]) ∧ Below w.heap.size w w' := by
  obtain ⟨a1, rfl, a2, a3⟩ := ha
  obtain ⟨b1, rfl, b2, b3⟩ := hb
  have h := xor_fn a b a3 b3 w
  unfold xorRes at h
  generalize bitI (· ^^^ ·) (pVal a) (pVal b) = R at *
  subst e
  rw [two_small a b R a1 b1 a2 b2 hz] at h
  exact h
theorem neg_sm {a : List UInt8} {x z : Int} (ha : Sm a x) (hz : z.natAbs < big600) (e : -x = z) (w : World) :
    Calls Tryz.prog 35 #[.string ⟨a.toArray⟩] w fun e w' => e = .returned (.tuple #[.string ⟨(txt z).toArray⟩, .int .i64 0]) ∧ Below w.heap.size w w' := by
  subst e
  obtain ⟨a1, rfl, a2, a3⟩ := ha
  have h := neg_fn a a3 w
  rw [negRes, one_small a _ a1 a2 hz] at h
  exact h
theorem not_sm {a : List UInt8} {x z : Int} (ha : Sm a x) (hz : z.natAbs < big600) (e : -x - 1 = z) (w : World) :
    Calls Tryz.prog 34 #[.string ⟨a.toArray⟩] w fun e w' => e = .returned (.tuple #[.string ⟨(txt z).toArray⟩, .int .i64 0]) ∧ Below w.heap.size w w' := by
  subst e
  obtain ⟨a1, rfl, a2, a3⟩ := ha
  have h := not_fn a a3 w
  rw [notRes, one_small a _ a1 a2 hz] at h
  exact h
theorem Sm.one : Sm [49] 1 := ⟨by decide, by decide, by have := big600_two; show (1 : Nat) < big600; omega, by decide⟩
theorem right_two (a b : List UInt8) (w : World) (la : a.length ≤ 2000000) (lb : b.length ≤ 2000000) : Hid (Calls Tryz.prog 10 #[.slice (some ⟨w.heap.size, 0, none⟩) 2 2] (w.alloc (.cells #[.string ⟨a.toArray⟩, .string ⟨b.toArray⟩] 9)) fun e w' => e = .returned (.bool (rightB [a, b])) ∧ Below (w.alloc (.cells #[.string ⟨a.toArray⟩, .string ⟨b.toArray⟩] 9)).heap.size (w.alloc (.cells #[.string ⟨a.toArray⟩, .string ⟨b.toArray⟩] 9)) w') :=
  hid (right_fn (ls := [a, b]) (Strs.two (Blk.new w #[.string ⟨a.toArray⟩, .string ⟨b.toArray⟩] 9)) (by simp) (fun l hl' => by
    simp only [List.mem_cons, List.mem_nil_iff, or_false] at hl'
    rcases hl' with rfl | rfl <;> assumption))
set_option maxRecDepth 100000 in
set_option maxHeartbeats 4000000 in
theorem fits_in (a b : List UInt8) (x y : Int) (ha : Sm a x) (hb : Sm b y) (hx : x.natAbs < 2 ^ 240) (hy : y.natAbs < 2 ^ 240) (w : World)
    (hr : rightB [a, b] = true) (la : a.length ≤ 2000000) (lb : b.length ≤ 2000000) :
    Calls Tryz.prog 6 #[.string ⟨a.toArray⟩, .string ⟨b.toArray⟩] w fun e w' => e = .returned (.bool true) ∧ Below w.heap.size w w' := by
  have e1 : (2 : Nat) ^ 240 + 2 ^ 240 + 1 < 2 ^ 500 := by decide +kernel
  have e2 : (2 : Nat) ^ (240 + 32) + 2 ^ (240 + 32) + 2 ^ (240 + 32) < 2 ^ 500 := by decide +kernel
  have m1 := bitI_small _ bl_and x y 240 hx hy
  have m2 := bitI_small _ bl_or x y 240 hx hy
  have m3 := bitI_small _ bl_xor x y 240 hx hy
  have s1 := bit_sum_or x y
  have s2 := bit_sum_xor x y
  generalize hA : bitI (· &&& ·) x y = A at *
  generalize hO : bitI (· ||| ·) x y = O at *
  generalize hX : bitI (· ^^^ ·) x y = X at *
  have l1 : A.natAbs < big600 := lt_big _ (by omega)
  have l2 : O.natAbs < big600 := lt_big _ (by omega)
  have l3 : X.natAbs < big600 := lt_big _ (by omega)
  have l4 : (x + y).natAbs < big600 := lt_big _ (by omega)
  have l5 : (A + A).natAbs < big600 := lt_big _ (by omega)
  have l6 : (-x - 1).natAbs < big600 := lt_big _ (by omega)
  have l7 : (-x).natAbs < big600 := lt_big _ (by omega)
  have C1 := fun w => hid (and_sm ha hb l1 hA w)
  have C2 := fun w => hid (or_sm ha hb l2 hO w)
  have C3 := fun w => hid (xor_sm ha hb l3 hX w)
  have C4 := fun w => hid (add_sm ha hb l4 rfl w)
  have C5 := fun w => hid (add_sm (Sm.txt _ l2) (Sm.txt _ l1) l4 s1 w)
  have C6 := fun w => hid (add_sm (Sm.txt _ l1) (Sm.txt _ l1) l5 rfl w)
  have C7 := fun w => hid (add_sm (Sm.txt _ l3) (Sm.txt _ l5) l4 s2 w)
  have C8 := fun w => hid (not_sm ha l6 rfl w)
  have C9 := fun w => hid (neg_sm ha l7 rfl w)
  have C10 := fun w => hid (sub_sm (Sm.txt _ l7) Sm.one l6 rfl w)
  have AW := fun w => hid (awake_fn w)
  have hb0 : Below w.heap.size w (w.alloc (.cells #[.string ⟨a.toArray⟩, .string ⟨b.toArray⟩] 9)) := (Below.refl _ _).alloc (Nat.le_refl _) _
  have HRC := right_two a b w la lb
  rw [hr] at HRC
  have HRC := hid HRC.out
  clear ha hb hr l1 l2 l3 l4 l5 l6 l7 m1 m2 m3 e1 e2 s1 s2 hx hy hA hO hX la lb
  generalize txt A = t1 at *
  generalize txt O = t2 at *
  generalize txt X = t3 at *
  generalize txt (x + y) = t4 at *
  generalize txt (A + A) = t5 at *
  generalize txt (-x - 1) = t6 at *
  generalize txt (-x) = t7 at *
  go_enter Tryz.func6, Tryz.ntmps6
  go_wp2_with fail
  (with_reducible refine HRC.out.mono ?_); rintro e w0 ⟨rfl, g0⟩
  have hb := hb0.trans (g0.mono hb0.size)
  clear hb0 g0
  go_wp2_with fail
  (with_reducible refine (C1 _).out.mono ?_); rintro e w1 ⟨rfl, g1⟩
  have hb := hb.trans (g1.mono hb.size)
  clear g1
  go_wp2_with fail
  (with_reducible refine (C2 _).out.mono ?_); rintro e w2 ⟨rfl, g2⟩
  have hb := hb.trans (g2.mono hb.size)
  clear g2
  go_wp2_with fail
  (with_reducible refine (C3 _).out.mono ?_); rintro e w3 ⟨rfl, g3⟩
  have hb := hb.trans (g3.mono hb.size)
  clear g3
  go_wp2_with fail
  (with_reducible refine (C4 _).out.mono ?_); rintro e w4 ⟨rfl, g4⟩
  have hb := hb.trans (g4.mono hb.size)
  clear g4
  go_wp2_with fail
  (with_reducible refine (C5 _).out.mono ?_); rintro e w5 ⟨rfl, g5⟩
  have hb := hb.trans (g5.mono hb.size)
  clear g5
  go_wp2_with fail
  (with_reducible refine (C6 _).out.mono ?_); rintro e w6 ⟨rfl, g6⟩
  have hb := hb.trans (g6.mono hb.size)
  clear g6
  go_wp2_with fail
  (with_reducible refine (C7 _).out.mono ?_); rintro e w7 ⟨rfl, g7⟩
  have hb := hb.trans (g7.mono hb.size)
  clear g7
  go_wp2_with fail
  (with_reducible refine (C8 _).out.mono ?_); rintro e w8 ⟨rfl, g8⟩
  have hb := hb.trans (g8.mono hb.size)
  clear g8
  go_wp2_with fail
  (with_reducible refine (C9 _).out.mono ?_); rintro e w9 ⟨rfl, g9⟩
  have hb := hb.trans (g9.mono hb.size)
  clear g9
  go_wp2_with fail
  (with_reducible refine (C10 _).out.mono ?_); rintro e w10 ⟨rfl, g10⟩
  have hb := hb.trans (g10.mono hb.size)
  clear g10
  go_wp2_with fail
  (with_reducible refine (AW _).out.mono ?_); rintro e w11 ⟨rfl, g11⟩
  have hb := hb.trans (g11.mono hb.size)
  clear g11
  go_wp2
  go_ret
  exact ⟨rfl, hb⟩
set_option maxRecDepth 100000 in
set_option maxHeartbeats 4000000 in
theorem fits_fn (a b : List UInt8) (w : World) (la : a.length ≤ 2000000) (lb : b.length ≤ 2000000) :
    Calls Tryz.prog 6 #[.string ⟨a.toArray⟩, .string ⟨b.toArray⟩] w fun e w' => e = .returned (.bool true) ∧ Below w.heap.size w w' := by
  cases hr : rightB [a, b] with
  | true =>
    obtain ⟨a1, a2, a3⟩ := rightB_mem _ hr a (by simp)
    obtain ⟨b1, b2, b3⟩ := rightB_mem _ hr b (by simp)
    have e : (2 : Nat) ^ 240 < 2 ^ 500 := by decide +kernel
    exact fits_in a b _ _ ⟨a1, rfl, lt_big _ (by omega), by omega⟩ ⟨b1, rfl, lt_big _ (by omega), by omega⟩ a2 b2 w hr la lb
  | false =>
    have AW := fun w => hid (awake_fn w)
    have hb0 : Below w.heap.size w (w.alloc (.cells #[.string ⟨a.toArray⟩, .string ⟨b.toArray⟩] 9)) := (Below.refl _ _).alloc (Nat.le_refl _) _
    have HRC := right_two a b w la lb
    rw [hr] at HRC
    have HRC := hid HRC.out
    clear hr la lb
    go_enter Tryz.func6, Tryz.ntmps6
    go_wp2_with fail
    (with_reducible refine HRC.out.mono ?_); rintro e w0 ⟨rfl, g0⟩
    have hb := hb0.trans (g0.mono hb0.size)
    clear hb0 g0
    go_wp2_with fail
    (with_reducible refine (AW _).out.mono ?_); rintro e w1 ⟨rfl, g1⟩
    have hb := hb.trans (g1.mono hb.size)
    clear g1
    go_wp2
    go_ret
    exact ⟨rfl, hb⟩
end Go.Proofs.YtkhgoeippamobaaGreatDoor
