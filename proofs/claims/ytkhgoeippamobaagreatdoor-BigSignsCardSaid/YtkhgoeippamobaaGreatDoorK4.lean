/-
  Part K4 of the proofs of this seat: contracts of functions and plain facts, merged from 6 texts.
-/
import Derived.Outline
import Derived.Test.YtkhgoeippamobaaGreatDoorK1
import Derived.Test.YtkhgoeippamobaaGreatDoorK2
import Derived.Test.YtkhgoeippamobaaGreatDoorK3
/-
  The two's complement.
-/
namespace Go.Proofs.YtkhgoeippamobaaGreatDoor
open Go.RowKit
/-- the opposite, of k digits -/
def negN (n k : Nat) : Nat := 2 ^ (32 * k) - n % 2 ^ (32 * k)
def ncy (n i : Nat) : Nat := negN n i / 2 ^ (32 * i)
theorem negN_pos (n k : Nat) : 0 < negN n k := by
  have := Nat.mod_lt n (pow32_pos k)
  unfold negN; omega
theorem ncy_zero (n : Nat) : ncy n 0 = 1 := by simp [ncy, negN, Nat.mod_one]
theorem ncy_le (n i : Nat) : ncy n i ≤ 1 := by
  unfold ncy
  have : negN n i / 2 ^ (32 * i) < 2 := by
    rw [Nat.div_lt_iff_lt_mul (pow32_pos i)]
    have := pow32_pos i
    unfold negN; omega
  omega
def uC (n i : Nat) : Nat := ncy n i + (4294967295 - D n i)
theorem uC_eq (n i : Nat) : uC n i = negN n (i + 1) / 2 ^ (32 * i) := by
  have h1 := Nat.mod_lt n (pow32_pos i)
  have h2 := D_lt n i
  have e : negN n (i + 1) = negN n i + 2 ^ (32 * i) * (4294967295 - D n i) := by
    unfold negN
    rw [mod_split, pow32_succ, Nat.mul_sub]
    have h3 : 2 ^ (32 * i) * D n i ≤ 2 ^ (32 * i) * 4294967295 := Nat.mul_le_mul_left _ (by omega)
    omega
  rw [e, Nat.add_mul_div_left _ _ (pow32_pos i)]
  rfl
theorem uC_div (n i : Nat) : uC n i / 4294967296 = ncy n (i + 1) := by
  rw [uC_eq, Nat.div_div_eq_div_mul]
  unfold ncy
  rw [pow32_succ]
theorem negN_mod (n i k : Nat) (h : i ≤ k) : negN n k % 2 ^ (32 * i) = negN n i % 2 ^ (32 * i) := by
  have e : 2 ^ (32 * k) = 2 ^ (32 * i) * 2 ^ (32 * (k - i)) := by rw [← Nat.pow_add]; congr 1; omega
  have h0 := Nat.mod_lt n (pow32_pos i)
  have h1 : negN n k = negN n i + 2 ^ (32 * i) * (2 ^ (32 * (k - i)) - 1 - n / 2 ^ (32 * i) % 2 ^ (32 * (k - i))) := by
    unfold negN
    rw [e, Nat.mod_mul]
    have h2 := Nat.mod_lt (n / 2 ^ (32 * i)) (pow32_pos (k - i))
    generalize n / 2 ^ (32 * i) % 2 ^ (32 * (k - i)) = y at *
    generalize 2 ^ (32 * (k - i)) = K at *
    obtain ⟨z, rfl⟩ : ∃ z, K = y + 1 + z := ⟨K - (y + 1), by omega⟩
    rw [show y + 1 + z - 1 - y = z by omega, Nat.mul_add, Nat.mul_add, Nat.mul_one]
    omega
  rw [h1, Nat.add_mul_mod_self_left]
theorem uC_mod (n i k : Nat) (h : i < k) : uC n i % 4294967296 = D (negN n k) i := by
  rw [uC_eq]
  show D (negN n (i + 1)) i = _
  apply D_congr
  rw [negN_mod n (i + 1) k (by omega)]
theorem not_u32 (x : Nat) (h : x < 4294967296) : bits BinOp.xor IntKind.u32 (if IntKind.u32.signed = true then -1 else IntKind.u32.max) (x : Int) = 4294967295 - (x : Int) := by
  have e : (if IntKind.u32.signed = true then (-1 : Int) else IntKind.u32.max) = ((4294967295 : Nat) : Int) := by simp [IntKind.signed, IntKind.max, IntKind.bits]
  rw [e, u32_xor_nat _ _ (by decide) h]
  have h2 : 4294967295 ^^^ x = 4294967295 - x := by
    have h3 : (4294967295 - x) + x = 4294967295 := by omega
    apply Nat.eq_of_testBit_eq
    intro i
    rw [show (4294967295 : Nat) = 2 ^ 32 - 1 from rfl, Nat.testBit_xor, Nat.testBit_two_pow_sub_one, show 2 ^ 32 - 1 - x = 2 ^ 32 - (x + 1) by omega, Nat.testBit_two_pow_sub_succ h]
    by_cases hi : i < 32
    · simp [hi]
    · have h4 : x.testBit i = false := Nat.testBit_lt_two_pow (Nat.lt_of_lt_of_le h (Nat.pow_le_pow_right (n := 2) (by decide) (show 32 ≤ i by omega)))
      simp [hi, h4]
  rw [h2]
  omega
set_option maxRecDepth 100000 in
set_option maxHeartbeats 2000000 in
theorem complement_nat {v : Value} {n : Nat} {w : World} (h : NatRep w v n) (hl : nlen n ≤ 10000000) (neg : Bool) (k : Nat) (hk : k ≤ 10000000) :
    Calls Tryz.prog 131 #[v, .bool neg, .int .i64 k] w fun e w' => (∃ u, e = .returned u ∧ Own .u32 75 w' w.heap.size u k (if neg then D (negN n k) else D n)) ∧ Below w.heap.size w w' := by
  cases neg
  all_goals
    go_enter Tryz.func131, Tryz.ntmps131
    go_wp2_with (at_make; refine mk_u32 _ rfl _ _ rfl w.heap.size k _ _ rfl rfl rfl rfl (by omega) (Nat.le_refl _) ?_; intro w1 hown hb hz hb1)
  · go_loopw [8, 14] (fun carry i wr => ∃ j : Nat, i = .int .i64 j ∧ j ≤ k ∧ carry = .int .u64 1 ∧ Own .u32 75 wr w.heap.size (.slice (some ⟨w.heap.size, 0, none⟩) k k) k (fun t => if t < j then D n t else 0) ∧ Below w.heap.size w wr)
      (fun _ i _ => k - (intOf i).toNat)
    case atStart => exact ⟨0, rfl, Nat.zero_le _, rfl, hown.congr (fun t _ => by rw [if_neg (by omega)]), hb⟩
    case round =>
      obtain ⟨j, rfl, hj, rfl, hown1, hbr⟩ := hrel
      clear hown hb hz hb1
      by_cases hlt : j < k
      · have hoc := hown1.cell j hlt
        have hof := hown1.free j
        go_wp2_with fail
        refine (at_nat (h.below hbr) (by omega) _ (by omega) (by omega)).mono ?_
        rintro e w' ⟨rfl, rfl⟩
        rw [Int.toNat_natCast]
        go_wp2
        go_roundw
        case rel =>
          refine ⟨j + 1, by go_num, by omega, rfl, (hown1.store j _).congr ?_, hbr.setCell (Nat.le_refl _) _⟩
          intro t ht
          show (if t = j then _ else if t < j then _ else _) = _
          by_cases e : t = j
          · rw [if_pos e, if_pos (by omega), e]
          · rw [if_neg e]
            by_cases e2 : t < j
            · rw [if_pos e2, if_pos (by omega)]
            · rw [if_neg e2, if_neg (by omega)]
        case measure => simp [intOf] <;> omega
      · obtain rfl : j = k := by omega
        go_wp2
        go_ret
        exact ⟨⟨_, rfl, hown1.congr (fun t ht => by rw [if_pos ht])⟩, hbr⟩
  · go_loopw [8, 14] (fun carry i wr => ∃ j : Nat, i = .int .i64 j ∧ j ≤ k ∧ carry = .int .u64 (ncy n j) ∧ Own .u32 75 wr w.heap.size (.slice (some ⟨w.heap.size, 0, none⟩) k k) k (fun t => if t < j then D (negN n k) t else 0) ∧ Below w.heap.size w wr)
      (fun _ i _ => k - (intOf i).toNat)
    case atStart => exact ⟨0, rfl, Nat.zero_le _, by rw [ncy_zero]; rfl, hown.congr (fun t _ => by rw [if_neg (by omega)]), hb⟩
    case round =>
      obtain ⟨j, rfl, hj, rfl, hown1, hbr⟩ := hrel
      clear hown hb hz hb1
      have hcy := ncy_le n j
      have hd := D_lt n j
      by_cases hlt : j < k
      · have hoc := hown1.cell j hlt
        have hof := hown1.free j
        go_wp2_with fail
        refine (at_nat (h.below hbr) (by omega) _ (by omega) (by omega)).mono ?_
        rintro e w' ⟨rfl, rfl⟩
        rw [Int.toNat_natCast]
        have hs := hown1.store j (D n j)
        have hsc := hs.cell j hlt
        have hsf := hs.free j
        have hbs : Below w.heap.size w _ := hbr.setCell (p := ⟨w.heap.size, j, none⟩) (Nat.le_refl _) (.int .u32 ((D n j : Nat) : Int))
        have hw0 := not_u32 (D n j) hd
        have hw1 : ((ncy n j : Nat) : Int) + (4294967295 - ((D n j : Nat) : Int)) = ((uC n j : Nat) : Int) := by unfold uC; omega
        have hw2 : ((uC n j : Nat) : Int) % 4294967296 = ((D (negN n k) j : Nat) : Int) := by rw [← uC_mod n j k hlt]; omega
        have hw3 : ((uC n j : Nat) : Int) / 4294967296 = ((ncy n (j + 1) : Nat) : Int) := by rw [← uC_div]; omega
        have hub : uC n j ≤ 4294967296 := by unfold uC; omega
        have hcall := hid (at_nat (h.below hbs) (by omega) (j : Int) (by omega) (by omega))
        go_wp2_with fail
        (with_reducible refine hcall.out.mono ?_); rintro e w' ⟨rfl, rfl⟩
        rw [Int.toNat_natCast]
        go_wp2
        go_roundw
        case rel =>
          refine ⟨j + 1, by go_num, by omega, rfl, (hs.store j _).congr ?_, hbs.setCell (Nat.le_refl _) _⟩
          intro t ht
          show (if t = j then _ else if t = j then _ else if t < j then _ else _) = _
          by_cases e : t = j
          · rw [if_pos e, if_pos (by omega), e]
          · rw [if_neg e, if_neg e]
            by_cases e2 : t < j
            · rw [if_pos e2, if_pos (by omega)]
            · rw [if_neg e2, if_neg (by omega)]
        case measure => simp [intOf] <;> omega
      · obtain rfl : j = k := by omega
        go_wp2
        go_ret
        exact ⟨⟨_, rfl, hown1.congr (fun t ht => by rw [if_pos ht])⟩, hbr⟩
end Go.Proofs.YtkhgoeippamobaaGreatDoor
/-
  Bits of integers in two's complement (plain).
-/
namespace Go.Proofs.YtkhgoeippamobaaGreatDoor
open Go.RowKit
theorem D_eq_mod (n i : Nat) : D n i = n / 2 ^ (32 * i) % 2 ^ 32 := rfl
theorem DB_and (x y i : Nat) : D (x &&& y) i = D x i &&& D y i := by
  rw [D_eq_mod, D_eq_mod, D_eq_mod]
  apply Nat.eq_of_testBit_eq
  intro j
  simp only [Nat.testBit_mod_two_pow, Nat.testBit_div_two_pow, Nat.testBit_and]
  cases decide (j < 32) <;> simp
theorem DB_or (x y i : Nat) : D (x ||| y) i = D x i ||| D y i := by
  rw [D_eq_mod, D_eq_mod, D_eq_mod]
  apply Nat.eq_of_testBit_eq
  intro j
  simp only [Nat.testBit_mod_two_pow, Nat.testBit_div_two_pow, Nat.testBit_or]
  cases decide (j < 32) <;> simp
theorem DB_xor (x y i : Nat) : D (x ^^^ y) i = D x i ^^^ D y i := by
  rw [D_eq_mod, D_eq_mod, D_eq_mod]
  apply Nat.eq_of_testBit_eq
  intro j
  simp only [Nat.testBit_mod_two_pow, Nat.testBit_div_two_pow, Nat.testBit_xor]
  cases decide (j < 32) <;> simp
/-- what is done digit by digit -/
def BitLike (f : Nat → Nat → Nat) : Prop := (∀ x y i, D (f x y) i = f (D x i) (D y i)) ∧ (∀ x y k, x < 2 ^ k → y < 2 ^ k → f x y < 2 ^ k) ∧ (∀ x y i, f x y / 2 ^ i = f (x / 2 ^ i) (y / 2 ^ i)) ∧ (∀ s t : Bool, (f (if s then 4294967295 else 0) (if t then 4294967295 else 0) = 0 ∨ f (if s then 4294967295 else 0) (if t then 4294967295 else 0) = 4294967295))
theorem bl_and : BitLike (· &&& ·) := by
  refine ⟨DB_and, fun x y k hx _ => Nat.and_lt_two_pow x ‹_›, fun x y i => ?_, ?_⟩
  · apply Nat.eq_of_testBit_eq
    intro j
    simp [Nat.testBit_div_two_pow, Nat.testBit_and]
  · intro s t; cases s <;> cases t <;> decide
theorem bl_or : BitLike (· ||| ·) := by
  refine ⟨DB_or, fun x y k hx hy => Nat.or_lt_two_pow hx hy, fun x y i => ?_, ?_⟩
  · apply Nat.eq_of_testBit_eq
    intro j
    simp [Nat.testBit_div_two_pow, Nat.testBit_or]
  · intro s t; cases s <;> cases t <;> decide
theorem bl_xor : BitLike (· ^^^ ·) := by
  refine ⟨DB_xor, fun x y k hx hy => Nat.xor_lt_two_pow hx hy, fun x y i => ?_, ?_⟩
  · apply Nat.eq_of_testBit_eq
    intro j
    simp [Nat.testBit_div_two_pow, Nat.testBit_xor]
  · intro s t; cases s <;> cases t <;> decide
theorem add_xor_and (x : Nat) : ∀ y, x + y = (x ^^^ y) + 2 * (x &&& y) := by
  induction x using Nat.strongRecOn with
  | _ x ih =>
    intro y
    by_cases h0 : x = 0
    · subst h0; simp
    · have h1 := ih (x / 2) (by omega) (y / 2)
      have e1 := Nat.div_add_mod (x ^^^ y) 2
      have e2 := Nat.div_add_mod (x &&& y) 2
      have d1 : (x ^^^ y) / 2 = x / 2 ^^^ y / 2 := by
        apply Nat.eq_of_testBit_eq
        intro j
        simp [Nat.testBit_div_two, Nat.testBit_xor]
      have d2 : (x &&& y) / 2 = x / 2 &&& y / 2 := by
        apply Nat.eq_of_testBit_eq
        intro j
        simp [Nat.testBit_div_two, Nat.testBit_and]
      have b1 := Nat.testBit_xor x y 0
      have b2 := Nat.testBit_and x y 0
      rw [Nat.testBit_zero, Nat.testBit_zero, Nat.testBit_zero] at b1 b2
      rw [d1] at e1
      rw [d2] at e2
      rcases Nat.mod_two_eq_zero_or_one x with hx | hx <;> rcases Nat.mod_two_eq_zero_or_one y with hy | hy <;>
        (rw [hx, hy] at b1 b2
         have c1 : (x ^^^ y) % 2 = 0 ∨ (x ^^^ y) % 2 = 1 := Nat.mod_two_eq_zero_or_one _
         have c2 : (x &&& y) % 2 = 0 ∨ (x &&& y) % 2 = 1 := Nat.mod_two_eq_zero_or_one _
         generalize (x ^^^ y) % 2 = r1 at *
         generalize (x &&& y) % 2 = r2 at *
         rcases c1 with rfl | rfl <;> rcases c2 with rfl | rfl <;> first | (exact absurd b1 (by decide)) | (exact absurd b2 (by decide)) | omega)
theorem add_or_and (x y : Nat) : x + y = (x ||| y) + (x &&& y) := by
  have h1 := add_xor_and x y
  have h2 := add_xor_and (x ^^^ y) (x &&& y)
  have e1 : (x ^^^ y) ^^^ (x &&& y) = x ||| y := by
    apply Nat.eq_of_testBit_eq
    intro j
    simp only [Nat.testBit_xor, Nat.testBit_and, Nat.testBit_or]
    cases x.testBit j <;> cases y.testBit j <;> rfl
  have e2 : (x ^^^ y) &&& (x &&& y) = 0 := by
    apply Nat.eq_of_testBit_eq
    intro j
    simp only [Nat.testBit_xor, Nat.testBit_and, Nat.zero_testBit]
    cases x.testBit j <;> cases y.testBit j <;> rfl
  rw [e1, e2] at h2
  omega
/-- how many digits are put together -/
def kOf (x y : Int) : Nat := max (nlen x.natAbs) (nlen y.natAbs) + 1
/-- two's complement -/
def tcI (z : Int) (k : Nat) : Nat := if z < 0 then negN z.natAbs k else z.natAbs
def ofTc (k n : Nat) : Int := if 2 ^ (32 * k - 1) ≤ n then -((negN n k : Nat) : Int) else (n : Int)
def bitI (f : Nat → Nat → Nat) (x y : Int) : Int := ofTc (kOf x y) (f (tcI x (kOf x y)) (tcI y (kOf x y)))
theorem pow_split (j : Nat) : 2 ^ (32 * (j + 1)) = 2 ^ (32 * j) * 4294967296 := pow32_succ j
theorem tcI_parts (z : Int) (j : Nat) (h : nlen z.natAbs ≤ j) : ∃ s : Bool, (s = decide (z < 0)) ∧ tcI z (j + 1) < 2 ^ (32 * (j + 1)) ∧ tcI z (j + 1) / 2 ^ (32 * j) = (if s then 4294967295 else 0) ∧ (z = (tcI z (j + 1) : Int) - (if s then ((2 ^ (32 * (j + 1)) : Nat) : Int) else 0)) ∧ -((2 ^ (32 * j) : Nat) : Int) ≤ z ∧ z < ((2 ^ (32 * j) : Nat) : Int) := by
  have h1 := (nlen_le_iff z.natAbs j).1 h
  have hp := pow32_pos j
  have hs := pow_split j
  refine ⟨decide (z < 0), rfl, ?_⟩
  unfold tcI
  rw [hs]
  by_cases hz : z < 0
  · rw [if_pos hz, decide_eq_true hz, if_pos rfl, if_pos rfl]
    unfold negN
    rw [hs, Nat.mod_eq_of_lt (by omega)]
    generalize 2 ^ (32 * j) = p at *
    refine ⟨by omega, ?_, by omega, by omega, by omega⟩
    have e : p * 4294967296 - z.natAbs = (p - z.natAbs) + p * 4294967295 := by omega
    rw [e, Nat.add_mul_div_left _ _ hp, Nat.div_eq_of_lt (by omega)]
  · rw [if_neg hz, decide_eq_false hz, if_neg (by decide), if_neg (by decide)]
    generalize 2 ^ (32 * j) = p at *
    exact ⟨by omega, Nat.div_eq_of_lt h1, by omega, by omega, by omega⟩
theorem ofTc_parts (f : Nat → Nat → Nat) (hf : BitLike f) (x y : Int) : ∃ t : Bool, bitI f x y = (f (tcI x (kOf x y)) (tcI y (kOf x y)) : Int) - (if t then ((2 ^ (32 * kOf x y) : Nat) : Int) else 0) ∧ -((2 ^ (32 * (kOf x y - 1)) : Nat) : Int) ≤ bitI f x y ∧ bitI f x y < ((2 ^ (32 * (kOf x y - 1)) : Nat) : Int) ∧ f (tcI x (kOf x y)) (tcI y (kOf x y)) < 2 ^ (32 * kOf x y) := by
  obtain ⟨j, hj⟩ : ∃ j, kOf x y = j + 1 := ⟨_, rfl⟩
  have hjx : nlen x.natAbs ≤ j := by unfold kOf at hj; omega
  have hjy : nlen y.natAbs ≤ j := by unfold kOf at hj; omega
  obtain ⟨s1, -, a1, a2, _⟩ := tcI_parts x j hjx
  obtain ⟨s2, -, b1, b2, _⟩ := tcI_parts y j hjy
  obtain ⟨f1, f2, f3, f4⟩ := hf
  unfold bitI
  rw [hj, Nat.add_sub_cancel]
  have hlt := f2 _ _ _ a1 b1
  have htop := f3 (tcI x (j + 1)) (tcI y (j + 1)) (32 * j)
  rw [a2, b2] at htop
  have h4 := f4 s1 s2
  generalize f (tcI x (j + 1)) (tcI y (j + 1)) = Z at *
  generalize f (if s1 = true then 4294967295 else 0) (if s2 = true then 4294967295 else 0) = T at *
  have hp := pow32_pos j
  have hs := pow_split j
  have hs1 : 2 ^ (32 * (j + 1) - 1) = 2 ^ (32 * j) * 2147483648 := by
    rw [show 32 * (j + 1) - 1 = 32 * j + 31 by omega, Nat.pow_add]
  unfold ofTc
  rw [hs1]
  have hneg : negN Z (j + 1) = 2 ^ (32 * (j + 1)) - Z := by unfold negN; rw [Nat.mod_eq_of_lt hlt]
  have hd := Nat.div_add_mod Z (2 ^ (32 * j))
  have hm := Nat.mod_lt Z hp
  rw [htop] at hd
  rcases h4 with rfl | rfl
  · refine ⟨false, ?_⟩
    rw [if_neg (by generalize 2 ^ (32 * j) = p at *; omega), if_neg (by decide)]
    refine ⟨by omega, by omega, ?_, hlt⟩
    generalize 2 ^ (32 * j) = p at *
    omega
  · refine ⟨true, ?_⟩
    rw [if_pos (by generalize 2 ^ (32 * j) = p at *; omega), if_pos rfl, hneg, hs]
    rw [hs] at hlt
    generalize 2 ^ (32 * j) = p at *
    refine ⟨by omega, by omega, by omega, hlt⟩
theorem bit_sum_xor (x y : Int) : bitI (· ^^^ ·) x y + (bitI (· &&& ·) x y + bitI (· &&& ·) x y) = x + y := by
  obtain ⟨t1, e1, l1, u1, _⟩ := ofTc_parts _ bl_xor x y
  obtain ⟨t2, e2, l2, u2, _⟩ := ofTc_parts _ bl_and x y
  obtain ⟨j, hj⟩ : ∃ j, kOf x y = j + 1 := ⟨_, rfl⟩
  obtain ⟨s1, -, _, _, ex, lx, ux⟩ := tcI_parts x j (by unfold kOf at hj; omega)
  obtain ⟨s2, -, _, _, ey, ly, uy⟩ := tcI_parts y j (by unfold kOf at hj; omega)
  rw [hj] at e1 e2 l1 l2 u1 u2
  rw [Nat.add_sub_cancel] at l1 l2 u1 u2
  have hs := pow_split j
  have hsum := add_xor_and (tcI x (j + 1)) (tcI y (j + 1))
  generalize bitI (· ^^^ ·) x y = A at *
  generalize bitI (· &&& ·) x y = B at *
  have e1' : A = ((tcI x (j + 1) ^^^ tcI y (j + 1) : Nat) : Int) - (if t1 = true then ((2 ^ (32 * (j + 1)) : Nat) : Int) else 0) := e1
  have e2' : B = ((tcI x (j + 1) &&& tcI y (j + 1) : Nat) : Int) - (if t2 = true then ((2 ^ (32 * (j + 1)) : Nat) : Int) else 0) := e2
  generalize tcI x (j + 1) ^^^ tcI y (j + 1) = U at *
  generalize tcI x (j + 1) &&& tcI y (j + 1) = V at *
  generalize tcI x (j + 1) = X at *
  generalize tcI y (j + 1) = Y at *
  rw [hs] at e1' e2' ex ey
  have hp := pow32_pos j
  generalize 2 ^ (32 * j) = p at *
  clear e1 e2 hs hj
  cases s1 <;> cases s2 <;> cases t1 <;> cases t2 <;> simp only [if_true, if_false, Bool.false_eq_true] at e1' e2' ex ey <;> omega
theorem bit_sum_or (x y : Int) : bitI (· ||| ·) x y + bitI (· &&& ·) x y = x + y := by
  obtain ⟨t1, e1, l1, u1, _⟩ := ofTc_parts _ bl_or x y
  obtain ⟨t2, e2, l2, u2, _⟩ := ofTc_parts _ bl_and x y
  obtain ⟨j, hj⟩ : ∃ j, kOf x y = j + 1 := ⟨_, rfl⟩
  obtain ⟨s1, -, _, _, ex, lx, ux⟩ := tcI_parts x j (by unfold kOf at hj; omega)
  obtain ⟨s2, -, _, _, ey, ly, uy⟩ := tcI_parts y j (by unfold kOf at hj; omega)
  rw [hj] at e1 e2 l1 l2 u1 u2
  rw [Nat.add_sub_cancel] at l1 l2 u1 u2
  have hs := pow_split j
  have hsum := add_or_and (tcI x (j + 1)) (tcI y (j + 1))
  generalize bitI (· ||| ·) x y = A at *
  generalize bitI (· &&& ·) x y = B at *
  have e1' : A = ((tcI x (j + 1) ||| tcI y (j + 1) : Nat) : Int) - (if t1 = true then ((2 ^ (32 * (j + 1)) : Nat) : Int) else 0) := e1
  have e2' : B = ((tcI x (j + 1) &&& tcI y (j + 1) : Nat) : Int) - (if t2 = true then ((2 ^ (32 * (j + 1)) : Nat) : Int) else 0) := e2
  generalize tcI x (j + 1) ||| tcI y (j + 1) = U at *
  generalize tcI x (j + 1) &&& tcI y (j + 1) = V at *
  generalize tcI x (j + 1) = X at *
  generalize tcI y (j + 1) = Y at *
  rw [hs] at e1' e2' ex ey
  have hp := pow32_pos j
  generalize 2 ^ (32 * j) = p at *
  clear e1 e2 hs hj
  cases s1 <;> cases s2 <;> cases t1 <;> cases t2 <;> simp only [if_true, if_false, Bool.false_eq_true] at e1' e2' ex ey <;> omega
theorem bitI_small (f : Nat → Nat → Nat) (hf : BitLike f) (x y : Int) (e : Nat) (hx : x.natAbs < 2 ^ e) (hy : y.natAbs < 2 ^ e) : (bitI f x y).natAbs ≤ 2 ^ (e + 32) := by
  obtain ⟨t, _, l, u, _⟩ := ofTc_parts f hf x y
  have h1 : kOf x y - 1 ≤ e / 32 + 1 := by
    have hh : ∀ n : Nat, n < 2 ^ e → nlen n ≤ e / 32 + 1 := fun n hn => (nlen_le_iff n _).2 (Nat.lt_of_lt_of_le hn (Nat.pow_le_pow_right (by decide) (by omega)))
    have h2 := hh _ hx
    have h3 := hh _ hy
    unfold kOf; omega
  have h2 : 2 ^ (32 * (kOf x y - 1)) ≤ 2 ^ (e + 32) := Nat.pow_le_pow_right (by decide) (by omega)
  omega
end Go.Proofs.YtkhgoeippamobaaGreatDoor
/-
  Digits put together in two's complement: the walk.
-/
namespace Go.Proofs.YtkhgoeippamobaaGreatDoor
open Go.RowKit
theorem same_fn (m : Nat) (w : World) : Calls Tryz.prog 97 #[.int .u32 m] w fun e w' => e = .returned (.int .u32 m) ∧ w' = w := by
  go_enter Tryz.func97, Tryz.ntmps97
  go_wp2
  go_ret
  exact ⟨rfl, rfl⟩
theorem Blk.set1_ne' {w : World} {b c : Nat} {cs : Array Value} {t : TypeId} (h : Blk w c cs t) (hne : c ≠ b) (o : Nat) (x : Value) : Blk (w.setCell ⟨b, o, none⟩ x) c cs t :=
  (Below.heap_setCell _ _ _ _ hne).trans h
theorem top_bit (N k : Nat) (hk : 0 < k) (h : N < 2 ^ (32 * k)) : (((D N (k - 1) : Nat) : Int) / 2147483648 == 1) = decide (2 ^ (32 * k - 1) ≤ N) := by
  obtain ⟨j, rfl⟩ : ∃ j, k = j + 1 := ⟨k - 1, by omega⟩
  rw [Nat.add_sub_cancel, D_eq N j h]
  have e : 2 ^ (32 * (j + 1) - 1) = 2 ^ (32 * j) * 2147483648 := by
    rw [show 32 * (j + 1) - 1 = 32 * j + 31 by omega, Nat.pow_add]
  rw [e]
  rw [pow32_succ] at h
  have hp := pow32_pos j
  generalize 2 ^ (32 * j) = p at *
  have hd := Nat.div_add_mod N p
  have hm := Nat.mod_lt N hp
  have hq : N / p < 4294967296 := by rw [Nat.div_lt_iff_lt_mul hp]; rw [Nat.mul_comm]; exact h
  by_cases hle : p * 2147483648 ≤ N
  · rw [decide_eq_true hle]
    have h1 : 2147483648 ≤ N / p := (Nat.le_div_iff_mul_le hp).2 (by rw [Nat.mul_comm]; exact hle)
    rw [beq_iff_eq]
    omega
  · rw [decide_eq_false hle]
    have h1 : N / p < 2147483648 := by rw [Nat.div_lt_iff_lt_mul hp]; omega
    rw [beq_eq_false_iff_ne]
    omega
theorem nlen_top (N k : Nat) (hk : 0 < k) (h : N < 2 ^ (32 * k)) (ht : 2 ^ (32 * k - 1) ≤ N) : nlen N = k := by
  have h1 := (nlen_le_iff N k).2 h
  have h2 : ¬ nlen N ≤ k - 1 := by
    intro h3
    have h4 := (nlen_le_iff N (k - 1)).1 h3
    have h5 : 2 ^ (32 * (k - 1)) ≤ 2 ^ (32 * k - 1) := Nat.pow_le_pow_right (by decide) (by omega)
    omega
  omega
theorem ofTc_neg (j N : Nat) (h : 2 ^ (32 * j - 1) ≤ N) : (true && decide (0 < negN N j)) = decide (ofTc j N < 0) ∧ (ofTc j N).natAbs = negN N j := by
  unfold ofTc
  rw [if_pos h, Bool.true_and]
  generalize negN N j = m
  exact ⟨decide_eq_decide.2 (by omega), by omega⟩
theorem ofTc_pos (j N : Nat) (h : ¬ 2 ^ (32 * j - 1) ≤ N) : (false && decide (0 < N)) = decide (ofTc j N < 0) ∧ (ofTc j N).natAbs = N := by
  unfold ofTc
  rw [if_neg h, Bool.false_and]
  exact ⟨(decide_eq_false (by omega)).symm, by omega⟩
theorem kOf_le (x y : Int) (hx : nlen x.natAbs ≤ 1000) (hy : nlen y.natAbs ≤ 1000) : kOf x y ≤ 1001 := by unfold kOf; omega
theorem tcI_digits (z : Int) (k : Nat) : (if decide (z < 0) then D (negN z.natAbs k) else D z.natAbs) = D (tcI z k) := by
  unfold tcI
  by_cases h : z < 0
  · rw [decide_eq_true h, if_pos rfl, if_pos h]
  · rw [decide_eq_false h, if_neg (by decide), if_neg h]
set_option maxRecDepth 100000 in
set_option maxHeartbeats 2000000 in
theorem bitwise_fn {v u : Value} {x y : Int} {w : World} (kf : Nat) (f : Nat → Nat → Nat) (hf : BitLike f) (eg : ∀ args w, (callFunc kf args).run Tryz.prog w = .ok (.enter kf args) w)
    (hput : ∀ (m n : Nat) (w : World), m < 4294967296 → n < 4294967296 → Calls Tryz.prog kf #[.int .u32 m, .int .u32 n] w fun e w' => e = .returned (.int .u32 (f m n)) ∧ w' = w)
    (hv : IntV w v x) (hu : IntV w u y) (hx : nlen x.natAbs ≤ 1000) (hy : nlen y.natAbs ≤ 1000) :
    Calls Tryz.prog 95 #[v, u, .func (.func kf) #[] #[], .func (.func 97) #[] #[], .func (.func 97) #[] #[]] w (FreshInt (bitI f x y) w) := by
  have egs := enters_of (P := Tryz.prog) Tryz.func97 (by kernel_rfl) rfl
  obtain ⟨a1, c1, rfl, h1⟩ := hv.shape
  obtain ⟨a2, c2, rfl, h2⟩ := hu.shape
  have hk := kOf_le x y hx hy
  have hkmax : max (nlen x.natAbs) (nlen y.natAbs) + 1 = kOf x y := rfl
  have HD1 := hid (tcI_digits x (kOf x y))
  have HD2 := hid (tcI_digits y (kOf x y))
  have HLT := hid ((ofTc_parts f hf x y).choose_spec.2.2.2)
  have HBI := hid (show bitI f x y = ofTc (kOf x y) (f (tcI x (kOf x y)) (tcI y (kOf x y))) from rfl)
  generalize hs1 : decide (x < 0) = s1 at *
  generalize hs2 : decide (y < 0) = s2 at *
  have HF := hid hf
  have HPUT := hid hput
  clear hs1 hs2 hf hput hv hu
  have k1 := Blk.new w #[.slice a1 (nlen x.natAbs) c1, .bool s1, .bool false] 49
  have k2 := Blk.new (w.alloc (.cells #[.slice a1 (nlen x.natAbs) c1, .bool s1, .bool false] 49)) #[.slice a2 (nlen y.natAbs) c2, .bool s2, .bool false] 49
  have k3 := Blk.new ((w.alloc (.cells #[.slice a1 (nlen x.natAbs) c1, .bool s1, .bool false] 49)).alloc (.cells #[.slice a2 (nlen y.natAbs) c2, .bool s2, .bool false] 49)) #[.slice none 0 0, .bool false, .bool false] 49
  simp only [World.size_alloc] at k2 k3
  have k1 := (k1.alloc (.cells #[.slice a2 (nlen y.natAbs) c2, .bool s2, .bool false] 49)).alloc (.cells #[.slice none 0 0, .bool false, .bool false] 49)
  have k2 := k2.alloc (.cells #[.slice none 0 0, .bool false, .bool false] 49)
  have hb0 : Below w.heap.size w (((w.alloc (.cells #[.slice a1 (nlen x.natAbs) c1, .bool s1, .bool false] 49)).alloc (.cells #[.slice a2 (nlen y.natAbs) c2, .bool s2, .bool false] 49)).alloc (.cells #[.slice none 0 0, .bool false, .bool false] 49)) := (((Below.refl _ _).alloc (Nat.le_refl _) _).alloc (by simp) _).alloc (by simp; omega) _
  have hmx : max ((nlen x.natAbs : Nat) : Int) ((nlen y.natAbs : Nat) : Int) + 1 = ((kOf x y : Nat) : Int) := by omega
  have HMX := hid hmx
  clear hmx hkmax
  go_enter Tryz.func95, Tryz.ntmps95
  go_wp2_with fail
  generalize ((w.alloc (.cells #[.slice a1 (nlen x.natAbs) c1, .bool s1, .bool false] 49)).alloc (.cells #[.slice a2 (nlen y.natAbs) c2, .bool s2, .bool false] 49)).alloc (.cells #[.slice none 0 0, .bool false, .bool false] 49) = w0 at *
  obtain ⟨⟨p1, p2, p3⟩, _⟩ := k1.three
  obtain ⟨⟨p4, p5, p6⟩, _⟩ := k2.three
  go_wp2_with fail
  rw [HMX.out]
  clear p1 p2 p3 p4 p5 p6
  have kA := k1.drew
  have kB := k2.drew
  have k3 := k3.drew
  have hb := hb0.drew
  have h1 := h1.below hb
  have h2 := h2.below hb
  refine U_begin (late := fun i => decide (14 ≤ i)) (S := fun u => Blk u w.heap.size #[.slice a1 (nlen x.natAbs) c1, .bool s1, .bool false] 49 ∧ Blk u (w.heap.size + 1) #[.slice a2 (nlen y.natAbs) c2, .bool s2, .bool false] 49) (by kernel_rfl) ?_
  generalize w0.drew = wd at *
  clear hb0 k1 k2
  refine U_take (i := 0) (v := .pointer (some ⟨w.heap.size, 0, none⟩)) rfl (by kernel_rfl) (by kernel_rfl) (by kernel_rfl) (by kernel_rfl) (by kernel_rfl) (fun _ _ _ h => h) (.inl ⟨rfl, fun u hu => (by go_simp)⟩) ⟨kA, kB⟩ ?_
  refine U_take (i := 1) (v := .slice a1 (nlen x.natAbs) c1) rfl (by kernel_rfl) (by kernel_rfl) (by kernel_rfl) (by kernel_rfl) (by kernel_rfl) (fun _ _ _ h => h) (.inl ⟨rfl, fun u hu => (by obtain ⟨⟨h1, h2, h3⟩, _⟩ := hu.1.three; go_simp)⟩) ⟨kA, kB⟩ ?_
  refine U_take (i := 2) (v := .pointer (some ⟨w.heap.size, 1, none⟩)) rfl (by kernel_rfl) (by kernel_rfl) (by kernel_rfl) (by kernel_rfl) (by kernel_rfl) (fun _ _ _ h => h) (.inl ⟨rfl, fun u hu => (by go_simp)⟩) ⟨kA, kB⟩ ?_
  refine U_take (i := 3) (v := .bool s1) rfl (by kernel_rfl) (by kernel_rfl) (by kernel_rfl) (by kernel_rfl) (by kernel_rfl) (fun _ _ _ h => h) (.inl ⟨rfl, fun u hu => (by obtain ⟨⟨h1, h2, h3⟩, _⟩ := hu.1.three; go_simp)⟩) ⟨kA, kB⟩ ?_
  refine U_take (i := 4) (v := .int .i64 (kOf x y)) rfl (by kernel_rfl) (by kernel_rfl) (by kernel_rfl) (by kernel_rfl) (by kernel_rfl) (fun _ _ _ h => h) (.inl ⟨rfl, fun u hu => (by go_simp)⟩) ⟨kA, kB⟩ ?_
  refine U_take (i := 6) (v := .pointer (some ⟨w.heap.size + 1, 0, none⟩)) rfl (by kernel_rfl) (by kernel_rfl) (by kernel_rfl) (by kernel_rfl) (by kernel_rfl) (fun _ _ _ h => h) (.inl ⟨rfl, fun u hu => (by go_simp)⟩) ⟨kA, kB⟩ ?_
  refine U_take (i := 7) (v := .slice a2 (nlen y.natAbs) c2) rfl (by kernel_rfl) (by kernel_rfl) (by kernel_rfl) (by kernel_rfl) (by kernel_rfl) (fun _ _ _ h => h) (.inl ⟨rfl, fun u hu => (by obtain ⟨⟨h1, h2, h3⟩, _⟩ := hu.2.three; go_simp)⟩) ⟨kA, kB⟩ ?_
  refine U_take (i := 8) (v := .pointer (some ⟨w.heap.size + 1, 1, none⟩)) rfl (by kernel_rfl) (by kernel_rfl) (by kernel_rfl) (by kernel_rfl) (by kernel_rfl) (fun _ _ _ h => h) (.inl ⟨rfl, fun u hu => (by go_simp)⟩) ⟨kA, kB⟩ ?_
  refine U_take (i := 9) (v := .bool s2) rfl (by kernel_rfl) (by kernel_rfl) (by kernel_rfl) (by kernel_rfl) (by kernel_rfl) (fun _ _ _ h => h) (.inl ⟨rfl, fun u hu => (by obtain ⟨⟨h1, h2, h3⟩, _⟩ := hu.2.three; go_simp)⟩) ⟨kA, kB⟩ ?_
  refine U_take (i := 10) (v := .int .i64 (kOf x y)) rfl (by kernel_rfl) (by kernel_rfl) (by kernel_rfl) (by kernel_rfl) (by kernel_rfl) (fun _ _ _ h => h) (.inl ⟨rfl, fun u hu => (by go_simp)⟩) ⟨kA, kB⟩ ?_
  refine U_step (j := 5) (by kernel_rfl) rfl (fun K hK => ?_)
  go_simp
  have hc := hid (complement_nat h1 (by omega) s1 (kOf x y) (by omega))
  rw [HD1.out] at hc
  (with_reducible refine hc.out.mono ?_); rintro e v1 ⟨⟨X, rfl, hX⟩, gg⟩
  clear hc
  have hb := hb.trans (gg.mono hb.size)
  have kA := kA.later gg
  have kB := kB.later gg
  have k3 := k3.later gg
  have h2 := h2.below gg
  obtain ⟨xa, xc, rfl⟩ := hX.shape
  have hszd := k3.lt
  refine hK.out _ _ (.inr ⟨kA, kB⟩) ?_
  clear hK K gg
  refine U_step (j := 11) (by kernel_rfl) rfl (fun K hK => ?_)
  go_simp
  have hc := hid (complement_nat h2 (by omega) s2 (kOf x y) (by omega))
  rw [HD2.out] at hc
  (with_reducible refine hc.out.mono ?_); rintro e v2 ⟨⟨Y, rfl, hY⟩, gg⟩
  clear hc
  have hb := hb.trans (gg.mono hb.size)
  have kA := kA.later gg
  have kB := kB.later gg
  have k3 := k3.later gg
  have hX := hX.keep gg (Nat.le_refl _)
  obtain ⟨ya, yc, rfl⟩ := hY.shape
  refine hK.out _ _ (.inr ⟨kA, kB⟩) ?_
  clear hK K gg
  refine U_step (j := 12) (by kernel_rfl) rfl (fun K hK => ?_)
  go_simp
  refine hK.out _ _ (.inr ⟨kA, kB⟩) ?_
  clear hK K
  refine U_step (j := 13) (by kernel_rfl) rfl (fun K hK => ?_)
  go_simp
  refine hK.out _ _ (.inr ⟨kA, kB⟩) ?_
  clear hK K
  refine U_done (by kernel_rfl) ?_ _
  clear kA kB h1 h2
  have hk0 : 0 < kOf x y := by unfold kOf; omega
  obtain ⟨gx, rfl⟩ := hX.addr hk0
  obtain ⟨gy, rfl⟩ := hY.addr hk0
  have hgx := hX.lt
  have hgy := hY.lt
  have hbx := hX.base_le
  have hby := hY.base_le
  generalize kOf x y = k at *
  go_wp2_with (at_make; refine mk_u32 _ rfl _ _ rfl v2.heap.size k _ _ rfl rfl rfl rfl (by omega) (Nat.le_refl _) ?_; intro w3 hown hb3 hz hb3')
  generalize hgz : v2.heap.size = gz at *
  have hbv2 := hb.size
  have hX := Own.keep hX hb3 (by omega)
  have hY := Own.keep hY hb3 (by omega)
  have k3 := k3.below hb3 (by omega)
  have hb := hb.trans (hb3.mono (by omega))
  have hgzw : w.heap.size ≤ gz := by omega
  clear hb3 hb3' hgz
  generalize hX0 : tcI x k = X0 at *
  generalize hY0 : tcI y k = Y0 at *
  clear hX0 hY0 HD1 HD2
  generalize hbx0 : wd.heap.size = bx0 at *
  generalize hby0 : v1.heap.size = by0 at *
  clear hbx0 hby0
  go_wp2_with fail
  go_loopw [41] (fun iv wr => ∃ j : Nat, iv = .int .i64 j ∧ j ≤ k ∧ Own .u32 75 wr gz (.slice (some ⟨gz, 0, none⟩) k k) k (fun t => if t < j then D (f X0 Y0) t else 0) ∧ Own .u32 75 wr bx0 (.slice (some ⟨gx, 0, none⟩) k xc) k (D X0) ∧ Own .u32 75 wr by0 (.slice (some ⟨gy, 0, none⟩) k yc) k (D Y0) ∧ Blk wr (w.heap.size + 1 + 1) #[.slice none 0 0, .bool false, .bool false] 49 ∧ Below w.heap.size w wr) (fun iv _ => k - (intOf iv).toNat)
  case atStart => exact ⟨0, rfl, Nat.zero_le _, hown.congr (fun t _ => by rw [if_neg (by omega)]), hX, hY, k3, hb⟩
  case round =>
    obtain ⟨j, rfl, hj, hq, hX, hY, k3, hb⟩ := hrel
    clear hown
    by_cases hlt : j < k
    · have cx := hX.cell j hlt
      have cy := hY.cell j hlt
      have dx := D_lt X0 j
      have dy := D_lt Y0 j
      have HFD := hid (HF.out.1 X0 Y0 j)
      have hXd : Own .u32 75 wr.drew bx0 (.slice (some ⟨gx, 0, none⟩) k xc) k (D X0) := hX
      have hYd : Own .u32 75 wr.drew by0 (.slice (some ⟨gy, 0, none⟩) k yc) k (D Y0) := hY
      have hqd : Own .u32 75 wr.drew gz (.slice (some ⟨gz, 0, none⟩) k k) k (fun t => if t < j then D (f X0 Y0) t else 0) := hq
      have k3 := k3.drew
      have hb := hb.drew
      have cxd : wr.drew.cell? ⟨gx, j, none⟩ = some (.int .u32 (D X0 j)) := cx
      have cyd : wr.drew.cell? ⟨gy, j, none⟩ = some (.int .u32 (D Y0 j)) := cy
      have hqf := hqd.free j
      have hqc := hqd.cell j hlt
      rw [if_neg (by omega)] at hqc
      clear hX hY hq cx cy
      go_wp2_with fail
      refine U_begin (late := fun i => decide (19 ≤ i)) (S := fun u => u.cell? ⟨gx, j, none⟩ = some (.int .u32 (D X0 j)) ∧ u.cell? ⟨gy, j, none⟩ = some (.int .u32 (D Y0 j))) (by kernel_rfl) ?_
      generalize wr.drew = wd at *
      refine U_take (i := 0) (v := .slice (some ⟨gz, 0, none⟩) k k) rfl (by kernel_rfl) (by kernel_rfl) (by kernel_rfl) (by kernel_rfl) (by kernel_rfl) (fun _ _ _ h => h) (.inl ⟨rfl, fun u hu => (by go_simp)⟩) ⟨cxd, cyd⟩ ?_
      refine U_take (i := 1) (v := .int .i64 j) rfl (by kernel_rfl) (by kernel_rfl) (by kernel_rfl) (by kernel_rfl) (by kernel_rfl) (fun _ _ _ h => h) (.inl ⟨rfl, fun u hu => (by go_simp)⟩) ⟨cxd, cyd⟩ ?_
      refine U_take (i := 2) (v := .func (.func 97) #[] #[]) rfl (by kernel_rfl) (by kernel_rfl) (by kernel_rfl) (by kernel_rfl) (by kernel_rfl) (fun _ _ _ h => h) (.inl ⟨rfl, fun u hu => (by go_simp)⟩) ⟨cxd, cyd⟩ ?_
      refine U_take (i := 3) (v := .func (.func kf) #[] #[]) rfl (by kernel_rfl) (by kernel_rfl) (by kernel_rfl) (by kernel_rfl) (by kernel_rfl) (fun _ _ _ h => h) (.inl ⟨rfl, fun u hu => (by go_simp)⟩) ⟨cxd, cyd⟩ ?_
      refine U_take (i := 4) (v := .func (.func 97) #[] #[]) rfl (by kernel_rfl) (by kernel_rfl) (by kernel_rfl) (by kernel_rfl) (by kernel_rfl) (fun _ _ _ h => h) (.inl ⟨rfl, fun u hu => (by go_simp)⟩) ⟨cxd, cyd⟩ ?_
      refine U_take (i := 5) (v := .slice (some ⟨gx, 0, none⟩) k xc) rfl (by kernel_rfl) (by kernel_rfl) (by kernel_rfl) (by kernel_rfl) (by kernel_rfl) (fun _ _ _ h => h) (.inl ⟨rfl, fun u hu => (by go_simp)⟩) ⟨cxd, cyd⟩ ?_
      refine U_take (i := 6) (v := .int .i64 j) rfl (by kernel_rfl) (by kernel_rfl) (by kernel_rfl) (by kernel_rfl) (by kernel_rfl) (fun _ _ _ h => h) (.inl ⟨rfl, fun u hu => (by go_simp)⟩) ⟨cxd, cyd⟩ ?_
      refine U_take (i := 7) (v := .pointer (some ⟨gx, j, none⟩)) rfl (by kernel_rfl) (by kernel_rfl) (by kernel_rfl) (by kernel_rfl) (by kernel_rfl) (fun _ _ _ h => h) (.inl ⟨rfl, fun u hu => (by go_simp)⟩) ⟨cxd, cyd⟩ ?_
      refine U_take (i := 8) (v := .int .u32 (D X0 j)) rfl (by kernel_rfl) (by kernel_rfl) (by kernel_rfl) (by kernel_rfl) (by kernel_rfl) (fun _ _ _ h => h) (.inl ⟨rfl, fun u hu => (by obtain ⟨h1, h2⟩ := hu; go_simp)⟩) ⟨cxd, cyd⟩ ?_
      refine U_take (i := 10) (v := .func (.func 97) #[] #[]) rfl (by kernel_rfl) (by kernel_rfl) (by kernel_rfl) (by kernel_rfl) (by kernel_rfl) (fun _ _ _ h => h) (.inl ⟨rfl, fun u hu => (by go_simp)⟩) ⟨cxd, cyd⟩ ?_
      refine U_take (i := 11) (v := .slice (some ⟨gy, 0, none⟩) k yc) rfl (by kernel_rfl) (by kernel_rfl) (by kernel_rfl) (by kernel_rfl) (by kernel_rfl) (fun _ _ _ h => h) (.inl ⟨rfl, fun u hu => (by go_simp)⟩) ⟨cxd, cyd⟩ ?_
      refine U_take (i := 12) (v := .int .i64 j) rfl (by kernel_rfl) (by kernel_rfl) (by kernel_rfl) (by kernel_rfl) (by kernel_rfl) (fun _ _ _ h => h) (.inl ⟨rfl, fun u hu => (by go_simp)⟩) ⟨cxd, cyd⟩ ?_
      refine U_take (i := 13) (v := .pointer (some ⟨gy, j, none⟩)) rfl (by kernel_rfl) (by kernel_rfl) (by kernel_rfl) (by kernel_rfl) (by kernel_rfl) (fun _ _ _ h => h) (.inl ⟨rfl, fun u hu => (by go_simp)⟩) ⟨cxd, cyd⟩ ?_
      refine U_take (i := 14) (v := .int .u32 (D Y0 j)) rfl (by kernel_rfl) (by kernel_rfl) (by kernel_rfl) (by kernel_rfl) (by kernel_rfl) (fun _ _ _ h => h) (.inl ⟨rfl, fun u hu => (by obtain ⟨h1, h2⟩ := hu; go_simp)⟩) ⟨cxd, cyd⟩ ?_
      refine U_step (j := 9) (by kernel_rfl) rfl (fun K hK => ?_)
      go_simp
      (with_reducible refine (same_fn _ _).mono ?_); rintro e w' ⟨rfl, rfl⟩
      refine hK.out _ _ (.inr ⟨cxd, cyd⟩) ?_
      clear hK K
      refine U_step (j := 15) (by kernel_rfl) rfl (fun K hK => ?_)
      go_simp
      (with_reducible refine (same_fn _ _).mono ?_); rintro e w' ⟨rfl, rfl⟩
      refine hK.out _ _ (.inr ⟨cxd, cyd⟩) ?_
      clear hK K
      refine U_step (j := 16) (by kernel_rfl) rfl (fun K hK => ?_)
      go_simp
      (with_reducible refine (HPUT.out _ _ _ dx dy).mono ?_); rintro e w' ⟨rfl, rfl⟩
      refine hK.out _ _ (.inr ⟨cxd, cyd⟩) ?_
      clear hK K
      refine U_step (j := 17) (by kernel_rfl) rfl (fun K hK => ?_)
      go_simp
      (with_reducible refine (same_fn _ _).mono ?_); rintro e w' ⟨rfl, rfl⟩
      refine hK.out _ _ (.inr ⟨cxd, cyd⟩) ?_
      clear hK K
      refine U_step (j := 18) (by kernel_rfl) rfl (fun K hK => ?_)
      go_simp
      refine hK.out _ _ (.inr ⟨cxd, cyd⟩) ?_
      clear hK K
      refine U_step (j := 19) (by kernel_rfl) rfl (fun K hK => ?_)
      go_simp
      refine hK.out _ _ (.inl rfl) ?_
      clear hK K
      refine U_done (by kernel_rfl) ?_ _
      have hXs := hXd.other ⟨gz, j, none⟩ (.int .u32 ((f (D X0 j) (D Y0 j) : Nat) : Int)) (by simp; omega)
      have hYs := hYd.other ⟨gz, j, none⟩ (.int .u32 ((f (D X0 j) (D Y0 j) : Nat) : Int)) (by simp; omega)
      have hqs := hqd.store j (f (D X0 j) (D Y0 j))
      have k3s := k3.set1_ne' (b := gz) (by omega) j (.int .u32 ((f (D X0 j) (D Y0 j) : Nat) : Int))
      have hbs := hb.setCell (p := ⟨gz, j, none⟩) (by simp; omega) (.int .u32 ((f (D X0 j) (D Y0 j) : Nat) : Int))
      go_wp2
      go_roundw
      case rel =>
        refine ⟨j + 1, by go_num, by omega, hqs.congr (fun t _ => ?_), hXs, hYs, k3s, hbs⟩
        by_cases h1 : t = j
        · subst h1; rw [if_pos rfl, if_pos (by omega), HFD.out]
        · rw [if_neg h1]
          by_cases h2 : t < j
          · rw [if_pos h2, if_pos (by omega)]
          · rw [if_neg h2, if_neg (by omega)]
      case measure => simp [intOf] <;> omega
    · obtain rfl : j = k := by omega
      have hk0' : 0 < j := hk0
      have hszq := k3.lt
      have hb0w := hb.size
      have hZlt : f X0 Y0 < 2 ^ (32 * j) := HLT.out
      have hqf := hq.congr (g := D (f X0 Y0)) (fun t ht => by rw [if_pos ht])
      generalize hZ : f X0 Y0 = N at *
      have HZ := hid hZ
      clear hZ
      have cq := hqf.cell (j - 1) (by omega)
      have hj1 : ((j : Int) - 1) = ((j - 1 : Nat) : Int) := by omega
      have hdl := D_lt N (j - 1)
      have HTOP := hid (top_bit N j hk0' hZlt)
      by_cases hneg : 2 ^ (32 * j - 1) ≤ N
      · have ht1 : (((D N (j - 1) : Nat) : Int) / 2147483648 == 1) = true := by rw [HTOP.out]; exact decide_eq_true hneg
        have hnl : nlen N = j := nlen_top N j hk0' hZlt hneg
        have HNL := hid hnl
        have hrep : NatRep wr (.slice (some ⟨gz, 0, none⟩) j j) N := by
          unfold NatRep
          rw [HNL.out]
          exact hqf.row
        have hc1 : Hid (Calls Tryz.prog 131 #[.slice (some ⟨gz, 0, none⟩) j j, .bool true, .int .i64 j] wr fun e w' => (∃ u, e = .returned u ∧ Own .u32 75 w' wr.heap.size u j (D (negN N j))) ∧ Below wr.heap.size wr w') := hid (complement_nat hrep (by rw [HNL.out]; omega) true j (by omega))
        have hnb : negN N j < 2 ^ (32 * j) := by
          have h5 := Nat.two_pow_pos (32 * j - 1)
          unfold negN
          rw [Nat.mod_eq_of_lt hZlt]
          omega
        obtain ⟨hG0, hNA0⟩ := ofTc_neg j N hneg
        have hG := hid hG0
        have hNA := hid hNA0
        clear hG0 hNA0
        generalize hMM : negN N j = M at *
        clear hMM
        clear hneg hnl
        go_wp2_with fail
        (with_reducible refine hc1.out.mono ?_); rintro e u1 ⟨⟨v1, rfl, hv1⟩, gg1⟩
        obtain ⟨va, vc, rfl⟩ := hv1.shape
        have hv1 : Own .u32 75 u1 wr.heap.size (.slice va j vc) j (D M) := hv1
        have hc2 := hid (trimmed_own hv1 (by omega) hnb)
        go_wp2_with fail
        (with_reducible refine hc2.out.mono ?_); rintro e u2 ⟨⟨v2', rfl, hv2⟩, rfl⟩
        obtain ⟨vb, vd, rfl⟩ := hv2.shape
        have hc3 := hid (of_nat hv2.nat true (by have := (nlen_le_iff M j).2 hnb; omega))
        go_wp2_with fail
        (with_reducible refine hc3.out.mono ?_); rintro e u3 ⟨rfl, gg3⟩
        have k3 := (k3.later gg1).later gg3
        have hb := (hb.trans (gg1.mono hb.size)).trans (gg3.mono (Nat.le_trans hb.size gg1.size))
        have hv3 := Own.keep hv2 gg3 (Nat.le_refl _)
        obtain ⟨⟨r1, r2, r3⟩, r4, r5, r6⟩ := k3.three
        generalize (true && decide (0 < M)) = G at *
        go_wp2
        have k3 := k3.set3 (.slice vb (nlen M) vd) (.bool G) (.bool false)
        obtain ⟨⟨z1, z2, z3⟩, _⟩ := k3.three
        have hvF := own_set3 hv3 (b := w.heap.size + 1 + 1) (.slice vb (nlen M) vd) (.bool G) (.bool false) (by omega)
        have hbF := ((hb.setCell (p := ⟨w.heap.size + 1 + 1, 0, none⟩) (by simp; omega) (.slice vb (nlen M) vd)).setCell (p := ⟨w.heap.size + 1 + 1, 1, none⟩) (by simp; omega) (.bool G)).setCell (p := ⟨w.heap.size + 1 + 1, 2, none⟩) (by simp; omega) (.bool false)
        refine bodyPost_ret (v := .agg #[.slice vb (nlen M) vd, .bool G, .bool false]) (by simp [results, Tryz.results95, go_sem, z1, z2, z3]) rfl ⟨_, rfl, ?_, hbF⟩
        rw [HBI.out]
        exact OwnInt.mk (hvF.mono (by have := hb0w; omega)) hNA.out.symm hG.out
      · have ht1 : (((D N (j - 1) : Nat) : Int) / 2147483648 == 1) = false := by rw [HTOP.out]; exact decide_eq_false hneg
        obtain ⟨hG0, hNA0⟩ := ofTc_pos j N hneg
        have hG := hid hG0
        have hNA := hid hNA0
        clear hG0 hNA0 hneg
        have hc2 := hid (trimmed_own hqf (by omega) hZlt)
        go_wp2_with fail
        (with_reducible refine hc2.out.mono ?_); rintro e u2 ⟨⟨v2', rfl, hv2⟩, rfl⟩
        obtain ⟨vb, vd, rfl⟩ := hv2.shape
        have hc3 := hid (of_nat hv2.nat false (by have := (nlen_le_iff N j).2 hZlt; omega))
        generalize (false && decide (0 < N)) = G at *
        go_wp2_with fail
        (with_reducible refine hc3.out.mono ?_); rintro e u3 ⟨rfl, gg3⟩
        have k3 := k3.later gg3
        have hb := hb.trans (gg3.mono hb.size)
        have hv3 := Own.keep hv2 gg3 (Nat.le_refl _)
        obtain ⟨⟨r1, r2, r3⟩, r4, r5, r6⟩ := k3.three
        go_wp2
        have k3 := k3.set3 (.slice vb (nlen N) vd) (.bool G) (.bool false)
        obtain ⟨⟨z1, z2, z3⟩, _⟩ := k3.three
        have hvF := own_set3 hv3 (b := w.heap.size + 1 + 1) (.slice vb (nlen N) vd) (.bool G) (.bool false) (by omega)
        have hbF := ((hb.setCell (p := ⟨w.heap.size + 1 + 1, 0, none⟩) (by simp; omega) (.slice vb (nlen N) vd)).setCell (p := ⟨w.heap.size + 1 + 1, 1, none⟩) (by simp; omega) (.bool G)).setCell (p := ⟨w.heap.size + 1 + 1, 2, none⟩) (by simp; omega) (.bool false)
        refine bodyPost_ret (v := .agg #[.slice vb (nlen N) vd, .bool G, .bool false]) (by simp [results, Tryz.results95, go_sem, z1, z2, z3]) rfl ⟨_, rfl, ?_, hbF⟩
        rw [HBI.out]
        exact OwnInt.mk (hvF.mono (by have := hb0w; omega)) hNA.out.symm hG.out
end Go.Proofs.YtkhgoeippamobaaGreatDoor
/-
  And, Or, Xor, Neg, Not, Abs of big.
-/
namespace Go.Proofs.YtkhgoeippamobaaGreatDoor
open Go.RowKit
theorem bitI_nlen (f : Nat → Nat → Nat) (hf : BitLike f) (x y : Int) (hx : nlen x.natAbs ≤ 1000) (hy : nlen y.natAbs ≤ 1000) : nlen (bitI f x y).natAbs ≤ 1000000 := by
  obtain ⟨t, _, l, u, _⟩ := ofTc_parts f hf x y
  have hk := kOf_le x y hx hy
  obtain ⟨K, hK⟩ : ∃ K, K = 1000 := ⟨_, rfl⟩
  have h1 : 2 ^ (32 * (kOf x y - 1)) ≤ 2 ^ (32 * K) := Nat.pow_le_pow_right (by decide) (by omega)
  have h2 : nlen (bitI f x y).natAbs ≤ K + 1 := (nlen_le_iff _ _).2 (by
    have h3 : 2 ^ (32 * K) < 2 ^ (32 * (K + 1)) := Nat.pow_lt_pow_right (by decide) (by omega)
    generalize 2 ^ (32 * (K + 1)) = M at *
    generalize 2 ^ (32 * K) = N at *
    omega)
  omega
theorem put_and (m n : Nat) (w : World) (hm : m < 4294967296) (hn : n < 4294967296) : Calls Tryz.prog 96 #[.int .u32 m, .int .u32 n] w fun e w' => e = .returned (.int .u32 ((m &&& n : Nat) : Int)) ∧ w' = w := by
  have HL := hid (u32_and_nat m n hm hn)
  go_enter Tryz.func96, Tryz.ntmps96
  go_wp2
  go_ret
  exact ⟨by rw [← HL.out]; rfl, rfl⟩
set_option maxRecDepth 100000 in
set_option maxHeartbeats 2000000 in
theorem and1 {v u : Value} {x y : Int} {w : World} (hv : IntV w v x) (hu : IntV w u y) (hx : nlen x.natAbs ≤ 1000) (hy : nlen y.natAbs ≤ 1000) : Calls Tryz.prog 94 #[v, u] w (RetInt (bitI (· &&& ·) x y) w) := by
  obtain ⟨a1, c1, rfl, h1⟩ := hv.shape
  obtain ⟨a2, c2, rfl, h2⟩ := hu.shape
  generalize hs1 : decide (x < 0) = s1 at *
  generalize hs2 : decide (y < 0) = s2 at *
  clear hs1 hs2
  generalize hn1 : nlen x.natAbs = n1 at *
  generalize hn2 : nlen y.natAbs = n2 at *
  have k1 := Blk.new w #[.slice a1 n1 c1, .bool s1, .bool false] 49
  have k2 := Blk.new (w.alloc (.cells #[.slice a1 n1 c1, .bool s1, .bool false] 49)) #[.slice a2 n2 c2, .bool s2, .bool false] 49
  have k3 := Blk.new ((w.alloc (.cells #[.slice a1 n1 c1, .bool s1, .bool false] 49)).alloc (.cells #[.slice a2 n2 c2, .bool s2, .bool false] 49)) #[.slice none 0 0, .bool false, .bool false] 49
  simp only [World.size_alloc] at k2 k3
  have k1 := (k1.alloc (.cells #[.slice a2 n2 c2, .bool s2, .bool false] 49)).alloc (.cells #[.slice none 0 0, .bool false, .bool false] 49)
  have k2 := k2.alloc (.cells #[.slice none 0 0, .bool false, .bool false] 49)
  have hb0 : Below w.heap.size w (((w.alloc (.cells #[.slice a1 n1 c1, .bool s1, .bool false] 49)).alloc (.cells #[.slice a2 n2 c2, .bool s2, .bool false] 49)).alloc (.cells #[.slice none 0 0, .bool false, .bool false] 49)) := (((Below.refl _ _).alloc (Nat.le_refl _) _).alloc (by simp) _).alloc (by simp; omega) _
  have hv := hv.below hb0
  have hu := hu.below hb0
  have HC := hid (bitwise_fn 96 (· &&& ·) bl_and (enters_of Tryz.func96 (by kernel_rfl) rfl) (fun m n w hm hn => put_and m n w hm hn) hv hu (by omega) (by omega))
  clear hn1 hn2 hv hu h1 h2
  generalize bitI (· &&& ·) x y = R at *
  go_enter Tryz.func94, Tryz.ntmps94
  go_wp2_with fail
  generalize ((w.alloc (.cells #[.slice a1 n1 c1, .bool s1, .bool false] 49)).alloc (.cells #[.slice a2 n2 c2, .bool s2, .bool false] 49)).alloc (.cells #[.slice none 0 0, .bool false, .bool false] 49) = w0 at *
  obtain ⟨⟨p1, p2, p3⟩, _⟩ := k1.three
  obtain ⟨⟨p4, p5, p6⟩, _⟩ := k2.three
  go_wp2_with fail
  (with_reducible refine HC.out.mono ?_); rintro e w1 ⟨s, rfl, hs, hb1⟩
  obtain ⟨ra, rn, rc, rb, rfl⟩ := hs.shape4
  have hlt3 := k3.lt
  have k3 := k3.later hb1
  obtain ⟨⟨r1, r2, r3⟩, r4, r5, r6⟩ := k3.three
  have hb := hb0.trans (hb1.mono hb0.size)
  clear p1 p2 p3 p4 p5 p6
  go_wp2
  have k3 := k3.set3 (.slice ra rn rc) (.bool rb) (.bool false)
  obtain ⟨⟨z1, z2, z3⟩, _⟩ := k3.three
  have hbF := ((hb.setCell (p := ⟨w.heap.size + 1 + 1, 0, none⟩) (by simp; omega) (.slice ra rn rc)).setCell (p := ⟨w.heap.size + 1 + 1, 1, none⟩) (by simp; omega) (.bool rb)).setCell (p := ⟨w.heap.size + 1 + 1, 2, none⟩) (by simp; omega) (.bool false)
  have hF := hs.set3 (b := w.heap.size + 1 + 1) hlt3 (.slice ra rn rc) (.bool rb) (.bool false)
  exact bodyPost_ret (v := .agg #[.slice ra rn rc, .bool rb, .bool false]) (by simp [results, Tryz.results94, go_sem, z1, z2, z3]) rfl ⟨_, rfl, hF.int, hbF⟩
/-- what 'And' answers -/
def andRes (a b : List UInt8) : List UInt8 × Int := twoRes a b 0 (bitI (· &&& ·) (pVal a) (pVal b))
theorem and_fn (a b : List UInt8) (ha : a.length ≤ 1000000000) (hb : b.length ≤ 1000000000) (w : World) :
    Calls Tryz.prog 31 #[.string ⟨a.toArray⟩, .string ⟨b.toArray⟩] w fun e w' => e = .returned (.tuple #[.string ⟨(andRes a b).1.toArray⟩, .int .i64 (andRes a b).2]) ∧ Below w.heap.size w w' := by
  have hc := hid (two_fn a b ha hb 55 94 #[] #[] 0 (bitI (· &&& ·) (pVal a) (pVal b)) w (enters_of Tryz.func55 (by kernel_rfl) rfl) (enters_of Tryz.func94 (by kernel_rfl) rfl)
    (fun _ _ w1 v u _ h1 h2 => by
      obtain ⟨n, lg, h1, _⟩ := h1
      obtain ⟨m, lg', h2, _⟩ := h2
      exact neither_fn h1 h2)
    (fun _ _ _ s1 s2 w1 v u _ h1 h2 h3 h4 => (and1 h1 h3 h2 h4).mono fun e w' h => by
      obtain ⟨s, rfl, hs, hb⟩ := h
      refine ⟨s, rfl, RNum.of_int hs ?_, hb⟩
      exact bitI_nlen _ bl_and _ _ h2 h4))
  go_enter Tryz.func31, Tryz.ntmps31
  go_wp2_with fail
  (with_reducible refine hc.out.mono ?_); rintro e w1 ⟨rfl, hb1⟩
  go_wp2
  go_ret2
  exact ⟨rfl, hb1⟩
theorem put_or (m n : Nat) (w : World) (hm : m < 4294967296) (hn : n < 4294967296) : Calls Tryz.prog 99 #[.int .u32 m, .int .u32 n] w fun e w' => e = .returned (.int .u32 ((m ||| n : Nat) : Int)) ∧ w' = w := by
  have HL := hid (u32_or_nat m n hm hn)
  go_enter Tryz.func99, Tryz.ntmps99
  go_wp2
  go_ret
  exact ⟨by rw [← HL.out]; rfl, rfl⟩
set_option maxRecDepth 100000 in
set_option maxHeartbeats 2000000 in
theorem or1 {v u : Value} {x y : Int} {w : World} (hv : IntV w v x) (hu : IntV w u y) (hx : nlen x.natAbs ≤ 1000) (hy : nlen y.natAbs ≤ 1000) : Calls Tryz.prog 98 #[v, u] w (RetInt (bitI (· ||| ·) x y) w) := by
  obtain ⟨a1, c1, rfl, h1⟩ := hv.shape
  obtain ⟨a2, c2, rfl, h2⟩ := hu.shape
  generalize hs1 : decide (x < 0) = s1 at *
  generalize hs2 : decide (y < 0) = s2 at *
  clear hs1 hs2
  generalize hn1 : nlen x.natAbs = n1 at *
  generalize hn2 : nlen y.natAbs = n2 at *
  have k1 := Blk.new w #[.slice a1 n1 c1, .bool s1, .bool false] 49
  have k2 := Blk.new (w.alloc (.cells #[.slice a1 n1 c1, .bool s1, .bool false] 49)) #[.slice a2 n2 c2, .bool s2, .bool false] 49
  have k3 := Blk.new ((w.alloc (.cells #[.slice a1 n1 c1, .bool s1, .bool false] 49)).alloc (.cells #[.slice a2 n2 c2, .bool s2, .bool false] 49)) #[.slice none 0 0, .bool false, .bool false] 49
  simp only [World.size_alloc] at k2 k3
  have k1 := (k1.alloc (.cells #[.slice a2 n2 c2, .bool s2, .bool false] 49)).alloc (.cells #[.slice none 0 0, .bool false, .bool false] 49)
  have k2 := k2.alloc (.cells #[.slice none 0 0, .bool false, .bool false] 49)
  have hb0 : Below w.heap.size w (((w.alloc (.cells #[.slice a1 n1 c1, .bool s1, .bool false] 49)).alloc (.cells #[.slice a2 n2 c2, .bool s2, .bool false] 49)).alloc (.cells #[.slice none 0 0, .bool false, .bool false] 49)) := (((Below.refl _ _).alloc (Nat.le_refl _) _).alloc (by simp) _).alloc (by simp; omega) _
  have hv := hv.below hb0
  have hu := hu.below hb0
  have HC := hid (bitwise_fn 99 (· ||| ·) bl_or (enters_of Tryz.func99 (by kernel_rfl) rfl) (fun m n w hm hn => put_or m n w hm hn) hv hu (by omega) (by omega))
  clear hn1 hn2 hv hu h1 h2
  generalize bitI (· ||| ·) x y = R at *
  go_enter Tryz.func98, Tryz.ntmps98
  go_wp2_with fail
  generalize ((w.alloc (.cells #[.slice a1 n1 c1, .bool s1, .bool false] 49)).alloc (.cells #[.slice a2 n2 c2, .bool s2, .bool false] 49)).alloc (.cells #[.slice none 0 0, .bool false, .bool false] 49) = w0 at *
  obtain ⟨⟨p1, p2, p3⟩, _⟩ := k1.three
  obtain ⟨⟨p4, p5, p6⟩, _⟩ := k2.three
  go_wp2_with fail
  (with_reducible refine HC.out.mono ?_); rintro e w1 ⟨s, rfl, hs, hb1⟩
  obtain ⟨ra, rn, rc, rb, rfl⟩ := hs.shape4
  have hlt3 := k3.lt
  have k3 := k3.later hb1
  obtain ⟨⟨r1, r2, r3⟩, r4, r5, r6⟩ := k3.three
  have hb := hb0.trans (hb1.mono hb0.size)
  clear p1 p2 p3 p4 p5 p6
  go_wp2
  have k3 := k3.set3 (.slice ra rn rc) (.bool rb) (.bool false)
  obtain ⟨⟨z1, z2, z3⟩, _⟩ := k3.three
  have hbF := ((hb.setCell (p := ⟨w.heap.size + 1 + 1, 0, none⟩) (by simp; omega) (.slice ra rn rc)).setCell (p := ⟨w.heap.size + 1 + 1, 1, none⟩) (by simp; omega) (.bool rb)).setCell (p := ⟨w.heap.size + 1 + 1, 2, none⟩) (by simp; omega) (.bool false)
  have hF := hs.set3 (b := w.heap.size + 1 + 1) hlt3 (.slice ra rn rc) (.bool rb) (.bool false)
  exact bodyPost_ret (v := .agg #[.slice ra rn rc, .bool rb, .bool false]) (by simp [results, Tryz.results98, go_sem, z1, z2, z3]) rfl ⟨_, rfl, hF.int, hbF⟩
/-- what 'Or' answers -/
def orRes (a b : List UInt8) : List UInt8 × Int := twoRes a b 0 (bitI (· ||| ·) (pVal a) (pVal b))
theorem or_fn (a b : List UInt8) (ha : a.length ≤ 1000000000) (hb : b.length ≤ 1000000000) (w : World) :
    Calls Tryz.prog 32 #[.string ⟨a.toArray⟩, .string ⟨b.toArray⟩] w fun e w' => e = .returned (.tuple #[.string ⟨(orRes a b).1.toArray⟩, .int .i64 (orRes a b).2]) ∧ Below w.heap.size w w' := by
  have hc := hid (two_fn a b ha hb 55 98 #[] #[] 0 (bitI (· ||| ·) (pVal a) (pVal b)) w (enters_of Tryz.func55 (by kernel_rfl) rfl) (enters_of Tryz.func98 (by kernel_rfl) rfl)
    (fun _ _ w1 v u _ h1 h2 => by
      obtain ⟨n, lg, h1, _⟩ := h1
      obtain ⟨m, lg', h2, _⟩ := h2
      exact neither_fn h1 h2)
    (fun _ _ _ s1 s2 w1 v u _ h1 h2 h3 h4 => (or1 h1 h3 h2 h4).mono fun e w' h => by
      obtain ⟨s, rfl, hs, hb⟩ := h
      refine ⟨s, rfl, RNum.of_int hs ?_, hb⟩
      exact bitI_nlen _ bl_or _ _ h2 h4))
  go_enter Tryz.func32, Tryz.ntmps32
  go_wp2_with fail
  (with_reducible refine hc.out.mono ?_); rintro e w1 ⟨rfl, hb1⟩
  go_wp2
  go_ret2
  exact ⟨rfl, hb1⟩
theorem put_xor (m n : Nat) (w : World) (hm : m < 4294967296) (hn : n < 4294967296) : Calls Tryz.prog 101 #[.int .u32 m, .int .u32 n] w fun e w' => e = .returned (.int .u32 ((m ^^^ n : Nat) : Int)) ∧ w' = w := by
  have HL := hid (u32_xor_nat m n hm hn)
  go_enter Tryz.func101, Tryz.ntmps101
  go_wp2
  go_ret
  exact ⟨by rw [← HL.out]; rfl, rfl⟩
set_option maxRecDepth 100000 in
set_option maxHeartbeats 2000000 in
theorem xor1 {v u : Value} {x y : Int} {w : World} (hv : IntV w v x) (hu : IntV w u y) (hx : nlen x.natAbs ≤ 1000) (hy : nlen y.natAbs ≤ 1000) : Calls Tryz.prog 100 #[v, u] w (RetInt (bitI (· ^^^ ·) x y) w) := by
  obtain ⟨a1, c1, rfl, h1⟩ := hv.shape
  obtain ⟨a2, c2, rfl, h2⟩ := hu.shape
  generalize hs1 : decide (x < 0) = s1 at *
  generalize hs2 : decide (y < 0) = s2 at *
  clear hs1 hs2
  generalize hn1 : nlen x.natAbs = n1 at *
  generalize hn2 : nlen y.natAbs = n2 at *
  have k1 := Blk.new w #[.slice a1 n1 c1, .bool s1, .bool false] 49
  have k2 := Blk.new (w.alloc (.cells #[.slice a1 n1 c1, .bool s1, .bool false] 49)) #[.slice a2 n2 c2, .bool s2, .bool false] 49
  have k3 := Blk.new ((w.alloc (.cells #[.slice a1 n1 c1, .bool s1, .bool false] 49)).alloc (.cells #[.slice a2 n2 c2, .bool s2, .bool false] 49)) #[.slice none 0 0, .bool false, .bool false] 49
  simp only [World.size_alloc] at k2 k3
  have k1 := (k1.alloc (.cells #[.slice a2 n2 c2, .bool s2, .bool false] 49)).alloc (.cells #[.slice none 0 0, .bool false, .bool false] 49)
  have k2 := k2.alloc (.cells #[.slice none 0 0, .bool false, .bool false] 49)
  have hb0 : Below w.heap.size w (((w.alloc (.cells #[.slice a1 n1 c1, .bool s1, .bool false] 49)).alloc (.cells #[.slice a2 n2 c2, .bool s2, .bool false] 49)).alloc (.cells #[.slice none 0 0, .bool false, .bool false] 49)) := (((Below.refl _ _).alloc (Nat.le_refl _) _).alloc (by simp) _).alloc (by simp; omega) _
  have hv := hv.below hb0
  have hu := hu.below hb0
  have HC := hid (bitwise_fn 101 (· ^^^ ·) bl_xor (enters_of Tryz.func101 (by kernel_rfl) rfl) (fun m n w hm hn => put_xor m n w hm hn) hv hu (by omega) (by omega))
  clear hn1 hn2 hv hu h1 h2
  generalize bitI (· ^^^ ·) x y = R at *
  go_enter Tryz.func100, Tryz.ntmps100
  go_wp2_with fail
  generalize ((w.alloc (.cells #[.slice a1 n1 c1, .bool s1, .bool false] 49)).alloc (.cells #[.slice a2 n2 c2, .bool s2, .bool false] 49)).alloc (.cells #[.slice none 0 0, .bool false, .bool false] 49) = w0 at *
  obtain ⟨⟨p1, p2, p3⟩, _⟩ := k1.three
  obtain ⟨⟨p4, p5, p6⟩, _⟩ := k2.three
  go_wp2_with fail
  (with_reducible refine HC.out.mono ?_); rintro e w1 ⟨s, rfl, hs, hb1⟩
  obtain ⟨ra, rn, rc, rb, rfl⟩ := hs.shape4
  have hlt3 := k3.lt
  have k3 := k3.later hb1
  obtain ⟨⟨r1, r2, r3⟩, r4, r5, r6⟩ := k3.three
  have hb := hb0.trans (hb1.mono hb0.size)
  clear p1 p2 p3 p4 p5 p6
  go_wp2
  have k3 := k3.set3 (.slice ra rn rc) (.bool rb) (.bool false)
  obtain ⟨⟨z1, z2, z3⟩, _⟩ := k3.three
  have hbF := ((hb.setCell (p := ⟨w.heap.size + 1 + 1, 0, none⟩) (by simp; omega) (.slice ra rn rc)).setCell (p := ⟨w.heap.size + 1 + 1, 1, none⟩) (by simp; omega) (.bool rb)).setCell (p := ⟨w.heap.size + 1 + 1, 2, none⟩) (by simp; omega) (.bool false)
  have hF := hs.set3 (b := w.heap.size + 1 + 1) hlt3 (.slice ra rn rc) (.bool rb) (.bool false)
  exact bodyPost_ret (v := .agg #[.slice ra rn rc, .bool rb, .bool false]) (by simp [results, Tryz.results100, go_sem, z1, z2, z3]) rfl ⟨_, rfl, hF.int, hbF⟩
/-- what 'Xor' answers -/
def xorRes (a b : List UInt8) : List UInt8 × Int := twoRes a b 0 (bitI (· ^^^ ·) (pVal a) (pVal b))
theorem xor_fn (a b : List UInt8) (ha : a.length ≤ 1000000000) (hb : b.length ≤ 1000000000) (w : World) :
    Calls Tryz.prog 33 #[.string ⟨a.toArray⟩, .string ⟨b.toArray⟩] w fun e w' => e = .returned (.tuple #[.string ⟨(xorRes a b).1.toArray⟩, .int .i64 (xorRes a b).2]) ∧ Below w.heap.size w w' := by
  have hc := hid (two_fn a b ha hb 55 100 #[] #[] 0 (bitI (· ^^^ ·) (pVal a) (pVal b)) w (enters_of Tryz.func55 (by kernel_rfl) rfl) (enters_of Tryz.func100 (by kernel_rfl) rfl)
    (fun _ _ w1 v u _ h1 h2 => by
      obtain ⟨n, lg, h1, _⟩ := h1
      obtain ⟨m, lg', h2, _⟩ := h2
      exact neither_fn h1 h2)
    (fun _ _ _ s1 s2 w1 v u _ h1 h2 h3 h4 => (xor1 h1 h3 h2 h4).mono fun e w' h => by
      obtain ⟨s, rfl, hs, hb⟩ := h
      refine ⟨s, rfl, RNum.of_int hs ?_, hb⟩
      exact bitI_nlen _ bl_xor _ _ h2 h4))
  go_enter Tryz.func33, Tryz.ntmps33
  go_wp2_with fail
  (with_reducible refine hc.out.mono ?_); rintro e w1 ⟨rfl, hb1⟩
  go_wp2
  go_ret2
  exact ⟨rfl, hb1⟩
end Go.Proofs.YtkhgoeippamobaaGreatDoor
/-
  Neg, Not, Abs of big.
-/
namespace Go.Proofs.YtkhgoeippamobaaGreatDoor
open Go.RowKit
def negRes (a : List UInt8) : List UInt8 × Int := oneRes a 0 (-(pVal a))
theorem neg_fn (a : List UInt8) (ha : a.length ≤ 1000000000) (w : World) :
    Calls Tryz.prog 35 #[.string ⟨a.toArray⟩] w fun e w' => e = .returned (.tuple #[.string ⟨(negRes a).1.toArray⟩, .int .i64 (negRes a).2]) ∧ Below w.heap.size w w' := by
  have hc := hid (one_fn a ha 60 58 #[] #[] 0 (-(pVal a)) w w.heap.size (Nat.le_refl _) (enters_of Tryz.func60 (by kernel_rfl) rfl) (enters_of Tryz.func58 (by kernel_rfl) rfl)
    (fun _ w1 v _ h1 => by
      obtain ⟨n, lg, h1, _⟩ := h1
      exact never_fn h1)
    (fun _ _ _ w1 v hb h1 h2 => (opposite_int h1 (by omega)).mono fun e w' h => by
      obtain ⟨u, rfl, h3, h4⟩ := h
      exact ⟨u, rfl, RNum.of_int h3 (by rw [Int.natAbs_neg]; omega), h4.mono hb.size⟩))
  go_enter Tryz.func35, Tryz.ntmps35
  go_wp2_with fail
  (with_reducible refine hc.out.mono ?_); rintro e w1 ⟨rfl, hb1⟩
  go_wp2
  go_ret2
  exact ⟨rfl, hb1⟩
theorem D_one : D 1 0 = 1 := by decide
theorem nlen_one : nlen 1 = 1 := nlen_of_cut 1 1 (by decide) (.inr (by decide))
theorem nat_one {w : World} {b : Nat} {t : TypeId} (k : Blk w b #[.int .u32 1] t) : NatRep w (.slice (some ⟨b, 0, none⟩) 1 1) 1 := by
  unfold NatRep
  rw [nlen_one]
  refine ⟨_, _, rfl, Nat.le_refl _, fun _ => ⟨b, 0, rfl, k.lt, fun i hi => ?_⟩⟩
  obtain rfl : i = 0 := by omega
  rw [D_one]
  exact k.cell 0
set_option maxRecDepth 100000 in
set_option maxHeartbeats 2000000 in
theorem not1 {v : Value} {z : Int} {w : World} (h : IntV w v z) (hl : nlen z.natAbs ≤ 1000) : Calls Tryz.prog 102 #[v] w (RetInt (-z - 1) w) := by
  obtain ⟨a, c, rfl, h1⟩ := h.shape
  generalize hs : decide (z < 0) = s at *
  generalize hn : nlen z.natAbs = n at *
  have k1 := Blk.new w #[.slice a n c, .bool s, .bool false] 49
  have k2 := Blk.new (w.alloc (.cells #[.slice a n c, .bool s, .bool false] 49)) #[.slice none 0 0, .bool false, .bool false] 49
  simp only [World.size_alloc] at k2
  have k1 := k1.alloc (.cells #[.slice none 0 0, .bool false, .bool false] 49)
  have hb0 : Below w.heap.size w ((w.alloc (.cells #[.slice a n c, .bool s, .bool false] 49)).alloc (.cells #[.slice none 0 0, .bool false, .bool false] 49)) := ((Below.refl _ _).alloc (Nat.le_refl _) _).alloc (by simp) _
  have h := h.below hb0
  have HO := hid (opposite_int h (by omega))
  have HZ := hid (show -z + -1 = -z - 1 by omega)
  clear hs h1
  go_enter Tryz.func102, Tryz.ntmps102
  go_wp2_with fail
  generalize (w.alloc (.cells #[.slice a n c, .bool s, .bool false] 49)).alloc (.cells #[.slice none 0 0, .bool false, .bool false] 49) = w0 at *
  obtain ⟨⟨p1, p2, p3⟩, _⟩ := k1.three
  go_wp2_with fail
  (with_reducible refine HO.out.mono ?_); rintro e w1 ⟨r, rfl, hr, gg⟩
  have k2 := k2.later gg
  have hb := hb0.trans (gg.mono hb0.size)
  have gg : Below w1.heap.size w1 (w1.alloc (.cells #[.int .u32 1] 75)) := (Below.refl _ _).alloc (Nat.le_refl _) _
  have k4 := Blk.new w1 #[.int .u32 1] 75
  have hr := hr.below gg
  have k2 := k2.later gg
  have hb := hb.trans (gg.mono hb.size)
  have HOF := hid (of_nat (nat_one k4) true (by rw [nlen_one]; decide))
  have hM : decide (0 < 1) = true := rfl
  rw [hM] at HOF
  have HOF : Hid (Calls Tryz.prog 84 #[.slice (some ⟨w1.heap.size, 0, none⟩) 1 1, .bool true] (w1.alloc (.cells #[.int .u32 1] 75)) fun e w' => e = .returned (.agg #[.slice (some ⟨w1.heap.size, 0, none⟩) 1 1, .bool true, .bool false]) ∧ Below (w1.alloc (.cells #[.int .u32 1] 75)).heap.size (w1.alloc (.cells #[.int .u32 1] 75)) w') := HOF
  obtain ⟨ra, rn, rc, rb, rfl⟩ := hr.shape4
  clear p1 p2 p3 gg hM
  go_wp2_with fail
  (with_reducible refine HOF.out.mono ?_); rintro e w2 ⟨rfl, gg⟩
  have hone := nat_one (k4.later gg)
  have hr := hr.below gg
  have k2 := k2.later gg
  have hb := hb.trans (gg.mono hb.size)
  have hm1 : IntV w2 (.agg #[.slice (some ⟨w1.heap.size, 0, none⟩) 1 1, .bool true, .bool false]) (-1) := IntV.mk hone rfl rfl
  have HP := hid (plusN_int hr hm1 (by rw [Int.natAbs_neg]; omega) (by show nlen 1 ≤ 1000000; rw [nlen_one]; decide))
  rw [HZ.out] at HP
  clear gg
  go_wp2_with fail
  (with_reducible refine HP.out.mono ?_); rintro e w3 ⟨q, rfl, hq, gg⟩
  have hlt := k2.lt
  have k2 := k2.later gg
  have hb := hb.trans (gg.mono hb.size)
  obtain ⟨qa, qn, qc, qb, rfl⟩ := hq.shape4
  obtain ⟨⟨r1, r2, r3⟩, r4, r5, r6⟩ := k2.three
  go_wp2
  have k2 := k2.set3 (.slice qa qn qc) (.bool qb) (.bool false)
  obtain ⟨⟨z1, z2, z3⟩, _⟩ := k2.three
  have hF := hq.set3 (b := w.heap.size + 1) hlt (.slice qa qn qc) (.bool qb) (.bool false)
  have hbF := ((hb.setCell (p := ⟨w.heap.size + 1, 0, none⟩) (by simp) (.slice qa qn qc)).setCell (p := ⟨w.heap.size + 1, 1, none⟩) (by simp) (.bool qb)).setCell (p := ⟨w.heap.size + 1, 2, none⟩) (by simp) (.bool false)
  exact bodyPost_ret (v := .agg #[.slice qa qn qc, .bool qb, .bool false]) (by simp [results, Tryz.results102, go_sem, z1, z2, z3]) rfl ⟨_, rfl, hF.int, hbF⟩
def notRes (a : List UInt8) : List UInt8 × Int := oneRes a 0 (-(pVal a) - 1)
theorem not_fn (a : List UInt8) (ha : a.length ≤ 1000000000) (w : World) :
    Calls Tryz.prog 34 #[.string ⟨a.toArray⟩] w fun e w' => e = .returned (.tuple #[.string ⟨(notRes a).1.toArray⟩, .int .i64 (notRes a).2]) ∧ Below w.heap.size w w' := by
  have hc := hid (one_fn a ha 60 102 #[] #[] 0 (-(pVal a) - 1) w w.heap.size (Nat.le_refl _) (enters_of Tryz.func60 (by kernel_rfl) rfl) (enters_of Tryz.func102 (by kernel_rfl) rfl)
    (fun _ w1 v _ h1 => by
      obtain ⟨n, lg, h1, _⟩ := h1
      exact never_fn h1)
    (fun _ _ s1 w1 v hb h1 h2 => (not1 h1 h2).mono fun e w' h => by
      obtain ⟨u, rfl, h3, h4⟩ := h
      refine ⟨u, rfl, RNum.of_int h3 ?_, h4.mono hb.size⟩
      have h5 := nlen_sq _ (sum_sq _ 1 s1 (by have := big600_two; omega))
      have h6 := nlen_mono (show (-(pVal a) - 1).natAbs ≤ (pVal a).natAbs + 1 by omega)
      omega))
  go_enter Tryz.func34, Tryz.ntmps34
  go_wp2_with fail
  (with_reducible refine hc.out.mono ?_); rintro e w1 ⟨rfl, hb1⟩
  go_wp2
  go_ret2
  exact ⟨rfl, hb1⟩
end Go.Proofs.YtkhgoeippamobaaGreatDoor
/-
  Operations on texts of small numbers.
-/
namespace Go.Proofs.YtkhgoeippamobaaGreatDoor
open Go.RowKit
/-- a text that is a number below 2^490 -/
def Sm (l : List UInt8) (z : Int) : Prop := pOK l = true ∧ pVal l = z ∧ z.natAbs < big600 ∧ l.length ≤ 1000000000
theorem Sm.txt (z : Int) (h : z.natAbs < big600) : Sm (txt z) z := ⟨(txt_read z).1, (txt_read z).2, h, Nat.le_trans (txt_len z h) (by decide)⟩
theorem add_sm {a b : List UInt8} {x y z : Int} (ha : Sm a x) (hb : Sm b y) (hz : z.natAbs < big600) (e : x + y = z) (w : World) :
    Calls Tryz.prog 12 #[.string ⟨a.toArray⟩, .string ⟨b.toArray⟩] w fun e w' => e = .returned (.tuple #[.string ⟨(txt z).toArray⟩, .int .i64 0]) ∧ Below w.heap.size w w' := by
  subst e
  obtain ⟨a1, rfl, a2, a3⟩ := ha
  obtain ⟨b1, rfl, b2, b3⟩ := hb
  have h := add_fn a b a3 b3 w
  rw [addRes, two_small a b _ a1 b1 a2 b2 hz] at h
  exact h
theorem sub_sm {a b : List UInt8} {x y z : Int} (ha : Sm a x) (hb : Sm b y) (hz : z.natAbs < big600) (e : x - y = z) (w : World) :
    Calls Tryz.prog 13 #[.string ⟨a.toArray⟩, .string ⟨b.toArray⟩] w fun e w' => e = .returned (.tuple #[.string ⟨(txt z).toArray⟩, .int .i64 0]) ∧ Below w.heap.size w w' := by
  subst e
  obtain ⟨a1, rfl, a2, a3⟩ := ha
  obtain ⟨b1, rfl, b2, b3⟩ := hb
  have h := sub_fn a b a3 b3 w
  rw [subRes, two_small a b _ a1 b1 a2 b2 hz] at h
  exact h
theorem mul_sm {a b : List UInt8} {x y z : Int} (ha : Sm a x) (hb : Sm b y) (hz : z.natAbs < big600) (e : x * y = z) (w : World) :
    Calls Tryz.prog 15 #[.string ⟨a.toArray⟩, .string ⟨b.toArray⟩] w fun e w' => e = .returned (.tuple #[.string ⟨(txt z).toArray⟩, .int .i64 0]) ∧ Below w.heap.size w w' := by
  subst e
  obtain ⟨a1, rfl, a2, a3⟩ := ha
  obtain ⟨b1, rfl, b2, b3⟩ := hb
  have h := mul_fn a b a3 b3 w
  rw [mulRes, two_small a b _ a1 b1 a2 b2 hz] at h
  exact h
theorem can_sm {a : List UInt8} {x : Int} (ha : Sm a x) (w : World) :
    Calls Tryz.prog 14 #[.string ⟨a.toArray⟩] w fun e w' => e = .returned (.tuple #[.string ⟨(txt x).toArray⟩, .int .i64 0]) ∧ Below w.heap.size w w' := by
  obtain ⟨a1, rfl, a2, a3⟩ := ha
  have h := can_fn a a3 w
  rw [canRes, one_small a _ a1 a2 a2] at h
  exact h
theorem mul_bound (x y : Int) (m n : Nat) (hx : x.natAbs < m) (hy : y.natAbs < n) : (x * y).natAbs < m * n := by
  rw [Int.natAbs_mul]; exact Nat.mul_lt_mul'' hx hy
end Go.Proofs.YtkhgoeippamobaaGreatDoor
