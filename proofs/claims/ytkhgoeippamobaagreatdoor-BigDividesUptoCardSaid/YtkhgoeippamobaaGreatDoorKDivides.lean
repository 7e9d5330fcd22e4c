/-
  DividesCard: the law's card and what it alone needs, merged from 2 texts. Conditions: the row's own.
-/
import Derived.Test.YtkhgoeippamobaaGreatDoorCards
import Derived.Test.YtkhgoeippamobaaGreatDoorTie
import Derived.Deep.DeepHandedRow
import Derived.ProofKit
import Derived.OpenShut
import Derived.Lay
import Derived.MakeChecks
import Derived.ChangeMaps5
import Derived.Test.YtkhgoeippamobaaGreatDoorK1
import Derived.Test.YtkhgoeippamobaaGreatDoorK2
import Derived.Test.YtkhgoeippamobaaGreatDoorK3
import Derived.Test.YtkhgoeippamobaaGreatDoorK4
import Derived.Test.YtkhgoeippamobaaGreatDoorK5
import Derived.Test.YtkhgoeippamobaaGreatDoorK6
/-
  BigDivides: the walk.
-/
namespace Go.Proofs.YtkhgoeippamobaaGreatDoor
open Go.RowKit
theorem big600_ge2 : 2 ^ 1000 ≤ big600 := by decide +kernel
theorem lt_big2 (z : Int) (h : z.natAbs < 2 ^ 1000) : z.natAbs < big600 := Nat.lt_of_lt_of_le h big600_ge2
theorem shift_sm {a : List UInt8} {x z : Int} {n : Int} (ha : Sm a x) (hn : farN n = 0) (hz : z.natAbs < big600) (e : shI x n = z) (w : World) :
    Calls Tryz.prog 36 #[.string ⟨a.toArray⟩, .int .i64 n] w fun e w' => e = .returned (.tuple #[.string ⟨(txt z).toArray⟩, .int .i64 0]) ∧ Below w.heap.size w w' := by
  obtain ⟨a1, rfl, a2, a3⟩ := ha
  have h := shift_fn a a3 n w
  unfold shiftRes at h
  rw [hn, e, one_small a z a1 a2 hz] at h
  exact h
theorem abs_sm {a : List UInt8} {x z : Int} (ha : Sm a x) (hz : z.natAbs < big600) (e : ((x.natAbs : Nat) : Int) = z) (w : World) :
    Calls Tryz.prog 38 #[.string ⟨a.toArray⟩] w fun e w' => e = .returned (.tuple #[.string ⟨(txt z).toArray⟩, .int .i64 0]) ∧ Below w.heap.size w w' := by
  subst e
  obtain ⟨a1, rfl, a2, a3⟩ := ha
  have h := abs_fn a a3 w
  rw [absRes, one_small a _ a1 a2 hz] at h
  exact h
theorem gcd_sm {a b : List UInt8} {x y z : Int} (ha : Sm a x) (hb : Sm b y) (hz : z.natAbs < big600) (e : gcdI x y = z) (w : World) :
    Calls Tryz.prog 29 #[.string ⟨a.toArray⟩, .string ⟨b.toArray⟩] w fun e w' => e = .returned (.tuple #[.string ⟨(txt z).toArray⟩, .int .i64 0]) ∧ Below w.heap.size w w' := by
  obtain ⟨a1, rfl, a2, a3⟩ := ha
  obtain ⟨b1, rfl, b2, b3⟩ := hb
  have h := gcd_fn a b a3 b3 w
  unfold gcdRes at h
  rw [e, two_small a b _ a1 b1 a2 b2 hz] at h
  exact h
theorem divVal_sm {a b : List UInt8} {x y : Int} (ha : Sm a x) (hb : Sm b y) (hy : y ≠ 0) (h1 : (x.fdiv y).natAbs < big600) (h2 : (x.fmod y).natAbs < big600) : divVal a b = .tuple #[.string ⟨(txt (x.fdiv y)).toArray⟩, .string ⟨(txt (x.fmod y)).toArray⟩, .int .i64 0] := by
  obtain ⟨a1, rfl, a2, a3⟩ := ha
  obtain ⟨b1, rfl, b2, b3⟩ := hb
  rw [divVal_pos ⟨a1, b1⟩ hy, if_neg (by omega), divOK_small h1 h2]
  rfl
theorem div_sm {a b : List UInt8} {x y : Int} (ha : Sm a x) (hb : Sm b y) (hy : y ≠ 0) (h1 : (x.fdiv y).natAbs < big600) (h2 : (x.fmod y).natAbs < big600) (w : World) :
    Calls Tryz.prog 25 #[.string ⟨a.toArray⟩, .string ⟨b.toArray⟩] w fun e w' => e = .returned (.tuple #[.string ⟨(txt (x.fdiv y)).toArray⟩, .string ⟨(txt (x.fmod y)).toArray⟩, .int .i64 0]) ∧ Below w.heap.size w w' := by
  have h := div_fn a b ha.2.2.2 hb.2.2.2 w
  rw [divVal_sm ha hb hy h1 h2] at h
  exact h
theorem divR_sm {a b : List UInt8} {x y : Int} (ha : Sm a x) (hb : Sm b y) (hy : y ≠ 0) (h1 : (x.fdiv y).natAbs < big600) (h2 : (x.fmod y).natAbs < big600) (la : a.length ≤ 2000000) (lb : b.length ≤ 2000000) (w : World) :
    Calls Tryz.prog 26 #[.string ⟨a.toArray⟩, .string ⟨b.toArray⟩] w fun e w' => e = .returned (.tuple #[.string ⟨(txt (x.fdiv y)).toArray⟩, .string ⟨(txt (x.fmod y)).toArray⟩, .int .i64 0]) ∧ Below w.heap.size w w' := by
  have h := divRf_fn a b la lb w
  rw [divVal_sm ha hb hy h1 h2] at h
  exact h
theorem div_sm0 {a b : List UInt8} {x : Int} (ha : Sm a x) (hb : Sm b 0) (w : World) :
    Calls Tryz.prog 25 #[.string ⟨a.toArray⟩, .string ⟨b.toArray⟩] w fun e w' => e = .returned (.tuple #[.string ⟨#[]⟩, .string ⟨#[]⟩, .int .i64 10]) ∧ Below w.heap.size w w' := by
  have h := div_fn a b ha.2.2.2 hb.2.2.2 w
  rw [divVal_zero ⟨ha.1, hb.1⟩ hb.2.1] at h
  exact h
theorem signR_sm {a : List UInt8} {x s : Int} (ha : Sm a x) (e : cmpI x 0 = s) (la : a.length ≤ 2000000) (w : World) :
    Calls Tryz.prog 37 #[.string ⟨a.toArray⟩] w fun e w' => e = .returned (.tuple #[.int .i64 s, .int .i64 0]) ∧ Below w.heap.size w w' := by
  obtain ⟨a1, rfl, a2, a3⟩ := ha
  have h := signR_fn a la w
  unfold signRes at h
  rw [if_pos a1, if_neg (by omega), e] at h
  exact h
theorem cmpR_sm {a b : List UInt8} {x y s : Int} (ha : Sm a x) (hb : Sm b y) (e : cmpI x y = s) (la : a.length ≤ 2000000) (lb : b.length ≤ 2000000) (w : World) :
    Calls Tryz.prog 23 #[.string ⟨a.toArray⟩, .string ⟨b.toArray⟩] w fun e w' => e = .returned (.tuple #[.int .i64 s, .int .i64 0]) ∧ Below w.heap.size w w' := by
  obtain ⟨a1, rfl, a2, a3⟩ := ha
  obtain ⟨b1, rfl, b2, b3⟩ := hb
  have h := cmpR_fn a b la lb w
  unfold cmpRes at h
  rw [if_pos ⟨a1, b1⟩, if_neg (by omega), e] at h
  exact h
theorem txt_len2 (z : Int) (h : z.natAbs < big600) : (txt z).length ≤ 2000000 := Nat.le_trans (txt_len z h) (by decide)
/-- shifted there and back -/
theorem shI_back (x : Int) (n : Nat) : shI (shI x (n : Int)) (-(n : Int)) = x := by
  rw [shI_pos]
  by_cases h : n = 0
  · subst h
    unfold shI
    simp
  · rw [shI_down _ n (by omega)]
    have hp := Nat.two_pow_pos n
    generalize 2 ^ n = p at *
    exact Int.mul_fdiv_cancel x (by omega)
theorem shI_small (x : Int) (n : Nat) (hx : x.natAbs < 2 ^ 240) (hn : n ≤ 300) : (shI x (n : Int)).natAbs < big600 := by
  refine lt_big2 _ ?_
  rw [(shI_pos_abs x n).1]
  have key : ∀ e, 240 + n ≤ e → x.natAbs * 2 ^ n < 2 ^ e := fun e he => by
    have h1 : x.natAbs * 2 ^ n < 2 ^ 240 * 2 ^ n := Nat.mul_lt_mul_of_pos_right hx (Nat.two_pow_pos n)
    rw [← Nat.pow_add] at h1
    exact Nat.lt_of_lt_of_le h1 (Nat.pow_le_pow_right (by decide) he)
  exact key 1000 (by omega)
theorem cmpI_sign (x : Int) : cmpI x 0 = if x < 0 then -1 else if x = 0 then 0 else 1 := by
  unfold cmpI
  split
  · rfl
  · split
    · rw [if_neg (by omega)]
    · rw [if_pos (by omega)]
theorem cmpI_lt (x y : Int) (h : x < y) : cmpI x y = -1 := by unfold cmpI; rw [if_pos h]
theorem fmod_neg_div (x y : Int) (h : y < 0) : x.fmod y ≤ 0 ∧ y < x.fmod y := by
  have e : x.fmod y = -((-x).fmod (-y)) := by rw [Int.neg_fmod_neg, Int.neg_neg]
  have h1 := Int.fmod_nonneg_of_pos (-x) (show 0 < -y by omega)
  have h2 := Int.fmod_lt_of_pos (-x) (show 0 < -y by omega)
  omega
theorem fmod_sign (x y : Int) (hy : y ≠ 0) : x.fmod y = 0 ∨ cmpI (x.fmod y) 0 = cmpI y 0 := by
  rw [cmpI_sign, cmpI_sign]
  rcases Int.lt_or_lt_of_ne hy with h | h
  · obtain ⟨h1, _⟩ := fmod_neg_div x y h
    by_cases h0 : x.fmod y = 0
    · exact .inl h0
    · right
      rw [if_pos (by omega), if_pos h]
  · have h1 := Int.fmod_nonneg_of_pos x h
    by_cases h0 : x.fmod y = 0
    · exact .inl h0
    · right
      rw [if_neg (by omega), if_neg h0, if_neg (by omega), if_neg (by omega)]
theorem fmod_lt_abs (x y : Int) (hy : y ≠ 0) : ((x.fmod y).natAbs : Int) < (y.natAbs : Int) := by
  rcases Int.lt_or_lt_of_ne hy with h | h
  · obtain ⟨h1, h2⟩ := fmod_neg_div x y h
    omega
  · have h1 := Int.fmod_nonneg_of_pos x h
    have h2 := Int.fmod_lt_of_pos x h
    omega
theorem fdiv_back (x y : Int) : x.fdiv y * y + x.fmod y = x := by
  have := Int.mul_fdiv_add_fmod x y
  rw [Int.mul_comm] at this
  exact this
theorem gcd_divides (x y : Int) : x.fmod (gcdI x y) = 0 ∧ y.fmod (gcdI x y) = 0 := by
  unfold gcdI
  constructor
  · exact Int.fmod_eq_zero_of_dvd (Int.ofNat_dvd_left.2 (Nat.gcd_dvd_left _ _))
  · exact Int.fmod_eq_zero_of_dvd (Int.ofNat_dvd_left.2 (Nat.gcd_dvd_right _ _))
theorem gcd_le (x y : Int) (hy : y ≠ 0) : gcdI x y ≠ 0 ∧ (gcdI x y).natAbs ≤ y.natAbs := by
  unfold gcdI
  rw [Int.natAbs_natCast]
  have h1 := Nat.gcd_le_right x.natAbs (show 0 < y.natAbs by omega)
  have h2 := Nat.gcd_pos_of_pos_right x.natAbs (show 0 < y.natAbs by omega)
  omega
set_option maxRecDepth 100000 in
set_option maxHeartbeats 4000000 in
theorem divs_zero (a b : List UInt8) (x y : Int) (n : Nat) (ha : Sm a x) (hb : Sm b y) (hx : x.natAbs < 2 ^ 240) (hyy : y.natAbs < 2 ^ 240) (hn : n ≤ 300) (w : World)
    (hr : rightB [a, b] = true) (la : a.length ≤ 2000000) (lb : b.length ≤ 2000000) (hy : y = 0) :
    Calls Tryz.prog 7 #[.string ⟨a.toArray⟩, .string ⟨b.toArray⟩, .int .i64 (n : Int)] w fun e w' => e = .returned (.bool true) ∧ Below w.heap.size w w' := by
  have ax : x.natAbs < big600 := ha.2.2.1
  have ay : y.natAbs < big600 := hb.2.2.1
  have us := shI_small x n hx hn
  have f1 : farN (n : Int) = 0 := by unfold farN; rw [if_neg (by omega)]
  have f2 : farN (-(n : Int)) = 0 := by unfold farN; rw [if_neg (by omega)]
  have C1 := fun w => hid (can_sm ha w)
  have C2 := fun w => hid (shift_sm ha f1 us rfl w)
  have C3 := fun w => hid (shift_sm (Sm.txt _ us) f2 ax (shI_back x n) w)
  subst hy
  have C4 := fun w => hid (div_sm0 ha hb w)
  have C5 := fun w => hid (signR_sm hb (s := 0) (by decide) lb w)
  have AW := fun w => hid (awake_fn w)
  have hb0 : Below w.heap.size w (w.alloc (.cells #[.string ⟨a.toArray⟩, .string ⟨b.toArray⟩] 9)) := (Below.refl _ _).alloc (Nat.le_refl _) _
  have HRC := right_two a b w la lb
  rw [hr] at HRC
  have HRC := hid HRC.out
  generalize txt x = t1 at *
  generalize txt (shI x n) = t2 at *
  clear ha hb hr us f1 f2 hx hyy ax ay la lb
  go_enter Tryz.func7, Tryz.ntmps7
  go_wp2_with fail
  (with_reducible refine HRC.out.mono ?_); rintro e w0 ⟨rfl, g0⟩
  have hb := hb0.trans (g0.mono hb0.size)
  clear hb0 g0
  go_wp2_with fail
  (with_reducible refine (C1 _).out.mono ?_); rintro e w1 ⟨rfl, g1⟩
  have hb := hb.trans (g1.mono hb.size)
  clear g1
  go_wp2_with fail
  (with_reducible refine (C2 _).out.mono ?_); rintro e w2 ⟨rfl, g2⟩
  have hb := hb.trans (g2.mono hb.size)
  clear g2
  go_wp2_with fail
  (with_reducible refine (C3 _).out.mono ?_); rintro e w3 ⟨rfl, g3⟩
  have hb := hb.trans (g3.mono hb.size)
  clear g3
  go_wp2_with fail
  (with_reducible refine (C4 _).out.mono ?_); rintro e w4 ⟨rfl, g4⟩
  have hb := hb.trans (g4.mono hb.size)
  clear g4
  go_wp2_with fail
  (with_reducible refine (C5 _).out.mono ?_); rintro e w5 ⟨rfl, g5⟩
  have hb := hb.trans (g5.mono hb.size)
  clear g5
  go_wp2_with fail
  (with_reducible refine (AW _).out.mono ?_); rintro e w6 ⟨rfl, g6⟩
  have hb := hb.trans (g6.mono hb.size)
  clear g6
  go_wp2
  go_ret
  exact ⟨rfl, hb⟩
set_option maxRecDepth 100000 in
set_option maxHeartbeats 4000000 in
theorem divs_same (a b : List UInt8) (x y : Int) (n : Nat) (ha : Sm a x) (hb : Sm b y) (hx : x.natAbs < 2 ^ 240) (hyy : y.natAbs < 2 ^ 240) (hn : n ≤ 300) (w : World)
    (hr : rightB [a, b] = true) (la : a.length ≤ 2000000) (lb : b.length ≤ 2000000) (hy : y ≠ 0 ∧ x.fmod y = 0) :
    Calls Tryz.prog 7 #[.string ⟨a.toArray⟩, .string ⟨b.toArray⟩, .int .i64 (n : Int)] w fun e w' => e = .returned (.bool true) ∧ Below w.heap.size w w' := by
  have ax : x.natAbs < big600 := ha.2.2.1
  have ay : y.natAbs < big600 := hb.2.2.1
  have us := shI_small x n hx hn
  have f1 : farN (n : Int) = 0 := by unfold farN; rw [if_neg (by omega)]
  have f2 : farN (-(n : Int)) = 0 := by unfold farN; rw [if_neg (by omega)]
  have C1 := fun w => hid (can_sm ha w)
  have C2 := fun w => hid (shift_sm ha f1 us rfl w)
  have C3 := fun w => hid (shift_sm (Sm.txt _ us) f2 ax (shI_back x n) w)
  obtain ⟨hy0, hm0⟩ := hy
  have hlt := fmod_lt_abs x y hy0
  have rl : (x.fmod y).natAbs < big600 := by omega
  have hql := fdiv_le x y hy0
  have e24 : (2 : Nat) ^ 240 + 1 < 2 ^ 500 := by decide +kernel
  have ql : (x.fdiv y).natAbs < big600 := lt_big _ (by omega)
  have hback := fdiv_back x y
  have pl : (x.fdiv y * y).natAbs < big600 := lt_big _ (by omega)
  obtain ⟨hg0, hgl⟩ := gcd_le x y hy0
  obtain ⟨hd1, hd2⟩ := gcd_divides x y
  have gl : (gcdI x y).natAbs < big600 := by omega
  have hqx := fdiv_le x (gcdI x y) hg0
  have hqy := fdiv_le y (gcdI x y) hg0
  have gx : (x.fdiv (gcdI x y)).natAbs < big600 := lt_big _ (by omega)
  have gy : (y.fdiv (gcdI x y)).natAbs < big600 := lt_big _ (by omega)
  have C4 := fun w => hid (div_sm ha hb hy0 ql rl w)
  have C5 := fun w => hid (signR_sm hb rfl lb w)
  have C6 := fun w => hid (mul_sm (Sm.txt _ ql) hb pl rfl w)
  have C7 := fun w => hid (add_sm (Sm.txt _ pl) (Sm.txt _ rl) ax hback w)
  have C8 := fun w => hid (signR_sm (Sm.txt _ rl) (s := 0) (by rw [hm0]; decide) (txt_len2 _ rl) w)
  have al1 : (((x.fmod y).natAbs : Nat) : Int).natAbs < big600 := by rw [Int.natAbs_natCast]; exact rl
  have al2 : ((y.natAbs : Nat) : Int).natAbs < big600 := by rw [Int.natAbs_natCast]; exact ay
  have C10 := fun w => hid (abs_sm (Sm.txt _ rl) al1 rfl w)
  have C11 := fun w => hid (abs_sm hb al2 rfl w)
  have C12 := fun w => hid (cmpR_sm (Sm.txt _ al1) (Sm.txt _ al2) (cmpI_lt _ _ hlt) (txt_len2 _ al1) (txt_len2 _ al2) w)
  have C13 := fun w => hid (gcd_sm ha hb gl rfl w)
  have C14 := fun w => hid (divR_sm ha (Sm.txt _ gl) hg0 gx (by rw [hd1]; decide) la (txt_len2 _ gl) w)
  have C15 := fun w => hid (divR_sm hb (Sm.txt _ gl) hg0 gy (by rw [hd2]; decide) lb (txt_len2 _ gl) w)
  rw [hd1] at C14
  rw [hd2] at C15
  have hS0 : ¬ cmpI y 0 = 0 := by
    rw [cmpI_sign]
    by_cases h : y < 0
    · rw [if_pos h]; decide
    · rw [if_neg h, if_neg hy0]; decide
  have AW := fun w => hid (awake_fn w)
  have hb0 : Below w.heap.size w (w.alloc (.cells #[.string ⟨a.toArray⟩, .string ⟨b.toArray⟩] 9)) := (Below.refl _ _).alloc (Nat.le_refl _) _
  have HRC := right_two a b w la lb
  rw [hr] at HRC
  have HRC := hid HRC.out
  generalize txt x = t1 at *
  generalize txt (shI x n) = t2 at *
  clear ha hb hr us f1 f2 hx hyy ax ay la lb hlt hql hback hg0 hgl hd1 hd2 hqx hqy gx gy gl al1 al2 pl ql rl e24 hm0
  generalize txt (x.fdiv y) = t3 at *
  generalize txt (x.fmod y) = t4 at *
  generalize txt (x.fdiv y * y) = t5 at *
  generalize txt (((x.fmod y).natAbs : Nat) : Int) = t6 at *
  generalize txt ((y.natAbs : Nat) : Int) = t7 at *
  generalize txt (gcdI x y) = t8 at *
  generalize txt (x.fdiv (gcdI x y)) = t9 at *
  generalize txt (y.fdiv (gcdI x y)) = t10 at *
  generalize cmpI y 0 = S at *
  clear hy0
  have hz0 : (txt 0) = [48] := rfl
  rw [hz0] at C14 C15
  clear hz0
  go_enter Tryz.func7, Tryz.ntmps7
  go_wp2_with fail
  (with_reducible refine HRC.out.mono ?_); rintro e w0 ⟨rfl, g0⟩
  have hb := hb0.trans (g0.mono hb0.size)
  clear hb0 g0
  go_wp2_with fail
  (with_reducible refine (C1 _).out.mono ?_); rintro e w1 ⟨rfl, g1⟩
  have hb := hb.trans (g1.mono hb.size)
  clear g1
  go_wp2_with fail
  (with_reducible refine (C2 _).out.mono ?_); rintro e w2 ⟨rfl, g2⟩
  have hb := hb.trans (g2.mono hb.size)
  clear g2
  go_wp2_with fail
  (with_reducible refine (C3 _).out.mono ?_); rintro e w3 ⟨rfl, g3⟩
  have hb := hb.trans (g3.mono hb.size)
  clear g3
  go_wp2_with fail
  (with_reducible refine (C4 _).out.mono ?_); rintro e w4 ⟨rfl, g4⟩
  have hb := hb.trans (g4.mono hb.size)
  clear g4
  go_wp2_with fail
  (with_reducible refine (C5 _).out.mono ?_); rintro e w5 ⟨rfl, g5⟩
  have hb := hb.trans (g5.mono hb.size)
  clear g5
  go_wp2_with fail
  (with_reducible refine (C6 _).out.mono ?_); rintro e w6 ⟨rfl, g6⟩
  have hb := hb.trans (g6.mono hb.size)
  clear g6
  go_wp2_with fail
  (with_reducible refine (C7 _).out.mono ?_); rintro e w7 ⟨rfl, g7⟩
  have hb := hb.trans (g7.mono hb.size)
  clear g7
  go_wp2_with fail
  (with_reducible refine (C8 _).out.mono ?_); rintro e w8 ⟨rfl, g8⟩
  have hb := hb.trans (g8.mono hb.size)
  clear g8
  go_wp2_with fail
  (with_reducible refine (C5 _).out.mono ?_); rintro e w9 ⟨rfl, g9⟩
  have hb := hb.trans (g9.mono hb.size)
  clear g9
  go_wp2_with fail
  (with_reducible refine (C10 _).out.mono ?_); rintro e w10 ⟨rfl, g10⟩
  have hb := hb.trans (g10.mono hb.size)
  clear g10
  go_wp2_with fail
  (with_reducible refine (C11 _).out.mono ?_); rintro e w11 ⟨rfl, g11⟩
  have hb := hb.trans (g11.mono hb.size)
  clear g11
  go_wp2_with fail
  (with_reducible refine (C12 _).out.mono ?_); rintro e w12 ⟨rfl, g12⟩
  have hb := hb.trans (g12.mono hb.size)
  clear g12
  go_wp2_with fail
  (with_reducible refine (C13 _).out.mono ?_); rintro e w13 ⟨rfl, g13⟩
  have hb := hb.trans (g13.mono hb.size)
  clear g13
  go_wp2_with fail
  (with_reducible refine (C14 _).out.mono ?_); rintro e w14 ⟨rfl, g14⟩
  have hb := hb.trans (g14.mono hb.size)
  clear g14
  go_wp2_with fail
  (with_reducible refine (C15 _).out.mono ?_); rintro e w15 ⟨rfl, g15⟩
  have hb := hb.trans (g15.mono hb.size)
  clear g15
  go_wp2_with fail
  (with_reducible refine (AW _).out.mono ?_); rintro e w16 ⟨rfl, g16⟩
  have hb := hb.trans (g16.mono hb.size)
  clear g16
  go_wp2
  go_ret
  exact ⟨rfl, hb⟩
set_option maxRecDepth 100000 in
set_option maxHeartbeats 4000000 in
theorem divs_diff (a b : List UInt8) (x y : Int) (n : Nat) (ha : Sm a x) (hb : Sm b y) (hx : x.natAbs < 2 ^ 240) (hyy : y.natAbs < 2 ^ 240) (hn : n ≤ 300) (w : World)
    (hr : rightB [a, b] = true) (la : a.length ≤ 2000000) (lb : b.length ≤ 2000000) (hy : y ≠ 0 ∧ x.fmod y ≠ 0) :
    Calls Tryz.prog 7 #[.string ⟨a.toArray⟩, .string ⟨b.toArray⟩, .int .i64 (n : Int)] w fun e w' => e = .returned (.bool true) ∧ Below w.heap.size w w' := by
  have ax : x.natAbs < big600 := ha.2.2.1
  have ay : y.natAbs < big600 := hb.2.2.1
  have us := shI_small x n hx hn
  have f1 : farN (n : Int) = 0 := by unfold farN; rw [if_neg (by omega)]
  have f2 : farN (-(n : Int)) = 0 := by unfold farN; rw [if_neg (by omega)]
  have C1 := fun w => hid (can_sm ha w)
  have C2 := fun w => hid (shift_sm ha f1 us rfl w)
  have C3 := fun w => hid (shift_sm (Sm.txt _ us) f2 ax (shI_back x n) w)
  obtain ⟨hy0, hm0⟩ := hy
  have hlt := fmod_lt_abs x y hy0
  have rl : (x.fmod y).natAbs < big600 := by omega
  have hql := fdiv_le x y hy0
  have e24 : (2 : Nat) ^ 240 + 1 < 2 ^ 500 := by decide +kernel
  have ql : (x.fdiv y).natAbs < big600 := lt_big _ (by omega)
  have hback := fdiv_back x y
  have pl : (x.fdiv y * y).natAbs < big600 := lt_big _ (by omega)
  obtain ⟨hg0, hgl⟩ := gcd_le x y hy0
  obtain ⟨hd1, hd2⟩ := gcd_divides x y
  have gl : (gcdI x y).natAbs < big600 := by omega
  have hqx := fdiv_le x (gcdI x y) hg0
  have hqy := fdiv_le y (gcdI x y) hg0
  have gx : (x.fdiv (gcdI x y)).natAbs < big600 := lt_big _ (by omega)
  have gy : (y.fdiv (gcdI x y)).natAbs < big600 := lt_big _ (by omega)
  have C4 := fun w => hid (div_sm ha hb hy0 ql rl w)
  have C5 := fun w => hid (signR_sm hb rfl lb w)
  have C6 := fun w => hid (mul_sm (Sm.txt _ ql) hb pl rfl w)
  have C7 := fun w => hid (add_sm (Sm.txt _ pl) (Sm.txt _ rl) ax hback w)
  have C8 := fun w => hid (signR_sm (Sm.txt _ rl) (s := cmpI y 0) (by rcases fmod_sign x y hy0 with h | h; exact absurd h hm0; exact h) (txt_len2 _ rl) w)
  have al1 : (((x.fmod y).natAbs : Nat) : Int).natAbs < big600 := by rw [Int.natAbs_natCast]; exact rl
  have al2 : ((y.natAbs : Nat) : Int).natAbs < big600 := by rw [Int.natAbs_natCast]; exact ay
  have C10 := fun w => hid (abs_sm (Sm.txt _ rl) al1 rfl w)
  have C11 := fun w => hid (abs_sm hb al2 rfl w)
  have C12 := fun w => hid (cmpR_sm (Sm.txt _ al1) (Sm.txt _ al2) (cmpI_lt _ _ hlt) (txt_len2 _ al1) (txt_len2 _ al2) w)
  have C13 := fun w => hid (gcd_sm ha hb gl rfl w)
  have C14 := fun w => hid (divR_sm ha (Sm.txt _ gl) hg0 gx (by rw [hd1]; decide) la (txt_len2 _ gl) w)
  have C15 := fun w => hid (divR_sm hb (Sm.txt _ gl) hg0 gy (by rw [hd2]; decide) lb (txt_len2 _ gl) w)
  rw [hd1] at C14
  rw [hd2] at C15
  have hS0 : ¬ cmpI y 0 = 0 := by
    rw [cmpI_sign]
    by_cases h : y < 0
    · rw [if_pos h]; decide
    · rw [if_neg h, if_neg hy0]; decide
  have AW := fun w => hid (awake_fn w)
  have hb0 : Below w.heap.size w (w.alloc (.cells #[.string ⟨a.toArray⟩, .string ⟨b.toArray⟩] 9)) := (Below.refl _ _).alloc (Nat.le_refl _) _
  have HRC := right_two a b w la lb
  rw [hr] at HRC
  have HRC := hid HRC.out
  generalize txt x = t1 at *
  generalize txt (shI x n) = t2 at *
  clear ha hb hr us f1 f2 hx hyy ax ay la lb hlt hql hback hg0 hgl hd1 hd2 hqx hqy gx gy gl al1 al2 pl ql rl e24 hm0
  generalize txt (x.fdiv y) = t3 at *
  generalize txt (x.fmod y) = t4 at *
  generalize txt (x.fdiv y * y) = t5 at *
  generalize txt (((x.fmod y).natAbs : Nat) : Int) = t6 at *
  generalize txt ((y.natAbs : Nat) : Int) = t7 at *
  generalize txt (gcdI x y) = t8 at *
  generalize txt (x.fdiv (gcdI x y)) = t9 at *
  generalize txt (y.fdiv (gcdI x y)) = t10 at *
  generalize cmpI y 0 = S at *
  clear hy0
  have hz0 : (txt 0) = [48] := rfl
  rw [hz0] at C14 C15
  clear hz0
  go_enter Tryz.func7, Tryz.ntmps7
  go_wp2_with fail
  (with_reducible refine HRC.out.mono ?_); rintro e w0 ⟨rfl, g0⟩
  have hb := hb0.trans (g0.mono hb0.size)
  clear hb0 g0
  go_wp2_with fail
  (with_reducible refine (C1 _).out.mono ?_); rintro e w1 ⟨rfl, g1⟩
  have hb := hb.trans (g1.mono hb.size)
  clear g1
  go_wp2_with fail
  (with_reducible refine (C2 _).out.mono ?_); rintro e w2 ⟨rfl, g2⟩
  have hb := hb.trans (g2.mono hb.size)
  clear g2
  go_wp2_with fail
  (with_reducible refine (C3 _).out.mono ?_); rintro e w3 ⟨rfl, g3⟩
  have hb := hb.trans (g3.mono hb.size)
  clear g3
  go_wp2_with fail
  (with_reducible refine (C4 _).out.mono ?_); rintro e w4 ⟨rfl, g4⟩
  have hb := hb.trans (g4.mono hb.size)
  clear g4
  go_wp2_with fail
  (with_reducible refine (C5 _).out.mono ?_); rintro e w5 ⟨rfl, g5⟩
  have hb := hb.trans (g5.mono hb.size)
  clear g5
  go_wp2_with fail
  (with_reducible refine (C6 _).out.mono ?_); rintro e w6 ⟨rfl, g6⟩
  have hb := hb.trans (g6.mono hb.size)
  clear g6
  go_wp2_with fail
  (with_reducible refine (C7 _).out.mono ?_); rintro e w7 ⟨rfl, g7⟩
  have hb := hb.trans (g7.mono hb.size)
  clear g7
  go_wp2_with fail
  (with_reducible refine (C8 _).out.mono ?_); rintro e w8 ⟨rfl, g8⟩
  have hb := hb.trans (g8.mono hb.size)
  clear g8
  go_wp2_with fail
  (with_reducible refine (C5 _).out.mono ?_); rintro e w9 ⟨rfl, g9⟩
  have hb := hb.trans (g9.mono hb.size)
  clear g9
  go_wp2_with fail
  (with_reducible refine (C10 _).out.mono ?_); rintro e w10 ⟨rfl, g10⟩
  have hb := hb.trans (g10.mono hb.size)
  clear g10
  go_wp2_with fail
  (with_reducible refine (C11 _).out.mono ?_); rintro e w11 ⟨rfl, g11⟩
  have hb := hb.trans (g11.mono hb.size)
  clear g11
  go_wp2_with fail
  (with_reducible refine (C12 _).out.mono ?_); rintro e w12 ⟨rfl, g12⟩
  have hb := hb.trans (g12.mono hb.size)
  clear g12
  go_wp2_with fail
  (with_reducible refine (C13 _).out.mono ?_); rintro e w13 ⟨rfl, g13⟩
  have hb := hb.trans (g13.mono hb.size)
  clear g13
  go_wp2_with fail
  (with_reducible refine (C14 _).out.mono ?_); rintro e w14 ⟨rfl, g14⟩
  have hb := hb.trans (g14.mono hb.size)
  clear g14
  go_wp2_with fail
  (with_reducible refine (C15 _).out.mono ?_); rintro e w15 ⟨rfl, g15⟩
  have hb := hb.trans (g15.mono hb.size)
  clear g15
  go_wp2_with fail
  (with_reducible refine (AW _).out.mono ?_); rintro e w16 ⟨rfl, g16⟩
  have hb := hb.trans (g16.mono hb.size)
  clear g16
  go_wp2
  go_ret
  exact ⟨rfl, hb⟩
set_option maxRecDepth 100000 in
set_option maxHeartbeats 4000000 in
theorem divs_out (a b : List UInt8) (n : Int) (w : World) (hr : rightB [a, b] = false ∨ n < 0 ∨ 300 < n) (la : a.length ≤ 2000000) (lb : b.length ≤ 2000000) :
    Calls Tryz.prog 7 #[.string ⟨a.toArray⟩, .string ⟨b.toArray⟩, .int .i64 n] w fun e w' => e = .returned (.bool true) ∧ Below w.heap.size w w' := by
  have AW := fun w => hid (awake_fn w)
  have hb0 : Below w.heap.size w (w.alloc (.cells #[.string ⟨a.toArray⟩, .string ⟨b.toArray⟩] 9)) := (Below.refl _ _).alloc (Nat.le_refl _) _
  have HRC := right_two a b w la lb
  generalize rightB [a, b] = R at *
  have HRC := hid HRC.out
  clear la lb
  cases R with
  | false =>
    clear hr
    go_enter Tryz.func7, Tryz.ntmps7
    go_wp2_with fail
    (with_reducible refine HRC.out.mono ?_); rintro e w0 ⟨rfl, g0⟩
    have hb := hb0.trans (g0.mono hb0.size)
    clear hb0 g0
    go_wp2_with fail
    (with_reducible refine (AW _).out.mono ?_); rintro e w1 ⟨rfl, g1⟩
    have hb := hb.trans (g1.mono hb.size)
    clear g1
    go_wp2
    go_ret
    exact ⟨rfl, hb⟩
  | true =>
    have hr : n < 0 ∨ 300 < n := by simpa using hr
    by_cases h1 : n < 0
    · clear hr
      go_enter Tryz.func7, Tryz.ntmps7
      go_wp2_with fail
      (with_reducible refine HRC.out.mono ?_); rintro e w0 ⟨rfl, g0⟩
      have hb := hb0.trans (g0.mono hb0.size)
      clear hb0 g0
      go_wp2_with fail
      (with_reducible refine (AW _).out.mono ?_); rintro e w1 ⟨rfl, g1⟩
      have hb := hb.trans (g1.mono hb.size)
      clear g1
      go_wp2
      go_ret
      exact ⟨rfl, hb⟩
    · have h2 : 300 < n := by omega
      clear hr
      go_enter Tryz.func7, Tryz.ntmps7
      go_wp2_with fail
      (with_reducible refine HRC.out.mono ?_); rintro e w0 ⟨rfl, g0⟩
      have hb := hb0.trans (g0.mono hb0.size)
      clear hb0 g0
      go_wp2_with fail
      (with_reducible refine (AW _).out.mono ?_); rintro e w1 ⟨rfl, g1⟩
      have hb := hb.trans (g1.mono hb.size)
      clear g1
      go_wp2
      go_ret
      exact ⟨rfl, hb⟩
theorem divides_fn (a b : List UInt8) (n : Int) (w : World) (la : a.length ≤ 2000000) (lb : b.length ≤ 2000000) :
    Calls Tryz.prog 7 #[.string ⟨a.toArray⟩, .string ⟨b.toArray⟩, .int .i64 n] w fun e w' => e = .returned (.bool true) ∧ Below w.heap.size w w' := by
  by_cases ho : rightB [a, b] = false ∨ n < 0 ∨ 300 < n
  · exact divs_out a b n w ho la lb
  · have hr : rightB [a, b] = true := by
      cases h : rightB [a, b]
      · exact absurd (.inl h) ho
      · rfl
    obtain ⟨k, rfl⟩ := Int.eq_ofNat_of_zero_le (show 0 ≤ n by omega)
    obtain ⟨a1, a2, a3⟩ := rightB_mem _ hr a (by simp)
    obtain ⟨b1, b2, b3⟩ := rightB_mem _ hr b (by simp)
    have e : (2 : Nat) ^ 240 < 2 ^ 500 := by decide +kernel
    have ha : Sm a (pVal a) := ⟨a1, rfl, lt_big _ (by omega), by omega⟩
    have hb : Sm b (pVal b) := ⟨b1, rfl, lt_big _ (by omega), by omega⟩
    by_cases hy : pVal b = 0
    · exact divs_zero a b _ _ k ha hb a2 b2 (by omega) w hr la lb hy
    · by_cases hm : (pVal a).fmod (pVal b) = 0
      · exact divs_same a b _ _ k ha hb a2 b2 (by omega) w hr la lb ⟨hy, hm⟩
      · exact divs_diff a b _ _ k ha hb a2 b2 (by omega) w hr la lb ⟨hy, hm⟩
end Go.Proofs.YtkhgoeippamobaaGreatDoor
/-
  BigDivides: the row and its card (the second form: arguments of bulk at most 1048576). Condition: the listed package-level variables hold what the row lists (the card ties them to the text).
-/
namespace Go.Proofs.YtkhgoeippamobaaGreatDoor.bigDivides
open Go.ChangeMaps Go.ChangeShapes Go.WideShapes Go.ChangeAt Go.RowKit
theorem own : ownKnob Tryz.prog.godebug = none := by kernel_rfl
theorem ok_true {P : Program} {W' : World} {f : Func} {t : TypeId} (hr : f.resultTypes = #[t]) (ht : P.underlying t = some .bool) :
    ∀ (j : Nat) (t' : TypeId) (r : Value), f.resultTypes[j]? = some t' → ((Value.bool true).resultList f.resultTypes.size)[j]? = some r → Value.okWide P W' .any 0 t' r := ok_one hr rfl (okWide_bool_mk ht true)
section
variable {H : Type} {enc : TypeId × Value → H}
set_option maxRecDepth 100000 in
/-- the row's last step: no place was read, no variable is asked, what lay below is as it was -/
theorem post_below {f : Func} {s : ChangeSpec} {W W' : World} {args : Array Value} {v : Value} {ds gs : List (DataW H)}
    (hW : DataW.Whole enc Tryz.prog f.params.toList s.vars false W args.toList ds gs [])
    (hres : ∀ (b : Nat) (sp : Nat → Bool) (hd : Bool), DataW.TrodAll enc Tryz.prog W' b sp hd f.resultTypes.toList (v.resultList f.resultTypes.size) (s.fn H (ds ++ gs)).results [])
    (hargs : ∀ sp : Nat → Bool, DataW.TrodAll enc Tryz.prog W' 0 sp true f.params.toList args.toList (s.fn H (ds ++ gs)).args [])
    (hvars : ∀ sp : Nat → Bool, DataW.TrodVars enc Tryz.prog W' sp s.vars (s.fn H (ds ++ gs)).vars []) (hb : Below W.heap.size W W')
    (hok : ∀ (j : Nat) (t : TypeId) (r : Value), f.resultTypes[j]? = some t → (v.resultList f.resultTypes.size)[j]? = some r → Value.okWide Tryz.prog W' .any 0 t r) :
    s.post enc Tryz.prog f false true false false W args v W' := by
  refine ⟨ds, gs, [], [], [], [], hW, hres _ _ _, hargs _, hvars _, World.keptBut_mono (fun p hp => ⟨hp, .inr (.inr hp)⟩) (hb.frame (· ∈ ([] : List MemPlace))), fun _ => ?_⟩
  refine ⟨hok, _, _, ([] ++ []) ++ [], ⟨[] ++ [], [], trodAll_append (hargs _) (hres _ _ _), hvars _, rfl, ?_, ?_⟩, ?_⟩
  · intro b off hp
    simp at hp
  · intro h
    cases h
  · intro p hp _
    simp at hp
end
theorem contract (H : Type) (enc : TypeId × Value → H) (W : World) (base : Nat) (args : Array Value) (ds gs : List (DataW H)) (before : List MemPlace)
    (hval : ∀ (j : Nat) t v, Tryz.f7.params[j]? = some t → args[j]? = some v → Value.okWide Tryz.prog W .any base t v)
    (hW : DataW.Whole enc Tryz.prog Tryz.f7.params.toList Rows.bigDividesSpec.vars false W args.toList ds gs before) (hk : Rows.uptoSmall H (ds ++ gs) = true) :
    Calls Tryz.prog 7 args W fun e W' => ∃ v, e = .returned v ∧ Rows.bigDividesSpec.post enc Tryz.prog Tryz.f7 false true false false W args v W' := by
  have hW' := hW
  obtain ⟨p, q, hA0, hV, rfl, hfz, hnd⟩ := hW
  have hA : DataW.TrodAll enc Tryz.prog W 0 (fun _ => true) true Tryz.f7.params.toList args.toList ds p := hA0
  rw [Tryz.params7] at hA hval
  obtain ⟨v0, vs0, d0, ds0, p0, q0, hargs, rfl, rfl, h0, r0⟩ := trodAll_cons hA
  obtain ⟨v1, vs1, d1, ds1, p1, q1, rfl, rfl, rfl, h1, r1⟩ := trodAll_cons r0
  obtain ⟨v2, vs2, d2, ds2, p2, q2, rfl, rfl, rfl, h2, r2⟩ := trodAll_cons r1
  obtain ⟨rfl, rfl, rfl⟩ := trodAll_nil r2
  obtain rfl : args = #[v0, v1, v2] := by cases args; simp_all
  obtain ⟨rfl, rfl⟩ := trodVars_none hV
  obtain ⟨s0, rfl, rfl, rfl, m0⟩ := open_string Tryz.underlying9 (by with_reducible exact hval 0 9 v0 (by simp) (by simp)) h0
  obtain ⟨s1, rfl, rfl, rfl, m1⟩ := open_string Tryz.underlying9 (by with_reducible exact hval 1 9 v1 (by simp) (by simp)) h1
  obtain ⟨s2, rfl, rfl, rfl, m2⟩ := open_int Tryz.underlying3 (by with_reducible exact hval 2 3 v2 (by simp) (by simp)) h2
  clear hA0
  simp only [List.append_nil] at hW' hk
  have h := of_decide_eq_true hk
  simp only [Rows.uptoBulkAll, Rows.uptoBulk] at h
  have e0 : s0 = ⟨s0.data.toList.toArray⟩ := by cases s0; simp
  have e1 : s1 = ⟨s1.data.toList.toArray⟩ := by cases s1; simp
  have walk := divides_fn s0.data.toList s1.data.toList s2 W (by omega) (by omega)
  rw [← e0, ← e1] at walk
  refine walk.mono fun e W' ⟨he, hg⟩ => ?_
  subst he
  exact ⟨_, rfl, post_below hW' (fun _ _ _ => trodAll_cons_mk (shut_bool Tryz.underlying4 _) trodAll_mk0) (fun _ => trodAll_cons_mk (shut_string Tryz.underlying9 m0) (trodAll_cons_mk (shut_string Tryz.underlying9 m1) (trodAll_cons_mk (shut_int Tryz.underlying3 m2) trodAll_mk0))) (fun _ => rfl) hg (@ok_true Tryz.prog W' Tryz.f7 4 (by kernel_rfl) Tryz.underlying4)⟩
theorem reads (os : Os) {H : Type} (enc : TypeId × Value → H) : ∃ places, DataW.whole enc Tryz.prog ((World.laidAll Tryz.prog os Rows.bigDividesUptoRow.laid).forCall (fun _ _ => 0) ⟨#[], #[.string .empty, .string .empty, .int .i64 0], []⟩).memory Tryz.f7.params.toList Rows.bigDividesSpec.vars false (#[.string .empty, .string .empty, .int .i64 0] : Array Value).toList 8 = some ([.lit (.string []), .lit (.string []), .lit (.int .i64 0)], [], places) :=
  ⟨[], by kernel_rfl⟩
set_option maxRecDepth 100000 in
theorem lifted (os : Os) (started : os.Started) (H : Type) (enc : TypeId × Value → H) (F : Stop.Interp) :
    ReturnsInHanded {} Tryz.checked os 7 .any ((Rows.OpenSpec.upto Rows.bigDividesSpec).preRow enc Tryz.prog Tryz.f7 Rows.bigDividesUptoRow.domain false Rows.bigDividesUptoRow.laid) (((Rows.OpenSpec.upto Rows.bigDividesSpec).at F).post enc Tryz.prog Tryz.f7 false true false false) := by
  obtain ⟨places, hx⟩ := reads os enc
  have hl : laidMetH Tryz.prog Rows.bigDividesUptoRow.laid ((World.laidAll Tryz.prog os Rows.bigDividesUptoRow.laid).forCall (fun _ _ => 0) ⟨#[], #[.string .empty, .string .empty, .int .i64 0], []⟩).memory := by
    rw [MakeChecks.laidMetH_plain _ _ _ (by kernel_rfl)]
    exact laidMet_laidAll _ (by kernel_rfl) (by kernel_rfl)
  refine returnsInHanded_of_row (C := Tryz.checked) (s := (Rows.OpenSpec.upto Rows.bigDividesSpec)) own started (by kernel_rfl) Tryz.func7
    (witness_row_at (enc := enc) (C := Tryz.checked) false (World.laidAll Tryz.prog os Rows.bigDividesUptoRow.laid) #[.string .empty, .string .empty, .int .i64 0] (World.laidAll_os _ _ _) (by kernel_rfl) (by kernel_rfl) (by kernel_rfl)
      (OpenSpec.preRow_of_cond 8 hx (by kernel_rfl) (fun k hk => by cases hk; kernel_rfl) (by kernel_rfl) hl)) ?_
  intro W base args ds gs before hval hW _ hcond _ _ _ _
  exact contract H enc W base args ds gs before hval hW (hcond _ rfl)
theorem said : Rows.BigDividesUptoSaid :=
  OpenClaim.holds_of_cond 7 Tryz.f7 rfl rfl rfl rfl rfl rfl rfl ⟨rfl, rfl, rfl, rfl, rfl⟩ rfl rfl rfl rfl rfl (by kernel_rfl) Tryz.func7 (by kernel_rfl)
    (of_decide_eq_true (by kernel_rfl)) (by unfold Func.isWrapper; first | (rw [if_pos (by decide +kernel)]; kernel_rfl) | (rw [if_neg (by decide +kernel)]; exact ⟨rfl, rfl⟩))
    (fun os started H enc _ F => by rw [OpenClaim.pre_eq_preRow]; exact lifted os started H enc F)
theorem plain (f : FuncId) (fn : Func) (hf : Tryz.pinned.checked.prog.funcNamed "threadbare/threadbarelaw03.BigDivides" = some f) (hfn : Tryz.pinned.checked.prog.funcs[f]? = some fn) :
    false = Tryz.pinned.checked.prog.looks [] ∧ ∀ (j : Nat) t, fn.params[j]? = some t → Tryz.pinned.checked.prog.wantsStandIn t = false := by
  obtain rfl : f = 7 := Option.some.inj ((show Tryz.prog.funcNamed "threadbare/threadbarelaw03.BigDivides" = some 7 by kernel_rfl).symm.trans hf) |>.symm
  obtain rfl : fn = Tryz.f7 := (Option.some.inj (Tryz.func7.symm.trans hfn)).symm
  refine ⟨by kernel_rfl, fun j t ht => ?_⟩
  rw [Tryz.params7] at ht
  have ht := Array.mem_of_getElem? ht
  simp at ht
  rcases ht with rfl | rfl
  · exact (show Tryz.prog.wantsStandIn 9 = false by kernel_rfl)
  · exact (show Tryz.prog.wantsStandIn 3 = false by kernel_rfl)
theorem card : Rows.BigDividesUptoCardSaid :=
  Claim7.holds_tied_plain_at .later [] _ _ _ _ said (fun _ h => by cases h) (by kernel_rfl) (fun _ h => by cases h) bigDividesUpto_row_tie rfl ⟨rfl, rfl⟩ (by kernel_rfl) rfl plain (by kernel_rfl)
end Go.Proofs.YtkhgoeippamobaaGreatDoor.bigDivides
