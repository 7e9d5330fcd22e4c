/-
  BinarySumsCard: the law's card and what it alone needs, merged from 6 texts. Conditions: the row's own.
-/
import Derived.Laws.BitsAllLaws
import Derived.Lib.TrimUEq
import Derived.Lib.ValidU
import Derived.Test.YtihdndaibmgoiaaGreatDoorCards
import Derived.Test.YtihdndaibmgoiaaGreatDoorTie
import Derived.Deep.DeepHandedRow
import Derived.ProofKit
import Derived.OpenShut
import Derived.Lay
import Derived.Stop.LaidErr
import Derived.Lib.LaidTab
import Derived.MakeChecks
import Derived.ChangeMaps5
import Derived.Test.YtihdndaibmgoiaaGreatDoorK0
import Derived.Test.YtihdndaibmgoiaaGreatDoorK1
import Derived.Test.YtihdndaibmgoiaaGreatDoorK2
import Derived.Test.YtihdndaibmgoiaaGreatDoorK3
import Derived.Test.YtihdndaibmgoiaaGreatDoorK4
import Derived.Test.YtihdndaibmgoiaaGreatDoorK5
import Derived.Test.YtihdndaibmgoiaaGreatDoorK6
import Derived.Test.YtihdndaibmgoiaaGreatDoorK7
import Derived.Test.YtihdndaibmgoiaaGreatDoorK8
import Derived.Test.YtihdndaibmgoiaaGreatDoorK9
/-
  binary: the sums (plain): one changed byte is told.
-/
namespace Go.Proofs.YtihdndaibmgoiaaGreatDoor.Pz
def crcBit (x : Nat) : Nat := if x % 2 = 1 then (x / 2) ^^^ 3988292384 else x / 2
theorem crcBit_lt {x : Nat} (h : x < 4294967296) : crcBit x < 4294967296 := by
  unfold crcBit
  split
  · exact Nat.xor_lt_two_pow (n := 32) (by omega) (by decide)
  · omega
theorem crcBit_top {x : Nat} (h : x < 4294967296) : (crcBit x).testBit 31 = decide (x % 2 = 1) := by
  have h1 : (x / 2).testBit 31 = false := Nat.testBit_lt_two_pow (by omega)
  unfold crcBit
  split
  · rename_i hx
    rw [Nat.testBit_xor, h1, decide_eq_true hx]
    decide
  · rename_i hx
    rw [h1, decide_eq_false hx]
theorem crcBit_inj {x y : Nat} (hx : x < 4294967296) (hy : y < 4294967296) (h : crcBit x = crcBit y) : x = y := by
  have h1 := crcBit_top hx
  rw [h, crcBit_top hy, decide_eq_decide] at h1
  have h2 : x / 2 = y / 2 := by
    unfold crcBit at h
    by_cases h3 : x % 2 = 1
    · rw [if_pos h3, if_pos (h1.2 h3)] at h
      have h4 := congrArg (· ^^^ 3988292384) h
      simp only [Nat.xor_assoc, Nat.xor_self, Nat.xor_zero] at h4
      exact h4
    · rw [if_neg h3, if_neg (fun h4 => h3 (h1.1 h4))] at h
      exact h
  have h3 : x % 2 = y % 2 := by
    have := Nat.mod_two_eq_zero_or_one x
    have := Nat.mod_two_eq_zero_or_one y
    omega
  omega
def crcN : Nat → Nat → Nat
  | 0, x => x
  | k + 1, x => crcN k (crcBit x)
theorem crcN_lt : ∀ (k : Nat) {x : Nat}, x < 4294967296 → crcN k x < 4294967296
  | 0, _, h => h
  | k + 1, _, h => crcN_lt k (crcBit_lt h)
theorem crcN_inj : ∀ (k : Nat) {x y : Nat}, x < 4294967296 → y < 4294967296 → crcN k x = crcN k y → x = y
  | 0, _, _, _, _, h => h
  | k + 1, _, _, hx, hy, h => crcBit_inj hx hy (crcN_inj k (crcBit_lt hx) (crcBit_lt hy) h)
def crcE : Nat → List UInt8 → Nat
  | x, [] => x
  | x, c :: t => crcE (crcN 8 (x ^^^ c.toNat)) t
theorem xor8_lt {x : Nat} (c : UInt8) (h : x < 4294967296) : x ^^^ c.toNat < 4294967296 := Nat.xor_lt_two_pow (n := 32) h (by have := c.toNat_lt; omega)
theorem crcE_lt : ∀ (l : List UInt8) {x : Nat}, x < 4294967296 → crcE x l < 4294967296
  | [], _, h => h
  | c :: t, _, h => crcE_lt t (crcN_lt 8 (xor8_lt c h))
theorem xor_cancel {a b c : Nat} (h : a ^^^ c = b ^^^ c) : a = b := by
  have h4 := congrArg (· ^^^ c) h
  simpa only [Nat.xor_assoc, Nat.xor_self, Nat.xor_zero] using h4
theorem crcE_inj : ∀ (l : List UInt8) {x y : Nat}, x < 4294967296 → y < 4294967296 → crcE x l = crcE y l → x = y
  | [], _, _, _, _, h => h
  | c :: t, _, _, hx, hy, h => xor_cancel (crcN_inj 8 (xor8_lt c hx) (xor8_lt c hy) (crcE_inj t (crcN_lt 8 (xor8_lt c hx)) (crcN_lt 8 (xor8_lt c hy)) h))
theorem crcE_app : ∀ (l m : List UInt8) (x : Nat), crcE x (l ++ m) = crcE (crcE x l) m
  | [], _, _ => rfl
  | _ :: t, m, _ => crcE_app t m _
/-- one changed byte is told -/
theorem crcE_set {x : Nat} (hx : x < 4294967296) (l : List UInt8) (i : Nat) (hi : i < l.length) (d : UInt8) (hd : d ≠ l[i]) : crcE x (l.set i d) ≠ crcE x l := by
  intro h
  have e1 : l = l.take i ++ l[i] :: l.drop (i + 1) := by rw [List.getElem_cons_drop, List.take_append_drop]
  have e2 : l.set i d = l.take i ++ d :: l.drop (i + 1) := List.set_eq_take_append_cons_drop .. |>.trans (if_pos hi)
  rw [e2] at h
  conv at h => rhs; rw [e1]
  rw [crcE_app, crcE_app] at h
  have hp := crcE_lt (l.take i) hx
  have h2 := crcE_inj _ (crcN_lt 8 (xor8_lt d hp)) (crcN_lt 8 (xor8_lt l[i] hp)) h
  have h3 := crcN_inj 8 (xor8_lt d hp) (xor8_lt l[i] hp) h2
  rw [Nat.xor_comm _ d.toNat, Nat.xor_comm _ (l[i]).toNat] at h3
  exact hd (UInt8.toNat_inj.1 (xor_cancel h3))
def hashE : Nat → List UInt8 → Nat
  | x, [] => x
  | x, c :: t => hashE ((x ^^^ c.toNat) * 1099511628211 % 18446744073709551616) t
end Go.Proofs.YtihdndaibmgoiaaGreatDoor.Pz
/-
  binary: Sum64 and Crc32.
-/
namespace Go.Proofs.YtihdndaibmgoiaaGreatDoor.Pz
open Go.RowKit
theorem hashE_lt : ∀ (l : List UInt8) {x : Nat}, x < 18446744073709551616 → hashE x l < 18446744073709551616
  | [], _, h => h
  | _ :: t, _, _ => hashE_lt t (Nat.mod_lt _ (by decide))
theorem xor64_lt {x : Nat} (c : UInt8) (h : x < 18446744073709551616) : x ^^^ c.toNat < 18446744073709551616 := Nat.xor_lt_two_pow (n := 64) h (by have := c.toNat_lt; omega)
set_option maxRecDepth 100000 in
set_option maxHeartbeats 2000000 in
theorem sum64_fn (s : Str) (hs : s.length ≤ 1000000) (w : World) : Calls Tryz.prog 26 #[.string ⟨s.toArray⟩] w fun e w' => e = .returned (.int .u64 (hashE 14695981039346656037 s : Nat)) ∧ w' = w := by
  have hsz : (⟨s.toArray⟩ : ByteArray).size = s.length := Lib.size_mk _
  obtain ⟨R, hR⟩ : ∃ R, R = hashE 14695981039346656037 s := ⟨_, rfl⟩
  rw [← hR]
  have HR := hid hR
  clear hR
  go_enter Tryz.func26, Tryz.ntmps26
  go_wp2_with fail
  go_loopg [3, 7] s.length (fun k xv iv wr => ∃ (i x : Nat) (l : Str), iv = .int .i64 (i : Nat) ∧ xv = .int .u64 (x : Nat) ∧ x < 18446744073709551616 ∧ At s l i ∧ R = hashE x l ∧ wr = w ∧ k = l.length)
  case atStart => exact ⟨0, _, s, rfl, rfl, by decide, At.start s, HR.out, rfl, rfl⟩
  case round =>
    obtain ⟨i, x, l, rfl, rfl, hx, ha, hr, rfl, rfl⟩ := hrel
    have hlen := ha.len
    have HA := hid ha
    have HRR := hid hr
    clear ha hr
    cases l with
    | nil =>
      have hie : ¬ (i : Int) < (s.length : Int) := by simp at hlen; omega
      go_wp2
      go_ret
      exact ⟨by rw [HRR.out]; rfl, rfl⟩
    | cons c t =>
      have hlt := HA.out.lt
      have hib := HA.out.byte
      have hii : (i : Int) < (s.length : Int) := by omega
      have hxl := xor64_lt c hx
      have hxo := u64_xor_nat x c.toNat hx (by have := c.toNat_lt; omega)
      have hcw : IntKind.u64.wrap (c.toNat : Int) = (c.toNat : Int) := by
        have := c.toNat_lt
        rw [IntKind.wrap_u64]; omega
      obtain ⟨y, hy⟩ : ∃ y, y = x ^^^ c.toNat := ⟨_, rfl⟩
      rw [← hy] at hxo hxl
      have hmul : IntKind.u64.wrap ((y : Int) * 1099511628211) = ((y * 1099511628211 % 18446744073709551616 : Nat) : Int) := by
        rw [IntKind.wrap_u64]; omega
      have HY := hid hy
      clear hy
      go_wp2
      go_roundg t.length
      case measure => simp
      case rel => exact ⟨i + 1, y * 1099511628211 % 18446744073709551616, t, by go_num, congrArg (Value.int .u64) (by omega), Nat.mod_lt _ (by decide), HA.out.tail, by rw [HRR.out, HY.out]; rfl, rfl, rfl⟩
theorem not_u32c (x : Nat) (h : x < 4294967296) : bits BinOp.xor IntKind.u32 (if IntKind.u32.signed = true then -1 else IntKind.u32.max) (x : Int) = 4294967295 - (x : Int) := by
  have e : (if IntKind.u32.signed = true then (-1 : Int) else IntKind.u32.max) = ((4294967295 : Nat) : Int) := by simp [IntKind.signed, IntKind.max, IntKind.bits]
  rw [e, u32_xor_nat _ _ (by decide) h]
  have h2 : 4294967295 ^^^ x = 4294967295 - x := by
    have h3 : (4294967295 - x) + x = 4294967295 := by omega
    apply Nat.eq_of_testBit_eq
    intro i
    rw [show (4294967295 : Nat) = 2 ^ 32 - 1 from rfl, Nat.testBit_xor, Nat.testBit_two_pow_sub_one, show 2 ^ 32 - 1 - x = 2 ^ 32 - (x + 1) by omega, Nat.testBit_two_pow_sub_succ h]
    by_cases hi : i < 32
    · simp [hi]
    · have h4 : x.testBit i = false := Nat.testBit_lt_two_pow (Nat.lt_of_lt_of_le h (Nat.pow_le_pow_right (n := 2) (by decide) (show 32 ≤ i by omega)))
      simp [hi, h4]
  rw [h2]
  omega
theorem crcE_cons (x : Nat) (c : UInt8) (t : List UInt8) : crcE x (c :: t) = crcE (crcN 8 (x ^^^ c.toNat)) t := by
  conv => lhs; unfold crcE
theorem crcBit_eq (x : Nat) : crcBit x = if x % 2 = 1 then x / 2 ^^^ 3988292384 else x / 2 := rfl
set_option maxRecDepth 100000 in
set_option maxHeartbeats 2000000 in
theorem crc32_fn (s : Str) (hs : s.length ≤ 1000000) (w : World) : Calls Tryz.prog 24 #[.string ⟨s.toArray⟩] w fun e w' => e = .returned (.int .i64 (4294967295 - (crcE 4294967295 s : Nat))) ∧ w' = w := by
  have hsz : (⟨s.toArray⟩ : ByteArray).size = s.length := Lib.size_mk _
  obtain ⟨R, hR⟩ : ∃ R, R = crcE 4294967295 s := ⟨_, rfl⟩
  have hRl : R < 4294967296 := by rw [hR]; exact crcE_lt _ (by decide)
  rw [← hR]
  have HR := hid hR
  clear hR
  go_enter Tryz.func24, Tryz.ntmps24
  go_wp2_with fail
  go_loopg [3, 8] s.length (fun k xv iv wr => ∃ (i x : Nat) (l : Str), iv = .int .i64 (i : Nat) ∧ xv = .int .u32 (x : Nat) ∧ x < 4294967296 ∧ At s l i ∧ R = crcE x l ∧ wr = w ∧ k = l.length)
  case atStart => exact ⟨0, _, s, rfl, rfl, by decide, At.start s, HR.out, rfl, rfl⟩
  case round =>
    obtain ⟨i, x, l, rfl, rfl, hx, ha, hr, rfl, rfl⟩ := hrel
    have hlen := ha.len
    have HA := hid ha
    have HRR := hid hr
    clear ha hr
    cases l with
    | nil =>
      have hie : ¬ (i : Int) < (s.length : Int) := by simp at hlen; omega
      have hxR : x = R := by rw [HRR.out]; rfl
      subst hxR
      have hnot := not_u32c x hx
      have hcv : IntKind.i64.wrap (4294967295 - (x : Int)) = 4294967295 - (x : Int) := IntWalk.i64_in _ (by omega)
      go_wp2
      go_ret
      exact ⟨rfl, rfl⟩
    | cons c t =>
      have hlt := HA.out.lt
      have hib := HA.out.byte
      have hii : (i : Int) < (s.length : Int) := by omega
      have hxl := xor8_lt c hx
      have hxo := u32_xor_nat x c.toNat hx (by have := c.toNat_lt; omega)
      have hcw : IntKind.u32.wrap (c.toNat : Int) = (c.toNat : Int) := by
        have := c.toNat_lt
        rw [IntKind.wrap_u32]; omega
      obtain ⟨y, hy⟩ : ∃ y, y = x ^^^ c.toNat := ⟨_, rfl⟩
      rw [← hy] at hxo hxl
      have HY := hid hy
      clear hy
      go_wp2_with fail
      go_loopg [3, 17] 8 (fun k xv jv wx => ∃ (j z : Nat), jv = .int .i64 (j : Nat) ∧ xv = .int .u32 (z : Nat) ∧ z < 4294967296 ∧ crcN 8 y = crcN (8 - j) z ∧ j ≤ 8 ∧ wx = wr ∧ k = 8 - j)
      case atStart => exact ⟨0, y, rfl, by first | rfl | simp, hxl, rfl, by omega, rfl, rfl⟩
      case round =>
        obtain ⟨j, z, rfl, rfl, hz, hcr, hj, rfl, rfl⟩ := hrel
        have HCR := hid hcr
        clear hcr
        by_cases hj8 : j < 8
        · have hjj : (j : Int) < 8 := by omega
          have hand := u32_and_nat z 1 hz (by decide)
          rw [Nat.and_one_is_mod] at hand
          obtain ⟨q, hq⟩ : ∃ q, q = z / 2 := ⟨_, rfl⟩
          have hs2 : (z : Int) / 2 = (q : Int) := by rw [hq]; omega
          have hxp := u32_xor_nat q 3988292384 (by omega) (by decide)
          obtain ⟨r, hr⟩ : ∃ r, r = q ^^^ 3988292384 := ⟨_, rfl⟩
          rw [← hr] at hxp
          have hxp1 : bits .xor .u32 (q : Int) 3988292384 = (r : Int) := hxp
          clear hxp
          have hnext : crcN 8 y = crcN (8 - (j + 1)) (crcBit z) := by
            rw [HCR.out, show 8 - j = (8 - (j + 1)) + 1 by omega, crcN]
          have hcl := crcBit_lt hz
          by_cases hb : z % 2 = 1
          · rw [hb] at hand
            have hand1 : bits .and .u32 (z : Int) 1 = 1 := hand
            rw [crcBit_eq, if_pos hb, ← hq, ← hr] at hnext hcl
            have HN := hid hnext
            clear hnext hq hr hb hand
            go_wp2
            go_roundg (8 - (j + 1))
            case measure => omega
            case rel => exact ⟨j + 1, r, by go_num, by first | rfl | simp, hcl, HN.out, by omega, rfl, rfl⟩
          · have hb0 : z % 2 = 0 := by omega
            rw [hb0] at hand
            have hand1 : bits .and .u32 (z : Int) 1 = 0 := hand
            rw [crcBit_eq, if_neg hb, ← hq] at hnext hcl
            have HN := hid hnext
            clear hnext hq hr hb hb0 hand hxp1
            go_wp2
            go_roundg (8 - (j + 1))
            case measure => omega
            case rel => exact ⟨j + 1, q, by go_num, by first | rfl | simp, hcl, HN.out, by omega, rfl, rfl⟩
        · have hjj : ¬ (j : Int) < 8 := by omega
          obtain rfl : j = 8 := by omega
          have hcz : crcN 8 y = z := by rw [HCR.out, Nat.sub_self, crcN]
          have hRz : R = crcE z t := by rw [HRR.out, crcE_cons, ← HY.out, hcz]
          have HRZ := hid hRz
          clear hcz hRz
          go_wp2
          go_roundg t.length
          case measure => simp
          case rel => exact ⟨i + 1, z, t, by go_num, rfl, hz, HA.out.tail, HRZ.out, rfl, rfl⟩
end Go.Proofs.YtihdndaibmgoiaaGreatDoor.Pz
/-
  reference 10: Sum64 and Crc32 (printed by gen/crcr.py out of BkA).
-/
namespace Go.Proofs.YtihdndaibmgoiaaGreatDoor.Pz
open Go.RowKit
set_option maxRecDepth 100000 in
set_option maxHeartbeats 2000000 in
theorem sum64R_fn (s : Str) (hs : s.length ≤ 1000000) (w : World) : Calls Tryz.prog 27 #[.string ⟨s.toArray⟩] w fun e w' => e = .returned (.int .u64 (hashE 14695981039346656037 s : Nat)) ∧ w' = w := by
  have hsz : (⟨s.toArray⟩ : ByteArray).size = s.length := Lib.size_mk _
  obtain ⟨R, hR⟩ : ∃ R, R = hashE 14695981039346656037 s := ⟨_, rfl⟩
  rw [← hR]
  have HR := hid hR
  clear hR
  go_enter Tryz.func27, Tryz.ntmps27
  go_wp2_with fail
  go_loopg [3, 7] s.length (fun k xv iv wr => ∃ (i x : Nat) (l : Str), iv = .int .i64 (i : Nat) ∧ xv = .int .u64 (x : Nat) ∧ x < 18446744073709551616 ∧ At s l i ∧ R = hashE x l ∧ wr = w ∧ k = l.length)
  case atStart => exact ⟨0, _, s, rfl, rfl, by decide, At.start s, HR.out, rfl, rfl⟩
  case round =>
    obtain ⟨i, x, l, rfl, rfl, hx, ha, hr, rfl, rfl⟩ := hrel
    have hlen := ha.len
    have HA := hid ha
    have HRR := hid hr
    clear ha hr
    cases l with
    | nil =>
      have hie : ¬ (i : Int) < (s.length : Int) := by simp at hlen; omega
      go_wp2
      go_ret
      exact ⟨by rw [HRR.out]; rfl, rfl⟩
    | cons c t =>
      have hlt := HA.out.lt
      have hib := HA.out.byte
      have hii : (i : Int) < (s.length : Int) := by omega
      have hxl := xor64_lt c hx
      have hxo := u64_xor_nat x c.toNat hx (by have := c.toNat_lt; omega)
      have hcw : IntKind.u64.wrap (c.toNat : Int) = (c.toNat : Int) := by
        have := c.toNat_lt
        rw [IntKind.wrap_u64]; omega
      obtain ⟨y, hy⟩ : ∃ y, y = x ^^^ c.toNat := ⟨_, rfl⟩
      rw [← hy] at hxo hxl
      have hmul : IntKind.u64.wrap ((y : Int) * 1099511628211) = ((y * 1099511628211 % 18446744073709551616 : Nat) : Int) := by
        rw [IntKind.wrap_u64]; omega
      have HY := hid hy
      clear hy
      go_wp2
      go_roundg t.length
      case measure => simp
      case rel => exact ⟨i + 1, y * 1099511628211 % 18446744073709551616, t, by go_num, congrArg (Value.int .u64) (by omega), Nat.mod_lt _ (by decide), HA.out.tail, by rw [HRR.out, HY.out]; rfl, rfl, rfl⟩
set_option maxRecDepth 100000 in
set_option maxHeartbeats 2000000 in
theorem crc32R_fn (s : Str) (hs : s.length ≤ 1000000) (w : World) : Calls Tryz.prog 25 #[.string ⟨s.toArray⟩] w fun e w' => e = .returned (.int .i64 (4294967295 - (crcE 4294967295 s : Nat))) ∧ w' = w := by
  have hsz : (⟨s.toArray⟩ : ByteArray).size = s.length := Lib.size_mk _
  obtain ⟨R, hR⟩ : ∃ R, R = crcE 4294967295 s := ⟨_, rfl⟩
  have hRl : R < 4294967296 := by rw [hR]; exact crcE_lt _ (by decide)
  rw [← hR]
  have HR := hid hR
  clear hR
  go_enter Tryz.func25, Tryz.ntmps25
  go_wp2_with fail
  go_loopg [3, 8] s.length (fun k xv iv wr => ∃ (i x : Nat) (l : Str), iv = .int .i64 (i : Nat) ∧ xv = .int .u32 (x : Nat) ∧ x < 4294967296 ∧ At s l i ∧ R = crcE x l ∧ wr = w ∧ k = l.length)
  case atStart => exact ⟨0, _, s, rfl, rfl, by decide, At.start s, HR.out, rfl, rfl⟩
  case round =>
    obtain ⟨i, x, l, rfl, rfl, hx, ha, hr, rfl, rfl⟩ := hrel
    have hlen := ha.len
    have HA := hid ha
    have HRR := hid hr
    clear ha hr
    cases l with
    | nil =>
      have hie : ¬ (i : Int) < (s.length : Int) := by simp at hlen; omega
      have hxR : x = R := by rw [HRR.out]; rfl
      subst hxR
      have hnot := not_u32c x hx
      have hcv : IntKind.i64.wrap (4294967295 - (x : Int)) = 4294967295 - (x : Int) := IntWalk.i64_in _ (by omega)
      go_wp2
      go_ret
      exact ⟨rfl, rfl⟩
    | cons c t =>
      have hlt := HA.out.lt
      have hib := HA.out.byte
      have hii : (i : Int) < (s.length : Int) := by omega
      have hxl := xor8_lt c hx
      have hxo := u32_xor_nat x c.toNat hx (by have := c.toNat_lt; omega)
      have hcw : IntKind.u32.wrap (c.toNat : Int) = (c.toNat : Int) := by
        have := c.toNat_lt
        rw [IntKind.wrap_u32]; omega
      obtain ⟨y, hy⟩ : ∃ y, y = x ^^^ c.toNat := ⟨_, rfl⟩
      rw [← hy] at hxo hxl
      have HY := hid hy
      clear hy
      go_wp2_with fail
      go_loopg [3, 17] 8 (fun k xv jv wx => ∃ (j z : Nat), jv = .int .i64 (j : Nat) ∧ xv = .int .u32 (z : Nat) ∧ z < 4294967296 ∧ crcN 8 y = crcN (8 - j) z ∧ j ≤ 8 ∧ wx = wr ∧ k = 8 - j)
      case atStart => exact ⟨0, y, rfl, by first | rfl | simp, hxl, rfl, by omega, rfl, rfl⟩
      case round =>
        obtain ⟨j, z, rfl, rfl, hz, hcr, hj, rfl, rfl⟩ := hrel
        have HCR := hid hcr
        clear hcr
        by_cases hj8 : j < 8
        · have hjj : (j : Int) < 8 := by omega
          have hand := u32_and_nat z 1 hz (by decide)
          rw [Nat.and_one_is_mod] at hand
          obtain ⟨q, hq⟩ : ∃ q, q = z / 2 := ⟨_, rfl⟩
          have hs2 : (z : Int) / 2 = (q : Int) := by rw [hq]; omega
          have hxp := u32_xor_nat q 3988292384 (by omega) (by decide)
          obtain ⟨r, hr⟩ : ∃ r, r = q ^^^ 3988292384 := ⟨_, rfl⟩
          rw [← hr] at hxp
          have hxp1 : bits .xor .u32 (q : Int) 3988292384 = (r : Int) := hxp
          clear hxp
          have hnext : crcN 8 y = crcN (8 - (j + 1)) (crcBit z) := by
            rw [HCR.out, show 8 - j = (8 - (j + 1)) + 1 by omega, crcN]
          have hcl := crcBit_lt hz
          by_cases hb : z % 2 = 1
          · rw [hb] at hand
            have hand1 : bits .and .u32 (z : Int) 1 = 1 := hand
            rw [crcBit_eq, if_pos hb, ← hq, ← hr] at hnext hcl
            have HN := hid hnext
            clear hnext hq hr hb hand
            go_wp2
            go_roundg (8 - (j + 1))
            case measure => omega
            case rel => exact ⟨j + 1, r, by go_num, by first | rfl | simp, hcl, HN.out, by omega, rfl, rfl⟩
          · have hb0 : z % 2 = 0 := by omega
            rw [hb0] at hand
            have hand1 : bits .and .u32 (z : Int) 1 = 0 := hand
            rw [crcBit_eq, if_neg hb, ← hq] at hnext hcl
            have HN := hid hnext
            clear hnext hq hr hb hb0 hand hxp1
            go_wp2
            go_roundg (8 - (j + 1))
            case measure => omega
            case rel => exact ⟨j + 1, q, by go_num, by first | rfl | simp, hcl, HN.out, by omega, rfl, rfl⟩
        · have hjj : ¬ (j : Int) < 8 := by omega
          obtain rfl : j = 8 := by omega
          have hcz : crcN 8 y = z := by rw [HCR.out, Nat.sub_self, crcN]
          have hRz : R = crcE z t := by rw [HRR.out, crcE_cons, ← HY.out, hcz]
          have HRZ := hid hRz
          clear hcz hRz
          go_wp2
          go_roundg t.length
          case measure => simp
          case rel => exact ⟨i + 1, z, t, by go_num, rfl, hz, HA.out.tail, HRZ.out, rfl, rfl⟩
end Go.Proofs.YtihdndaibmgoiaaGreatDoor.Pz
/-
  binary: code points (plain).
-/
namespace Go.Proofs.YtihdndaibmgoiaaGreatDoor.Pz
/-- so many bytes that go on, each with six bits -/
def contE : Nat → Nat → Str → Option Nat
  | 0, v, _ => some v
  | _ + 1, _, [] => none
  | k + 1, v, c :: t => if c.toNat / 64 = 2 then contE k (v * 64 + c.toNat % 64) t else none
def codedB (v : Int) : Bool := decide (0 ≤ v) && decide (v ≤ 1114111) && (decide (v < 55296) || decide (57343 < v))
def finP (k least : Nat) : Option Nat → Nat × Nat
  | none => (0, 0)
  | some v => if v < least then (0, 0) else if codedB v then (v, k) else (0, 0)
/-- the code point at the beginning, and how many bytes it takes; 0 bytes if there is none -/
def pointE : Str → Nat × Nat
  | [] => (0, 0)
  | c :: t => if c.toNat < 128 then (c.toNat, 1)
    else if 192 ≤ c.toNat ∧ c.toNat < 224 then finP 2 128 (contE 1 (c.toNat % 32) t)
    else if 224 ≤ c.toNat ∧ c.toNat < 240 then finP 3 2048 (contE 2 (c.toNat % 16) t)
    else if 240 ≤ c.toNat ∧ c.toNat < 248 then finP 4 65536 (contE 3 (c.toNat % 8) t)
    else (0, 0)
theorem codedB_iff (v : Nat) : codedB (v : Int) = true ↔ v ≤ 1114111 ∧ (v < 55296 ∨ 57343 < v) := by
  unfold codedB
  simp only [Bool.and_eq_true, Bool.or_eq_true, decide_eq_true_eq]
  omega
theorem finP_none (k least : Nat) : finP k least none = (0, 0) := rfl
theorem finP_some (k least v : Nat) : finP k least (some v) = if least ≤ v ∧ v ≤ 1114111 ∧ (v < 55296 ∨ 57343 < v) then (v, k) else (0, 0) := by
  show (if v < least then (0, 0) else if codedB (v : Int) then (v, k) else (0, 0)) = _
  by_cases h1 : v < least
  · rw [if_pos h1, if_neg (by omega)]
  · rw [if_neg h1]
    by_cases h2 : codedB v = true
    · rw [if_pos h2, if_pos (by have := (codedB_iff v).1 h2; omega)]
    · rw [if_neg h2, if_neg (fun h => h2 ((codedB_iff v).2 h.2))]
def pairB (p : Nat × Nat) : Nat × Nat := if p.1 = 65533 ∧ p.2 = 1 then (0, 0) else p
theorem pairB_eq (p : Nat × Nat) : (if p = (65533, 1) then (0, 0) else p) = pairB p := by
  obtain ⟨a, b⟩ := p
  unfold pairB
  by_cases h : a = 65533 ∧ b = 1
  · rw [if_pos h, if_pos (by rw [h.1, h.2])]
  · rw [if_neg h, if_neg (fun e => h (by cases e; exact ⟨rfl, rfl⟩))]
theorem pairB_bad : pairB (65533, 1) = (0, 0) := rfl
theorem pairB_good {a b : Nat} (h : b ≠ 1 ∨ a < 128) : pairB (a, b) = (a, b) := by
  unfold pairB
  rw [if_neg (by omega)]
theorem pairB_if (c : Prop) [Decidable c] (x y : Nat × Nat) : pairB (if c then x else y) = if c then pairB x else pairB y := by split <;> rfl
/-- it is the model's own, where that finds one -/
theorem pointE_eq (l : Str) (hl : l ≠ []) : pointE l = if Lib.decodeL l = (65533, 1) then (0, 0) else Lib.decodeL l := by
  cases l with
  | nil => exact absurd rfl hl
  | cons c t =>
    rw [pairB_eq, Lib.decodeL_N]
    have hc := c.toNat_lt
    simp only [List.length_cons, List.getD_cons_zero, List.getD_cons_succ]
    unfold Lib.decodeN pointE
    simp only [pairB_if, pairB_bad]
    generalize c.toNat = a at *
    by_cases h1 : a < 128
    · rw [if_pos h1, if_pos h1, pairB_good (.inr h1)]
    rw [if_neg h1, if_neg h1]
    by_cases h2 : 192 ≤ a ∧ a < 224
    · rw [if_pos h2]
      match t with
      | [] => rw [if_neg (show ¬ (a / 32 = 6 ∧ _) from fun h => absurd h.2.1 (by simp)), if_neg (show ¬ (a / 16 = 14 ∧ _) from fun h => by have := h.1; omega), if_neg (show ¬ (a / 8 = 30 ∧ _) from fun h => by have := h.1; omega)]; rfl
      | x :: t =>
        simp only [List.getD_cons_zero, List.length_cons]
        rw [show contE 1 (a % 32) (x :: t) = if x.toNat / 64 = 2 then some (a % 32 * 64 + x.toNat % 64) else none from rfl]
        have hx := x.toNat_lt
        generalize x.toNat = b at *
        by_cases hb : b / 64 = 2
        · rw [if_pos hb, if_pos (show a / 32 = 6 ∧ 1 < t.length + 1 + 1 ∧ b / 64 = 2 from ⟨by omega, by omega, hb⟩), finP_some, pairB_good (.inl (by decide))]
          by_cases hv : a % 32 * 64 + b % 64 ≥ 128
          · rw [if_pos hv, if_pos (by omega)]
          · rw [if_neg hv, if_neg (by omega)]
        · rw [if_neg hb, finP_none, if_neg (show ¬ (a / 32 = 6 ∧ _) from fun h => hb h.2.2), if_neg (show ¬ (a / 16 = 14 ∧ _) from fun h => by have := h.1; omega), if_neg (show ¬ (a / 8 = 30 ∧ _) from fun h => by have := h.1; omega)]
    rw [if_neg h2, if_neg (show ¬ (a / 32 = 6 ∧ _) from fun h => h2 (by have := h.1; omega))]
    by_cases h3 : 224 ≤ a ∧ a < 240
    · rw [if_pos h3]
      match t with
      | [] => rw [if_neg (show ¬ (a / 16 = 14 ∧ _) from fun h => absurd h.2.1.1 (by simp)), if_neg (show ¬ (a / 8 = 30 ∧ _) from fun h => by have := h.1; omega)]; rfl
      | [x] =>
        rw [show contE 2 (a % 16) [x] = if x.toNat / 64 = 2 then none else none from rfl, if_neg (show ¬ (a / 16 = 14 ∧ _) from fun h => absurd h.2.2.1 (by simp)), if_neg (show ¬ (a / 8 = 30 ∧ _) from fun h => by have := h.1; omega)]
        split <;> rfl
      | x :: y :: t =>
        simp only [List.getD_cons_zero, List.getD_cons_succ, List.length_cons]
        rw [show contE 2 (a % 16) (x :: y :: t) = if x.toNat / 64 = 2 then (if y.toNat / 64 = 2 then some ((a % 16 * 64 + x.toNat % 64) * 64 + y.toNat % 64) else none) else none from rfl]
        have hx := x.toNat_lt
        have hy := y.toNat_lt
        generalize x.toNat = b at *
        generalize y.toNat = d at *
        by_cases hb : b / 64 = 2
        · by_cases hd : d / 64 = 2
          · rw [if_pos hb, if_pos hd, if_pos (show a / 16 = 14 ∧ (1 < t.length + 1 + 1 + 1 ∧ b / 64 = 2) ∧ 2 < t.length + 1 + 1 + 1 ∧ d / 64 = 2 from ⟨by omega, ⟨by omega, hb⟩, by omega, hd⟩), finP_some, pairB_good (.inl (by decide)), show (a % 16 * 64 + b % 64) * 64 + d % 64 = a % 16 * 4096 + b % 64 * 64 + d % 64 by omega]
            by_cases hv : a % 16 * 4096 + b % 64 * 64 + d % 64 ≥ 2048 ∧ (a % 16 * 4096 + b % 64 * 64 + d % 64 < 55296 ∨ (57344 ≤ a % 16 * 4096 + b % 64 * 64 + d % 64 ∧ a % 16 * 4096 + b % 64 * 64 + d % 64 ≤ 1114111))
            · rw [if_pos hv, if_pos (by omega)]
            · rw [if_neg hv, if_neg (by omega)]
          · rw [if_pos hb, if_neg hd, finP_none, if_neg (show ¬ (a / 16 = 14 ∧ _) from fun h => hd h.2.2.2), if_neg (show ¬ (a / 8 = 30 ∧ _) from fun h => by have := h.1; omega)]
        · rw [if_neg hb, finP_none, if_neg (show ¬ (a / 16 = 14 ∧ _) from fun h => hb h.2.1.2), if_neg (show ¬ (a / 8 = 30 ∧ _) from fun h => by have := h.1; omega)]
    rw [if_neg h3, if_neg (show ¬ (a / 16 = 14 ∧ _) from fun h => h3 (by have := h.1; omega))]
    by_cases h4 : 240 ≤ a ∧ a < 248
    · rw [if_pos h4]
      match t with
      | [] => rw [if_neg (show ¬ (a / 8 = 30 ∧ _) from fun h => absurd h.2.1.1 (by simp))]; rfl
      | [x] =>
        rw [show contE 3 (a % 8) [x] = if x.toNat / 64 = 2 then none else none from rfl, if_neg (show ¬ (a / 8 = 30 ∧ _) from fun h => absurd h.2.2.1.1 (by simp))]
        split <;> rfl
      | [x, y] =>
        rw [show contE 3 (a % 8) [x, y] = if x.toNat / 64 = 2 then (if y.toNat / 64 = 2 then none else none) else none from rfl, if_neg (show ¬ (a / 8 = 30 ∧ _) from fun h => absurd h.2.2.2.1 (by simp))]
        split
        · split <;> rfl
        · rfl
      | x :: y :: z :: t =>
        simp only [List.getD_cons_zero, List.getD_cons_succ, List.length_cons]
        rw [show contE 3 (a % 8) (x :: y :: z :: t) = if x.toNat / 64 = 2 then (if y.toNat / 64 = 2 then (if z.toNat / 64 = 2 then some (((a % 8 * 64 + x.toNat % 64) * 64 + y.toNat % 64) * 64 + z.toNat % 64) else none) else none) else none from rfl]
        have hx := x.toNat_lt
        have hy := y.toNat_lt
        have hz := z.toNat_lt
        generalize x.toNat = b at *
        generalize y.toNat = d at *
        generalize z.toNat = e at *
        by_cases hb : b / 64 = 2
        · by_cases hd : d / 64 = 2
          · by_cases he : e / 64 = 2
            · rw [if_pos hb, if_pos hd, if_pos he, if_pos (show a / 8 = 30 ∧ (1 < t.length + 1 + 1 + 1 + 1 ∧ b / 64 = 2) ∧ (2 < t.length + 1 + 1 + 1 + 1 ∧ d / 64 = 2) ∧ 3 < t.length + 1 + 1 + 1 + 1 ∧ e / 64 = 2 from ⟨by omega, ⟨by omega, hb⟩, ⟨by omega, hd⟩, by omega, he⟩), finP_some, pairB_good (.inl (by decide)), show ((a % 8 * 64 + b % 64) * 64 + d % 64) * 64 + e % 64 = a % 8 * 262144 + b % 64 * 4096 + d % 64 * 64 + e % 64 by omega]
              by_cases hv : a % 8 * 262144 + b % 64 * 4096 + d % 64 * 64 + e % 64 ≥ 65536 ∧ (a % 8 * 262144 + b % 64 * 4096 + d % 64 * 64 + e % 64 < 55296 ∨ (57344 ≤ a % 8 * 262144 + b % 64 * 4096 + d % 64 * 64 + e % 64 ∧ a % 8 * 262144 + b % 64 * 4096 + d % 64 * 64 + e % 64 ≤ 1114111))
              · rw [if_pos hv, if_pos (by omega)]
              · rw [if_neg hv, if_neg (by omega)]
            · rw [if_pos hb, if_pos hd, if_neg he, finP_none, if_neg (show ¬ (a / 8 = 30 ∧ _) from fun h => he h.2.2.2.2)]
          · rw [if_pos hb, if_neg hd, finP_none, if_neg (show ¬ (a / 8 = 30 ∧ _) from fun h => hd h.2.2.1.2)]
        · rw [if_neg hb, finP_none, if_neg (show ¬ (a / 8 = 30 ∧ _) from fun h => hb h.2.1.2)]
    rw [if_neg h4, if_neg (show ¬ (a / 8 = 30 ∧ _) from fun h => h4 (by have := h.1; omega))]
/-- a code point's bytes -/
def encE (v : Nat) : Str :=
  if v < 128 then [UInt8.ofNat v] else if v < 2048 then [UInt8.ofNat (192 + v / 64), UInt8.ofNat (128 + v % 64)]
  else if v < 65536 then [UInt8.ofNat (224 + v / 4096), UInt8.ofNat (128 + v / 64 % 64), UInt8.ofNat (128 + v % 64)]
  else [UInt8.ofNat (240 + v / 262144), UInt8.ofNat (128 + v / 4096 % 64), UInt8.ofNat (128 + v / 64 % 64), UInt8.ofNat (128 + v % 64)]
theorem encE_len (v : Nat) : 1 ≤ (encE v).length ∧ (encE v).length ≤ 4 := by
  unfold encE
  split
  · simp
  · split
    · simp
    · split <;> simp
theorem ofNat_lt {n : Nat} (h : n < 256) : (UInt8.ofNat n).toNat = n := by
  rw [UInt8.toNat_ofNat']
  exact Nat.mod_eq_of_lt h
theorem point_enc (v : Nat) (hv : codedB v = true) (t : Str) : pointE (encE v ++ t) = (v, (encE v).length) := by
  have hc := (codedB_iff v).1 hv
  unfold encE
  by_cases h1 : v < 128
  · rw [if_pos h1]
    show (if (UInt8.ofNat v).toNat < 128 then _ else _) = _
    rw [ofNat_lt (by omega), if_pos h1]
    rfl
  rw [if_neg h1]
  by_cases h2 : v < 2048
  · rw [if_pos h2]
    simp only [List.cons_append, List.nil_append, pointE, contE, List.length_cons, List.length_nil]
    rw [ofNat_lt (show 192 + v / 64 < 256 by omega), ofNat_lt (show 128 + v % 64 < 256 by omega), if_neg (by omega), if_pos (by omega), if_pos (by omega), finP_some,
      show (192 + v / 64) % 32 * 64 + (128 + v % 64) % 64 = v by omega, if_pos (by omega)]
  rw [if_neg h2]
  by_cases h3 : v < 65536
  · rw [if_pos h3]
    simp only [List.cons_append, List.nil_append, pointE, contE, List.length_cons, List.length_nil]
    rw [ofNat_lt (show 224 + v / 4096 < 256 by omega), ofNat_lt (show 128 + v / 64 % 64 < 256 by omega), ofNat_lt (show 128 + v % 64 < 256 by omega), if_neg (by omega), if_neg (by omega), if_pos (by omega), if_pos (by omega), if_pos (by omega), finP_some,
      show ((224 + v / 4096) % 16 * 64 + (128 + v / 64 % 64) % 64) * 64 + (128 + v % 64) % 64 = v by omega, if_pos (by omega)]
  rw [if_neg h3]
  simp only [List.cons_append, List.nil_append, pointE, contE, List.length_cons, List.length_nil]
  rw [ofNat_lt (show 240 + v / 262144 < 256 by omega), ofNat_lt (show 128 + v / 4096 % 64 < 256 by omega), ofNat_lt (show 128 + v / 64 % 64 < 256 by omega), ofNat_lt (show 128 + v % 64 < 256 by omega), if_neg (by omega), if_neg (by omega), if_neg (by omega), if_pos (by omega), if_pos (by omega), if_pos (by omega), if_pos (by omega), finP_some,
    show (((240 + v / 262144) % 8 * 64 + (128 + v / 4096 % 64) % 64) * 64 + (128 + v / 64 % 64) % 64) * 64 + (128 + v % 64) % 64 = v by omega, if_pos (by omega)]
theorem contE_some : ∀ (k v : Nat) (t : Str) (r : Nat), contE k v t = some r → k ≤ t.length ∧ v * 64 ^ k ≤ r ∧ r < (v + 1) * 64 ^ k
  | 0, v, t, r, h => by
    rw [contE] at h
    cases h
    simp
  | k + 1, v, [], r, h => by rw [contE] at h; cases h
  | k + 1, v, c :: t, r, h => by
    rw [contE] at h
    split at h
    · obtain ⟨h1, h2, h3⟩ := contE_some k _ t r h
      have hm := Nat.mod_lt c.toNat (show 0 < 64 by decide)
      refine ⟨by simpa using h1, ?_, ?_⟩
      · rw [Nat.pow_succ, Nat.mul_comm (64 ^ k) 64, ← Nat.mul_assoc]
        exact Nat.le_trans (Nat.mul_le_mul_right _ (by omega)) h2
      · rw [Nat.pow_succ, Nat.mul_comm (64 ^ k) 64, ← Nat.mul_assoc]
        exact Nat.lt_of_lt_of_le h3 (Nat.mul_le_mul_right _ (by omega))
    · cases h
/-- what was found is written so -/
theorem enc_point {l : Str} (h : (pointE l).2 ≠ 0) : codedB (pointE l).1 = true ∧ l = encE (pointE l).1 ++ l.drop (pointE l).2 ∧ (pointE l).2 = (encE (pointE l).1).length := by
  cases l with
  | nil => exact absurd rfl h
  | cons c t =>
    have hc := c.toNat_lt
    have back : ∀ (x : UInt8) (n : Nat), x.toNat = n → UInt8.ofNat n = x := fun x n e => by rw [← e, UInt8.ofNat_toNat]
    by_cases h1 : c.toNat < 128
    · have e : pointE (c :: t) = (c.toNat, 1) := by rw [pointE, if_pos h1]
      rw [e]
      refine ⟨(codedB_iff _).2 (by omega), ?_, ?_⟩
      · show _ = encE c.toNat ++ t
        unfold encE
        rw [if_pos h1, UInt8.ofNat_toNat]
        rfl
      · show 1 = (encE c.toNat).length
        unfold encE
        rw [if_pos h1]
        rfl
    by_cases h2 : 192 ≤ c.toNat ∧ c.toNat < 224
    · have e : pointE (c :: t) = finP 2 128 (contE 1 (c.toNat % 32) t) := by rw [pointE, if_neg h1, if_pos h2]
      rw [e] at h ⊢
      cases hr : contE 1 (c.toNat % 32) t with
      | none => rw [hr] at h; exact absurd rfl h
      | some v =>
        rw [hr] at h
        rw [finP_some] at h ⊢
        by_cases hv : 128 ≤ v ∧ v ≤ 1114111 ∧ (v < 55296 ∨ 57343 < v)
        · rw [if_pos hv]
          match t, hr with
          | x :: t, hr =>
            have hx := x.toNat_lt
            rw [contE] at hr
            split at hr
            · rw [contE] at hr
              have hr := Option.some.inj hr
              refine ⟨(codedB_iff _).2 hv.2, ?_, ?_⟩
              · show c :: x :: t = encE v ++ t
                unfold encE
                rw [if_neg (by omega), if_pos (by omega), back c _ (by omega), back x _ (by omega)]
                rfl
              · show 2 = (encE v).length
                unfold encE
                rw [if_neg (by omega), if_pos (by omega)]
                rfl
            · cases hr
        · rw [if_neg hv] at h; exact absurd rfl h
    by_cases h3 : 224 ≤ c.toNat ∧ c.toNat < 240
    · have e : pointE (c :: t) = finP 3 2048 (contE 2 (c.toNat % 16) t) := by rw [pointE, if_neg h1, if_neg h2, if_pos h3]
      rw [e] at h ⊢
      cases hr : contE 2 (c.toNat % 16) t with
      | none => rw [hr] at h; exact absurd rfl h
      | some v =>
        rw [hr] at h
        rw [finP_some] at h ⊢
        by_cases hv : 2048 ≤ v ∧ v ≤ 1114111 ∧ (v < 55296 ∨ 57343 < v)
        · rw [if_pos hv]
          match t, hr with
          | [x], hr =>
            rw [contE] at hr
            split at hr
            · rw [contE] at hr; cases hr
            · cases hr
          | x :: y :: t, hr =>
            have hx := x.toNat_lt
            have hy := y.toNat_lt
            rw [contE] at hr
            split at hr
            · rw [contE] at hr
              split at hr
              · rw [contE] at hr
                have hr := Option.some.inj hr
                refine ⟨(codedB_iff _).2 hv.2, ?_, ?_⟩
                · show c :: x :: y :: t = encE v ++ t
                  unfold encE
                  rw [if_neg (by omega), if_neg (by omega), if_pos (by omega), back c _ (by omega), back x _ (by omega), back y _ (by omega)]
                  rfl
                · show 3 = (encE v).length
                  unfold encE
                  rw [if_neg (by omega), if_neg (by omega), if_pos (by omega)]
                  rfl
              · cases hr
            · cases hr
        · rw [if_neg hv] at h; exact absurd rfl h
    by_cases h4 : 240 ≤ c.toNat ∧ c.toNat < 248
    · have e : pointE (c :: t) = finP 4 65536 (contE 3 (c.toNat % 8) t) := by rw [pointE, if_neg h1, if_neg h2, if_neg h3, if_pos h4]
      rw [e] at h ⊢
      cases hr : contE 3 (c.toNat % 8) t with
      | none => rw [hr] at h; exact absurd rfl h
      | some v =>
        rw [hr] at h
        rw [finP_some] at h ⊢
        by_cases hv : 65536 ≤ v ∧ v ≤ 1114111 ∧ (v < 55296 ∨ 57343 < v)
        · rw [if_pos hv]
          match t, hr with
          | [x], hr =>
            rw [contE] at hr
            split at hr
            · rw [contE] at hr; cases hr
            · cases hr
          | [x, y], hr =>
            rw [contE] at hr
            split at hr
            · rw [contE] at hr
              split at hr
              · rw [contE] at hr; cases hr
              · cases hr
            · cases hr
          | x :: y :: z :: t, hr =>
            have hx := x.toNat_lt
            have hy := y.toNat_lt
            have hz := z.toNat_lt
            rw [contE] at hr
            split at hr
            · rw [contE] at hr
              split at hr
              · rw [contE] at hr
                split at hr
                · rw [contE] at hr
                  have hr := Option.some.inj hr
                  refine ⟨(codedB_iff _).2 hv.2, ?_, ?_⟩
                  · show c :: x :: y :: z :: t = encE v ++ t
                    unfold encE
                    rw [if_neg (by omega), if_neg (by omega), if_neg (by omega), back c _ (by omega), back x _ (by omega), back y _ (by omega), back z _ (by omega)]
                    rfl
                  · show 4 = (encE v).length
                    unfold encE
                    rw [if_neg (by omega), if_neg (by omega), if_neg (by omega)]
                    rfl
                · cases hr
              · cases hr
            · cases hr
        · rw [if_neg hv] at h; exact absurd rfl h
    · have e : pointE (c :: t) = (0, 0) := by rw [pointE, if_neg h1, if_neg h2, if_neg h3, if_neg h4]
      rw [e] at h
      exact absurd rfl h
/-- the code points of a text -/
def pointsF : Nat → Str → Option (List Nat)
  | _, [] => some []
  | 0, _ :: _ => none
  | k + 1, c :: t => if (pointE (c :: t)).2 = 0 then none else (pointsF k ((c :: t).drop (pointE (c :: t)).2)).map ((pointE (c :: t)).1 :: ·)
theorem pointsF_more : ∀ (n m : Nat) (l : Str), l.length ≤ n → l.length ≤ m → pointsF n l = pointsF m l
  | 0, 0, _, _, _ => rfl
  | 0, m + 1, [], _, _ => rfl
  | n + 1, 0, [], _, _ => rfl
  | n + 1, m + 1, [], _, _ => rfl
  | 0, m + 1, c :: t, h, _ => absurd h (by simp)
  | n + 1, 0, c :: t, _, h => absurd h (by simp)
  | n + 1, m + 1, c :: t, h1, h2 => by
    rw [pointsF, pointsF]
    split
    · rfl
    · rename_i hz
      have hd : ((c :: t).drop (pointE (c :: t)).2).length ≤ t.length := by rw [List.length_drop, List.length_cons]; omega
      have h3 : t.length ≤ n := by simpa using h1
      have h4 : t.length ≤ m := by simpa using h2
      rw [pointsF_more n m _ (by omega) (by omega)]
def pointsE (l : Str) : Option (List Nat) := pointsF l.length l
theorem pointsE_nil : pointsE [] = some [] := rfl
theorem pointsE_step {l : Str} (hl : l ≠ []) : pointsE l = if (pointE l).2 = 0 then none else (pointsE (l.drop (pointE l).2)).map ((pointE l).1 :: ·) := by
  cases l with
  | nil => exact absurd rfl hl
  | cons c t =>
    unfold pointsE
    rw [List.length_cons, pointsF]
    split
    · rfl
    · rename_i hz
      rw [pointsF_more t.length _ _ (by rw [List.length_drop, List.length_cons]; omega) (Nat.le_refl _)]
def encAll : List Nat → Str
  | [] => []
  | v :: l => encE v ++ encAll l
theorem points_enc : ∀ (l : List Nat), (∀ v ∈ l, codedB (v : Nat) = true) → pointsE (encAll l) = some l
  | [], _ => rfl
  | v :: l, h => by
    have hp := point_enc v (h v (List.mem_cons_self ..)) (encAll l)
    have h1 := (encE_len v).1
    rw [encAll, pointsE_step (by intro e; have := congrArg List.length e; rw [List.length_append, List.length_nil] at this; omega), hp, if_neg (by show ¬ (encE v).length = 0; omega)]
    show (pointsE ((encE v ++ encAll l).drop (encE v).length)).map _ = _
    rw [List.drop_left, points_enc l (fun x hx => h x (List.mem_cons_of_mem _ hx))]
    rfl
theorem enc_points : ∀ (n : Nat) (s : Str) (l : List Nat), s.length ≤ n → pointsE s = some l → encAll l = s ∧ ∀ v ∈ l, codedB (v : Nat) = true
  | _, [], l, _, h => by
    rw [pointsE_nil] at h
    cases h
    exact ⟨rfl, fun v hv => absurd hv (by simp)⟩
  | 0, c :: t, l, h, _ => absurd h (by simp)
  | n + 1, c :: t, l, hn, h => by
    rw [pointsE_step (by simp)] at h
    split at h
    · cases h
    · rename_i hz
      obtain ⟨h1, h2, h3⟩ := enc_point hz
      cases hr : pointsE ((c :: t).drop (pointE (c :: t)).2) with
      | none => rw [hr] at h; cases h
      | some m =>
        rw [hr] at h
        have h := Option.some.inj h
        have hd : ((c :: t).drop (pointE (c :: t)).2).length ≤ n := by rw [List.length_drop]; omega
        obtain ⟨e1, e2⟩ := enc_points n _ m hd hr
        rw [← h]
        refine ⟨?_, fun v hv => ?_⟩
        · show encE (pointE (c :: t)).1 ++ encAll m = _
          rw [e1, ← h2]
        · rcases List.mem_cons.1 hv with rfl | hv
          · exact h1
          · exact e2 v hv
/-- the model's check says whether there are code points -/
theorem validD_points : ∀ (n : Nat) (s : Str), s.length ≤ n → ∀ k, s.length ≤ k → Lib.validGoD k s = (pointsE s).isSome
  | _, [], _, k, _ => by
    cases k with
    | zero => rfl
    | succ k => rw [Lib.validGoD, if_pos rfl]; rfl
  | 0, c :: t, h, _, _ => absurd h (by simp)
  | n + 1, c :: t, hn, 0, hk => absurd hk (by simp)
  | n + 1, c :: t, hn, k + 1, hk => by
    rw [Lib.validGoD, if_neg (by simp), pointsE_step (by simp), pointE_eq _ (by simp)]
    by_cases hd : Lib.decodeL (c :: t) = (65533, 1)
    · rw [if_pos (by rw [hd]; exact ⟨rfl, rfl⟩), if_pos hd]
      rfl
    · have hd2 : ¬ ((Lib.decodeL (c :: t)).1 = 65533 ∧ (Lib.decodeL (c :: t)).2 = 1) := fun h => hd (Prod.ext h.1 h.2)
      have hp := pointE_eq (c :: t) (by simp)
      rw [if_neg hd] at hp
      rw [if_neg hd2, if_neg hd]
      have h0 : (Lib.decodeL (c :: t)).2 ≠ 0 := by
        rw [Lib.decodeL_N]
        unfold Lib.decodeN
        repeat' split
        all_goals simp
      rw [if_neg h0]
      have hl : ((c :: t).drop (Lib.decodeL (c :: t)).2).length ≤ t.length := by rw [List.length_drop, List.length_cons]; omega
      have h3 : t.length ≤ n := by simpa using hn
      have h4 : t.length ≤ k := by simpa using hk
      rw [validD_points n _ (by omega) k (by omega)]
      cases pointsE ((c :: t).drop (Lib.decodeL (c :: t)).2) <;> rfl
theorem valid_points (s : Str) : Lib.validD s = (pointsE s).isSome := validD_points s.length s (Nat.le_refl _) s.length (Nat.le_refl _)
theorem points_len : ∀ (n : Nat) (s : Str) (l : List Nat), s.length ≤ n → pointsE s = some l → l.length ≤ s.length
  | _, [], l, _, h => by
    rw [pointsE_nil] at h
    cases h
    exact Nat.le_refl _
  | 0, c :: t, l, h, _ => absurd h (by simp)
  | n + 1, c :: t, l, hn, h => by
    rw [pointsE_step (by simp)] at h
    split at h
    · cases h
    · rename_i hz
      cases hr : pointsE ((c :: t).drop (pointE (c :: t)).2) with
      | none => rw [hr] at h; cases h
      | some m =>
        rw [hr] at h
        have h := Option.some.inj h
        have hd : ((c :: t).drop (pointE (c :: t)).2).length ≤ t.length := by rw [List.length_drop, List.length_cons]; omega
        have h3 : t.length ≤ n := by simpa using hn
        have := points_len n _ m (by omega) hr
        rw [← h, List.length_cons, List.length_cons]
        omega
theorem points_wide : ∀ (n : Nat) (s : Str) (l : List Nat), s.length ≤ n → pointsE s = some l → (l.length < s.length ↔ ∃ v ∈ l, 127 < v)
  | _, [], l, _, h => by
    rw [pointsE_nil] at h
    cases h
    simp
  | 0, c :: t, l, h, _ => absurd h (by simp)
  | n + 1, c :: t, l, hn, h => by
    rw [pointsE_step (by simp)] at h
    split at h
    · cases h
    · rename_i hz
      obtain ⟨h1, h2, h3⟩ := enc_point hz
      cases hr : pointsE ((c :: t).drop (pointE (c :: t)).2) with
      | none => rw [hr] at h; cases h
      | some m =>
        rw [hr] at h
        have h := Option.some.inj h
        have ht : t.length ≤ n := by simpa using hn
        have hdl : ((c :: t).drop (pointE (c :: t)).2).length = t.length + 1 - (pointE (c :: t)).2 := by rw [List.length_drop, List.length_cons]
        have ih := points_wide n _ m (by omega) hr
        have hle := points_len n _ m (by omega) hr
        have hk1 := (encE_len (pointE (c :: t)).1).1
        have hlen := congrArg List.length h2
        rw [List.length_append, hdl, List.length_cons] at hlen
        rw [← h]
        rw [hdl] at ih hle
        generalize (pointE (c :: t)).1 = v at *
        generalize (pointE (c :: t)).2 = k at *
        have hv : k = 1 ↔ v < 128 := by
          rw [h3]
          unfold encE
          by_cases h9 : v < 128
          · rw [if_pos h9]
            exact ⟨fun _ => h9, fun _ => rfl⟩
          · rw [if_neg h9]
            refine ⟨fun e => absurd e ?_, fun e => absurd e h9⟩
            split
            · exact (by decide : ¬ 2 = 1)
            · split
              · exact (by decide : ¬ 3 = 1)
              · exact (by decide : ¬ 4 = 1)
        simp only [List.length_cons, List.mem_cons, exists_eq_or_imp]
        constructor
        · intro hlt
          by_cases h127 : 127 < v
          · exact .inl h127
          · exact .inr (ih.1 (by have := hv.2 (by omega); omega))
        · rintro (h127 | h9)
          · have : k ≠ 1 := fun e => by have := hv.1 e; omega
            omega
          · have := ih.2 h9
            omega
end Go.Proofs.YtihdndaibmgoiaaGreatDoor.Pz
/-
  Laws 10: BinarySums.
-/
namespace Go.Proofs.YtihdndaibmgoiaaGreatDoor.Pz
open Go.RowKit
attribute [local go_sem] Oper.semAt_some
theorem bytesWorld_free (w : World) (s : ByteArray) (i : Nat) (hi : i < s.size) : (Lib.bytesWorld w 5 s).frozen? ⟨w.heap.size, i, none⟩ = false := by
  unfold World.frozen?
  rw [Lib.bytesWorld_at_new]
  have h : s.size ≤ (Lib.bytesCells w 5 s).size := by
    unfold Lib.bytesCells
    simp only [Array.size_append, Array.size_map]
    have : s.data.size = s.size := rfl
    omega
  simp
  omega
theorem byte_of_wf {n : Int} (h : (Lit.int .u8 n).wf = true) : ∃ y : UInt8, n = (y.toNat : Nat) := by
  simp only [Lit.wf, IntKind.min, IntKind.max, IntKind.signed, IntKind.bits, Bool.and_eq_true] at h
  have h2 : 0 ≤ n ∧ n < 256 := by
    obtain ⟨a, b⟩ := h
    simp at a b
    omega
  refine ⟨UInt8.ofNat n.toNat, ?_⟩
  rw [ofNat_lt (by omega)]
  omega
set_option maxRecDepth 100000 in
set_option maxHeartbeats 4000000 in
theorem binarySums_fn (s : Str) (i : Int) (by0 : UInt8) (w : World) (hs : s.length ≤ 9223372036854775807) (htab : Tab w) :
    Calls Tryz.prog 4 #[.string ⟨s.toArray⟩, .int .i64 i, .int .u8 (by0.toNat : Nat)] w fun e w' => e = .returned (.bool true) ∧ Below w.heap.size w w' := by
  have hsz : (⟨s.toArray⟩ : ByteArray).size = s.length := Lib.size_mk _
  have HA := hid (fun u (hu : Tab u) => awake_fn u hu)
  have HT := hid htab
  clear htab
  by_cases hbig : 1500 < s.length
  · have hbI : (1500 : Int) < (s.length : Int) := by omega
    go_enter Tryz.func4, Tryz.ntmps4
    go_wp2_with (go_at_call 11; refine (HA.out _ HT.out).mono ?_; rintro e w1 ⟨rfl, hb1⟩; have HB1 := hid hb1; clear hb1)
    go_ret
    exact ⟨rfl, HB1.out⟩
  have hbI : ¬ ((1500 : Int) < (s.length : Int)) := by omega
  have HC := hid (fun u => crc32_fn s (by omega) u)
  have HCR := hid (fun u => crc32R_fn s (by omega) u)
  have HS := hid (fun u => sum64_fn s (by omega) u)
  have HSR := hid (fun u => sum64R_fn s (by omega) u)
  obtain ⟨C, hC⟩ : ∃ C : Int, C = 4294967295 - (crcE 4294967295 s : Nat) := ⟨_, rfl⟩
  obtain ⟨H, hH⟩ : ∃ H : Int, H = (hashE 14695981039346656037 s : Nat) := ⟨_, rfl⟩
  rw [← hC] at HC HCR
  rw [← hH] at HS HSR
  have HCC := hid hC
  clear hC hH
  by_cases hin : 0 ≤ i ∧ i < (s.length : Int) ∧ by0 ≠ 0
  · obtain ⟨h0, h1, h2⟩ := hin
    obtain ⟨j, rfl⟩ : ∃ j : Nat, i = (j : Int) := ⟨i.toNat, by omega⟩
    have hj : j < s.length := by omega
    have y0 : ((by0.toNat : Int) == 0) = false := byte_ne 0 h2 rfl
    obtain ⟨x, hx⟩ : ∃ x, x = s[j] := ⟨_, rfl⟩
    obtain ⟨y, hy⟩ : ∃ y, y = x ^^^ by0 := ⟨_, rfl⟩
    have hxy : bits .xor .u8 (x.toNat : Int) (by0.toNat : Int) = ((y.toNat : Nat) : Int) := by
      rw [hy, UInt8.toNat_xor]
      exact u8_xor_nat _ _ x.toNat_lt by0.toNat_lt
    have hyx : y ≠ s[j] := by
      rw [← hx, hy]
      intro h
      apply h2
      have := congrArg (fun z => x ^^^ z) h
      simpa [← UInt8.xor_assoc] using this
    obtain ⟨w1, hw1⟩ : ∃ w1, w1 = Lib.bytesWorld w 5 ⟨s.toArray⟩ := ⟨_, rfl⟩
    have hcv := Lib.run_convert_string_bytes (P := Tryz.prog) w 9 46 5 ⟨s.toArray⟩ Tryz.underlying9 Tryz.underlying46 Tryz.underlying5
    have hcell : ∀ k (h : k < s.length), w1.cell? ⟨w.heap.size, k, none⟩ = some (.int .u8 (s[k].toNat : Nat)) := fun k h => by
      rw [hw1, Lib.bytesWorld_cell _ _ _ _ (by rw [hsz]; exact h)]
      show some (Value.int .u8 ((s.getD k 0).toNat : Nat)) = _
      rw [List.getD_eq_getElem?_getD, List.getElem?_eq_getElem h]
      rfl
    have hb1 : Below w.heap.size w w1 := by rw [hw1]; exact Lib.bytesWorld_below _ _ _
    have hfr : w1.frozen? ⟨w.heap.size, j, none⟩ = false := by rw [hw1]; exact bytesWorld_free w _ j (by rw [hsz]; exact hj)
    have hcj : w1.cell? ⟨w.heap.size, j, none⟩ = some (.int .u8 (x.toNat : Nat)) := by rw [hcell j hj, hx]
    obtain ⟨w2, hw2⟩ : ∃ w2, w2 = w1.setCell ⟨w.heap.size, j, none⟩ (.int .u8 (y.toNat : Nat)) := ⟨_, rfl⟩
    have hb2 : Below w.heap.size w w2 := by rw [hw2]; exact hb1.setCell (by show w.heap.size ≤ w.heap.size; exact Nat.le_refl _) _
    have hcell2 : ∀ k (h : k < (s.set j y).length), w2.cell? ⟨w.heap.size, k, none⟩ = some (.int .u8 ((s.set j y)[k].toNat : Nat)) := fun k h => by
      rw [hw2]
      by_cases hk : k = j
      · subst hk
        rw [World.cell?_setCell_same _ _ _ hcj]
        simp
      · rw [World.cell?_setCell_other _ _ _ _ (by simp), hcell k (by simpa using h), List.getElem_set_ne (fun e => hk e.symm)]
    have hback := run_convert_bytes_back (P := Tryz.prog) w2 46 9 5 ⟨w.heap.size, 0, none⟩ (grownCap w s.length 0 5) (s.set j y) Tryz.underlying46 Tryz.underlying5 Tryz.underlying9 (fun k hk => by rw [add_none, Nat.zero_add]; exact hcell2 k hk)
    rw [List.length_set] at hback
    rw [← hw1, hsz] at hcv
    have HC2 := hid (fun u => crc32_fn (s.set j y) (by rw [List.length_set]; omega) u)
    obtain ⟨D, hD⟩ : ∃ D : Int, D = 4294967295 - (crcE 4294967295 (s.set j y) : Nat) := ⟨_, rfl⟩
    have hne : crcE 4294967295 (s.set j y) ≠ crcE 4294967295 s := crcE_set (by decide) s j hj y hyx
    have hDC : (D == C) = false := by
      rw [beq_eq_false_iff_ne, hD, HCC.out]
      omega
    have hDC2 : (D != C) = true := by simpa using hDC
    rw [← hD] at HC2
    rw [hw2] at hback hb2
    have HB2 := hid hb2
    have hjI : (j : Int) < (s.length : Int) := by omega
    have hj0 : decide (s.length ≤ j) = false := decide_eq_false (by omega)
    obtain ⟨t, ht⟩ : ∃ t, t = s.set j y := ⟨_, rfl⟩
    rw [← ht] at hback HC2
    clear hx hy hyx hw1 hb1 hcell hb2 hcell2 hne hD hw2 ht h2 HCC h0 h1
    go_enter Tryz.func4, Tryz.ntmps4
    go_wp2_with (first | (go_at_call 24; (with_reducible refine (HC.out _).mono ?_); rintro e w' ⟨rfl, rfl⟩) | (go_at_call 24; (with_reducible refine (HC2.out _).mono ?_); rintro e w' ⟨rfl, hw3⟩; have HW3 := hid hw3; clear hw3) | (go_at_call 25; refine (HCR.out _).mono ?_; rintro e w' ⟨rfl, rfl⟩) | (go_at_call 26; refine (HS.out _).mono ?_; rintro e w' ⟨rfl, rfl⟩) | (go_at_call 27; refine (HSR.out _).mono ?_; rintro e w' ⟨rfl, rfl⟩) | (go_at_call 11; rw [HW3.out]; refine (HA.out _ (HT.out.below HB2.out)).mono ?_; rintro e w5 ⟨rfl, hb5⟩; have HB5 := hid (HB2.out.trans (hb5.mono HB2.out.size)); clear hb5))
    go_ret
    exact ⟨rfl, HB5.out⟩
  · have HIN := hid hin
    clear hin
    have fin : ∀ (h : i < 0 ∨ (s.length : Int) ≤ i ∨ by0 = 0), Calls Tryz.prog 4 #[.string ⟨s.toArray⟩, .int .i64 i, .int .u8 (by0.toNat : Nat)] w fun e w' => e = .returned (.bool true) ∧ Below w.heap.size w w' := by
      intro h
      by_cases a1 : i < 0
      · go_enter Tryz.func4, Tryz.ntmps4
        go_wp2_with (first | (go_at_call 24; (with_reducible refine (HC.out _).mono ?_); rintro e w' ⟨rfl, rfl⟩) | (go_at_call 25; refine (HCR.out _).mono ?_; rintro e w' ⟨rfl, rfl⟩) | (go_at_call 26; refine (HS.out _).mono ?_; rintro e w' ⟨rfl, rfl⟩) | (go_at_call 27; refine (HSR.out _).mono ?_; rintro e w' ⟨rfl, rfl⟩) | (go_at_call 11; refine (HA.out _ HT.out).mono ?_; rintro e w5 ⟨rfl, hb5⟩; have HB5 := hid hb5; clear hb5))
        go_ret
        exact ⟨rfl, HB5.out⟩
      · by_cases a2 : (s.length : Int) ≤ i
        · go_enter Tryz.func4, Tryz.ntmps4
          go_wp2_with (first | (go_at_call 24; (with_reducible refine (HC.out _).mono ?_); rintro e w' ⟨rfl, rfl⟩) | (go_at_call 25; refine (HCR.out _).mono ?_; rintro e w' ⟨rfl, rfl⟩) | (go_at_call 26; refine (HS.out _).mono ?_; rintro e w' ⟨rfl, rfl⟩) | (go_at_call 27; refine (HSR.out _).mono ?_; rintro e w' ⟨rfl, rfl⟩) | (go_at_call 11; refine (HA.out _ HT.out).mono ?_; rintro e w5 ⟨rfl, hb5⟩; have HB5 := hid hb5; clear hb5))
          go_ret
          exact ⟨rfl, HB5.out⟩
        · have a3 : ((by0.toNat : Int) == 0) = true := byte_is (d := 0) (by rcases h with h | h | h; exact absurd h a1; exact absurd h a2; exact h) rfl
          clear h
          go_enter Tryz.func4, Tryz.ntmps4
          go_wp2_with (first | (go_at_call 24; (with_reducible refine (HC.out _).mono ?_); rintro e w' ⟨rfl, rfl⟩) | (go_at_call 25; refine (HCR.out _).mono ?_; rintro e w' ⟨rfl, rfl⟩) | (go_at_call 26; refine (HS.out _).mono ?_; rintro e w' ⟨rfl, rfl⟩) | (go_at_call 27; refine (HSR.out _).mono ?_; rintro e w' ⟨rfl, rfl⟩) | (go_at_call 11; refine (HA.out _ HT.out).mono ?_; rintro e w5 ⟨rfl, hb5⟩; have HB5 := hid hb5; clear hb5))
          go_ret
          exact ⟨rfl, HB5.out⟩
    refine fin ?_
    by_cases h1 : i < 0
    · exact .inl h1
    · by_cases h2 : (s.length : Int) ≤ i
      · exact .inr (.inl h2)
      · refine .inr (.inr (Decidable.byContradiction fun h3 => HIN.out ⟨by omega, by omega, h3⟩))
end Go.Proofs.YtihdndaibmgoiaaGreatDoor.Pz
/-
  BinarySums: the row and its card. Condition: the listed package-level variables hold what the row lists (the card ties them to the text).
-/
namespace Go.Proofs.YtihdndaibmgoiaaGreatDoor.binarySums
open Go.ChangeMaps Go.ChangeShapes Go.WideShapes Go.ChangeAt Go.RowKit
theorem own : ownKnob Tryz.prog.godebug = none := by kernel_rfl
theorem ok_true {P : Program} {W' : World} {f : Func} {t : TypeId} (hr : f.resultTypes = #[t]) (ht : P.underlying t = some .bool) :
    ∀ (j : Nat) (t' : TypeId) (r : Value), f.resultTypes[j]? = some t' → ((Value.bool true).resultList f.resultTypes.size)[j]? = some r → Value.okWide P W' .any 0 t' r := ok_one hr rfl (okWide_bool_mk ht true)
section
variable {H : Type} {enc : TypeId × Value → H}
set_option maxRecDepth 100000 in
/-- the row's last step: no place was read, no variable is asked, what lay below is as it was -/
theorem post_below {f : Func} {s : ChangeSpec} {W W' : World} {args : Array Value} {v : Value} {ds gs : List (DataW H)}
    (hW : DataW.Whole enc Tryz.prog f.params.toList s.vars false W args.toList ds gs [])
    (hres : ∀ (b : Nat) (sp : Nat → Bool) (hd : Bool), DataW.TrodAll enc Tryz.prog W' b sp hd f.resultTypes.toList (v.resultList f.resultTypes.size) (s.fn H (ds ++ gs)).results [])
    (hargs : ∀ sp : Nat → Bool, DataW.TrodAll enc Tryz.prog W' 0 sp true f.params.toList args.toList (s.fn H (ds ++ gs)).args [])
    (hvars : ∀ sp : Nat → Bool, DataW.TrodVars enc Tryz.prog W' sp s.vars (s.fn H (ds ++ gs)).vars []) (hb : Below W.heap.size W W')
    (hok : ∀ (j : Nat) (t : TypeId) (r : Value), f.resultTypes[j]? = some t → (v.resultList f.resultTypes.size)[j]? = some r → Value.okWide Tryz.prog W' .any 0 t r) :
    s.post enc Tryz.prog f false true false false W args v W' := by
  refine ⟨ds, gs, [], [], [], [], hW, hres _ _ _, hargs _, hvars _, World.keptBut_mono (fun p hp => ⟨hp, .inr (.inr hp)⟩) (hb.frame (· ∈ ([] : List MemPlace))), fun _ => ?_⟩
  refine ⟨hok, _, _, ([] ++ []) ++ [], ⟨[] ++ [], [], trodAll_append (hargs _) (hres _ _ _), hvars _, rfl, ?_, ?_⟩, ?_⟩
  · intro b off hp
    simp at hp
  · intro h
    cases h
  · intro p hp _
    simp at hp
end
theorem tab_of {W : World} (hl : laidMetH Tryz.prog Rows.binarySumsRow.laid W) : Lib.TabIs Tryz.prog W "internal/strconv.uint64pow10" .u64 Lib.pow10Tab := by
  rw [MakeChecks.laidMetH_plain _ _ _ (by kernel_rfl)] at hl
  have h3 := hl.tail.tail
  have e : (Rows.laid_internal_strconv_uint64pow10 : DataW Unit) = Lib.tabData .u64 Lib.pow10Tab := by kernel_rfl
  have h4 : laidMet Tryz.prog (("internal/strconv.uint64pow10", Lib.tabData .u64 Lib.pow10Tab) :: [("unicode/utf8.acceptRanges", Rows.laid_unicode_utf8_acceptRanges), ("strconv.ErrRange", Rows.laid_strconv_ErrRange), ("strconv.ErrSyntax", Rows.laid_strconv_ErrSyntax), ("unicode/utf8.first", Rows.laid_unicode_utf8_first)]) W := by
    rw [← e]; exact h3
  exact Lib.tabIs_of_head (g := 4) (t := 195) (e := 44) (n := 20) (by kernel_rfl) (by kernel_rfl) (by kernel_rfl) (by kernel_rfl) (by kernel_rfl) (by kernel_rfl) h4
theorem contract (H : Type) (enc : TypeId × Value → H) (W : World) (base : Nat) (args : Array Value) (ds gs : List (DataW H)) (before : List MemPlace)
    (hval : ∀ (j : Nat) t v, Tryz.f4.params[j]? = some t → args[j]? = some v → Value.okWide Tryz.prog W .any base t v)
    (hW : DataW.Whole enc Tryz.prog Tryz.f4.params.toList Rows.binarySumsSpec.vars false W args.toList ds gs before) (hl : laidMetH Tryz.prog Rows.binarySumsRow.laid W) :
    Calls Tryz.prog 4 args W fun e W' => ∃ v, e = .returned v ∧ Rows.binarySumsSpec.post enc Tryz.prog Tryz.f4 false true false false W args v W' := by
  have hW' := hW
  obtain ⟨p, q, hA0, hV, rfl, hfz, hnd⟩ := hW
  have hA : DataW.TrodAll enc Tryz.prog W 0 (fun _ => true) true Tryz.f4.params.toList args.toList ds p := hA0
  rw [Tryz.params4] at hA hval
  obtain ⟨v0, vs0, d0, ds0, p0, q0, hargs, rfl, rfl, h0, r0⟩ := trodAll_cons hA
  obtain ⟨v1, vs1, d1, ds1, p1, q1, rfl, rfl, rfl, h1, r1⟩ := trodAll_cons r0
  obtain ⟨v2, vs2, d2, ds2, p2, q2, rfl, rfl, rfl, h2, r2⟩ := trodAll_cons r1
  obtain ⟨rfl, rfl, rfl⟩ := trodAll_nil r2
  obtain rfl : args = #[v0, v1, v2] := by cases args; simp_all
  obtain ⟨rfl, rfl⟩ := trodVars_none hV
  obtain ⟨s0, rfl, rfl, rfl, m0⟩ := open_string Tryz.underlying9 (by with_reducible exact hval 0 9 v0 (by simp) (by simp)) h0
  obtain ⟨s1, rfl, rfl, rfl, m1⟩ := open_int Tryz.underlying3 (by with_reducible exact hval 1 3 v1 (by simp) (by simp)) h1
  obtain ⟨s2, rfl, rfl, rfl, m2⟩ := open_int Tryz.underlying5 (by with_reducible exact hval 2 5 v2 (by simp) (by simp)) h2
  obtain ⟨y2, rfl⟩ := Pz.byte_of_wf m2
  clear hA0
  simp only [List.append_nil] at hW'
  have e0 : s0 = ⟨s0.data.toList.toArray⟩ := by cases s0; simp
  have q0 : s0.data.toList.length ≤ 9223372036854775807 := by
    have h1 : s0.data.toList.length = s0.size := by rw [Array.length_toList]; rfl
    have h2 := m0
    unfold maxLen at h2
    omega
  have htab := tab_of hl
  have walk := Pz.binarySums_fn s0.data.toList s1 y2 W q0 htab
  rw [← e0] at walk
  refine walk.mono fun e W' ⟨he, hg⟩ => ?_
  subst he
  exact ⟨_, rfl, post_below hW' (fun _ _ _ => trodAll_cons_mk (shut_bool Tryz.underlying4 _) trodAll_mk0) (fun _ => trodAll_cons_mk (shut_string Tryz.underlying9 m0) (trodAll_cons_mk (shut_int Tryz.underlying3 m1) (trodAll_cons_mk (shut_int Tryz.underlying5 m2) trodAll_mk0))) (fun _ => rfl) hg (@ok_true Tryz.prog W' Tryz.f4 4 (by kernel_rfl) Tryz.underlying4)⟩
theorem reads (os : Os) {H : Type} (enc : TypeId × Value → H) : ∃ places, DataW.whole enc Tryz.prog ((World.laidAll Tryz.prog os Rows.binarySumsRow.laid).forCall (fun _ _ => 0) ⟨#[], #[.string .empty, .int .i64 0, .int .u8 0], []⟩).memory Tryz.f4.params.toList Rows.binarySumsSpec.vars false (#[.string .empty, .int .i64 0, .int .u8 0] : Array Value).toList 8 = some ([.lit (.string []), .lit (.int .i64 0), .lit (.int .u8 0)], [], places) :=
  ⟨[], by kernel_rfl⟩
set_option maxRecDepth 100000 in
theorem lifted (os : Os) (started : os.Started) (H : Type) (enc : TypeId × Value → H) (F : Stop.Interp) :
    ReturnsInHanded {} Tryz.checked os 4 .any ((OpenSpec.ofChange Rows.binarySumsSpec).preRow enc Tryz.prog Tryz.f4 Rows.binarySumsRow.domain false Rows.binarySumsRow.laid) (((OpenSpec.ofChange Rows.binarySumsSpec).at F).post enc Tryz.prog Tryz.f4 false true false false) := by
  obtain ⟨places, hx⟩ := reads os enc
  have hl : laidMetH Tryz.prog Rows.binarySumsRow.laid ((World.laidAll Tryz.prog os Rows.binarySumsRow.laid).forCall (fun _ _ => 0) ⟨#[], #[.string .empty, .int .i64 0, .int .u8 0], []⟩).memory := by
    rw [MakeChecks.laidMetH_plain _ _ _ (by kernel_rfl)]
    exact laidMet_laidAll _ (by kernel_rfl) (by kernel_rfl)
  refine returnsInHanded_of_row (C := Tryz.checked) (s := (OpenSpec.ofChange Rows.binarySumsSpec)) own started (by kernel_rfl) Tryz.func4
    (witness_row_at (enc := enc) (C := Tryz.checked) false (World.laidAll Tryz.prog os Rows.binarySumsRow.laid) #[.string .empty, .int .i64 0, .int .u8 0] (World.laidAll_os _ _ _) (by kernel_rfl) (by kernel_rfl) (by kernel_rfl)
      (OpenSpec.preRow_of_cond 8 hx (by kernel_rfl) (fun k hk => by cases hk) (by kernel_rfl) hl)) ?_
  intro W base args ds gs before hval hW _ _ _ hlaid _ _
  exact contract H enc W base args ds gs before hval hW hlaid
theorem said : Rows.BinarySumsSaid :=
  OpenClaim.holds_of_cond 4 Tryz.f4 rfl rfl rfl rfl rfl rfl rfl ⟨rfl, rfl, rfl, rfl, rfl⟩ rfl rfl rfl rfl rfl (by kernel_rfl) Tryz.func4 (by kernel_rfl)
    (of_decide_eq_true (by kernel_rfl)) (by unfold Func.isWrapper; first | (rw [if_pos (by decide +kernel)]; kernel_rfl) | (rw [if_neg (by decide +kernel)]; exact ⟨rfl, rfl⟩))
    (fun os started H enc _ F => by rw [OpenClaim.pre_eq_preRow]; exact lifted os started H enc F)
theorem plain (f : FuncId) (fn : Func) (hf : Tryz.pinned.checked.prog.funcNamed "threadbare/threadbarelaw10.BinarySums" = some f) (hfn : Tryz.pinned.checked.prog.funcs[f]? = some fn) :
    true = Tryz.pinned.checked.prog.looks [] ∧ ∀ (j : Nat) t, fn.params[j]? = some t → Tryz.pinned.checked.prog.wantsStandIn t = false := by
  obtain rfl : f = 4 := Option.some.inj ((show Tryz.prog.funcNamed "threadbare/threadbarelaw10.BinarySums" = some 4 by kernel_rfl).symm.trans hf) |>.symm
  obtain rfl : fn = Tryz.f4 := (Option.some.inj (Tryz.func4.symm.trans hfn)).symm
  refine ⟨by kernel_rfl, fun j t ht => ?_⟩
  rw [Tryz.params4] at ht
  have ht := Array.mem_of_getElem? ht
  simp at ht
  rcases ht with rfl | rfl | rfl
  · exact (show Tryz.prog.wantsStandIn 9 = false by kernel_rfl)
  · exact (show Tryz.prog.wantsStandIn 3 = false by kernel_rfl)
  · exact (show Tryz.prog.wantsStandIn 5 = false by kernel_rfl)
theorem card : Rows.BinarySumsCardSaid :=
  Claim7.holds_tied_plain_at .later [] _ _ _ _ said (fun _ h => by cases h) (by kernel_rfl) (fun _ h => by cases h) binarySums_row_tie rfl ⟨rfl, rfl⟩ (by kernel_rfl) rfl plain (by kernel_rfl)
end Go.Proofs.YtihdndaibmgoiaaGreatDoor.binarySums
