/-
  Part K10 of the proofs of this seat: contracts of functions and plain facts, merged from 1 texts.
-/
import Derived.Test.YtihdndaibmgoiaaGreatDoorK0
import Derived.Test.YtihdndaibmgoiaaGreatDoorK1
import Derived.Test.YtihdndaibmgoiaaGreatDoorK2
import Derived.Test.YtihdndaibmgoiaaGreatDoorK3
import Derived.Test.YtihdndaibmgoiaaGreatDoorK4
import Derived.Test.YtihdndaibmgoiaaGreatDoorK5
import Derived.Test.YtihdndaibmgoiaaGreatDoorK6
import Derived.Test.YtihdndaibmgoiaaGreatDoorK7
import Derived.Test.YtihdndaibmgoiaaGreatDoorK8
import Derived.Test.YtihdndaibmgoiaaGreatDoorK9
/-
  The reference 10: great, spread, Hex.
-/
namespace Go.Proofs.YtihdndaibmgoiaaGreatDoor.Pz
open Go.RowKit
attribute [local go_sem] Oper.semAt_some
def grt (c : UInt8) : Bool := decide (65 ≤ c.toNat) && decide (c.toNat ≤ 90)
theorem great_fn (c : UInt8) (w : World) : Calls Tryz.prog 133 #[.int .u8 (c.toNat : Nat)] w fun e w' => e = .returned (.bool (grt c)) ∧ w' = w := by
  have hcl := c.toNat_lt
  obtain ⟨R, hR⟩ : ∃ R, R = grt c := ⟨_, rfl⟩
  rw [← hR]
  unfold grt at hR
  have HR := hid hR
  clear hR
  generalize c.toNat = d at *
  rcases (show d < 65 ∨ (65 ≤ d ∧ d ≤ 90) ∨ 90 < d by omega) with h | ⟨h, h'⟩ | h
  · have b1 : ¬ ((65 : Int) ≤ (d : Int)) := by omega
    have HRR := hid (show R = false by rw [HR.out]; simp; omega)
    clear h
    go_enter Tryz.func133, Tryz.ntmps133
    go_wp2
    go_ret
    exact ⟨by rw [HRR.out]; rfl, rfl⟩
  · have b1 : (65 : Int) ≤ (d : Int) := by omega
    have b2 : (d : Int) ≤ 90 := by omega
    have HRR := hid (show R = true by rw [HR.out]; simp; omega)
    clear h h'
    go_enter Tryz.func133, Tryz.ntmps133
    go_wp2
    go_ret
    exact ⟨by rw [HRR.out]; rfl, rfl⟩
  · have b1 : (65 : Int) ≤ (d : Int) := by omega
    have b2 : ¬ ((d : Int) ≤ 90) := by omega
    have HRR := hid (show R = false by rw [HR.out]; simp; omega)
    clear h
    go_enter Tryz.func133, Tryz.ntmps133
    go_wp2
    go_ret
    exact ⟨by rw [HRR.out]; rfl, rfl⟩
theorem hexslice (d : Nat) (h : d < 16) : (⟨#[48, 49, 50, 51, 52, 53, 54, 55, 56, 57, 97, 98, 99, 100, 101, 102]⟩ : ByteArray).extract d (d + 1) = ⟨#[hexD d]⟩ :=
  (show ∀ m : Fin 16, (⟨#[48, 49, 50, 51, 52, 53, 54, 55, 56, 57, 97, 98, 99, 100, 101, 102]⟩ : ByteArray).extract m.1 (m.1 + 1) = ⟨#[hexD m.1]⟩ from by decide) ⟨d, h⟩
theorem hexE_at : ∀ (s : Str) (k : Nat) (h : k < (hexE s).length), (hexE s)[k] = if k % 2 = 0 then hexD ((s[k / 2]'(by rw [hexE_len] at h; omega)).toNat / 16) else hexD ((s[k / 2]'(by rw [hexE_len] at h; omega)).toNat % 16)
  | [], k, h => absurd h (Nat.not_lt_zero _)
  | c :: t, 0, h => rfl
  | c :: t, 1, h => rfl
  | c :: t, k + 2, h => by
    have ih := hexE_at t k (by rw [hexE_len] at h ⊢; rw [List.length_cons] at h; omega)
    have e : (hexE (c :: t))[k + 2] = (hexE t)[k]'(by rw [hexE_len] at h ⊢; rw [List.length_cons] at h; omega) := rfl
    rw [e, ih, show (k + 2) % 2 = k % 2 by omega]
    have e2 : (k + 2) / 2 = k / 2 + 1 := by omega
    simp only [e2, List.getElem_cons_succ]
set_option maxRecDepth 1000000 in
set_option maxHeartbeats 8000000 in
theorem spread2_fn (c : UInt8) (p : Bool) (n : Int) (hbits : bitsL c = 4) (hg : grt c = (c == 72 || c == 66)) (s : Str) (hs : s.length ≤ 100000) (N : Nat) (hroom : ∀ i, i < N → i * 4 / 8 < s.length) (hN : N ≤ 800000) (w : World) :
    Calls Tryz.prog 86 #[.agg #[.int .u8 (c.toNat : Nat), .bool p, .int .i64 n], .string ⟨s.toArray⟩, .int .i64 (N : Nat), .int .i64 2] w fun e w' => e = .returned (.string ⟨(tellE c s N).toArray⟩) ∧ Below w.heap.size w w' := by
  have hsz : (⟨s.toArray⟩ : ByteArray).size = s.length := Lib.size_mk _
  obtain ⟨w0, hw0⟩ : ∃ w0, w0 = w.alloc (.cells #[.int .u8 (c.toNat : Nat), .bool p, .int .i64 n] 103) := ⟨_, rfl⟩
  have HC0 := hid (show w0.cell? ⟨w.heap.size, 0, none⟩ = some (.int .u8 (c.toNat : Nat)) by rw [hw0, Lib.cell_of_heap (heap_alloc_new _ _)]; rfl)
  have HB0 := hid (show Below w.heap.size w w0 by rw [hw0]; exact (Below.refl _ _).alloc (Nat.le_refl _) _)
  have HZ0 := hid (show w.heap.size < w0.heap.size by rw [hw0]; simp)
  have HGR := hid (fun u => great_fn c u)
  have HG := hid hg
  have HROOM := hid hroom
  have HBITS := hid hbits
  have HW0 := hid hw0
  obtain ⟨R, hR⟩ : ∃ R, R = tellE c s N := ⟨_, rfl⟩
  rw [← hR]
  have HR := hid hR
  clear hw0 hroom hbits hR hg
  go_enter Tryz.func86, Tryz.ntmps86
  go_wp2
  rw [← HW0.out]
  clear HW0
  go_loopg [9, 14] N (fun k ov iv wr => ∃ (i : Nat) (o : Str), o = tellE c s i ∧ ov = .string ⟨o.toArray⟩ ∧ iv = .int .i64 (i : Nat) ∧ i ≤ N ∧ wr.cell? ⟨w.heap.size, 0, none⟩ = some (.int .u8 (c.toNat : Nat)) ∧ w.heap.size < wr.heap.size ∧ Below w.heap.size w wr ∧ k = N - i)
  case atStart => exact ⟨0, [], rfl, rfl, rfl, Nat.zero_le _, HC0.out, HZ0.out, HB0.out, rfl⟩
  case round =>
    obtain ⟨i, o, hoe, rfl, rfl, hiN, hc0, hz, hbl, rfl⟩ := hrel
    have hol : o.length = i := by rw [hoe]; exact tellE_len _ _ _
    have hosz : (⟨o.toArray⟩ : ByteArray).size = o.length := Lib.size_mk _
    have HOE := hid hoe
    clear hoe
    have HC := hid hc0
    have HZ := hid hz
    have HBL := hid hbl
    clear hz hbl HC0 HZ0 HB0
    rcases Nat.lt_or_ge i N with hlt | hge
    · have hltI : (i : Int) < (N : Int) := by omega
      have hJ : i * 4 / 8 < s.length := HROOM.out i hlt
      obtain ⟨J, hJe⟩ : ∃ J, J = i * 4 / 8 := ⟨_, rfl⟩
      rw [← hJe] at hJ
      have hbyte := (At.here hJ).byte
      have hJs : (J : Int) < (s.length : Int) := by omega
      obtain ⟨x, hx⟩ : ∃ x, x = s[J] := ⟨_, rfl⟩
      have HGD := hid (show (s.getD J 0) = x by rw [hx, List.getD_eq_getElem?_getD, List.getElem?_eq_getElem hJ]; rfl)
      rw [← hx] at hbyte
      have hxl := x.toNat_lt
      obtain ⟨m, hm⟩ : ∃ m, m = i % 2 := ⟨_, rfl⟩
      have hml : m < 2 := by rw [hm]; exact Nat.mod_lt _ (by decide)
      have hmI : (i : Int) % 2 = (m : Int) := by omega
      have htm : Int.tmod (i : Int) 2 = (m : Int) := by rw [Int.tmod_eq_emod_of_nonneg (by omega)]; exact hmI
      have htd : Int.tdiv (i : Int) 2 = (J : Int) := by rw [Int.tdiv_eq_ediv_of_nonneg (by omega)]; omega
      have hwJ : IntKind.i64.wrap (J : Int) = (J : Int) := IntWalk.i64_in _ (by omega)
      have hwm : IntKind.i64.wrap (m : Int) = (m : Int) := IntWalk.i64_in _ (by omega)
      have hwx : IntKind.i64.wrap (x.toNat : Int) = (x.toNat : Int) := IntWalk.i64_in _ (by omega)
      have HSH := hid (show shiftL c i 4 = 4 * (if grt c then 2 - 1 - m else m) by
        unfold shiftL
        rw [hm, ← HG.out]
        cases grt c <;> rfl)
      have HJE := hid hJe
      have HM := hid hm
      clear hx hJe hm
      have hJ0 : (0 : Int) ≤ (J : Int) := by omega
      cases hgc : grt c with
      | false =>
        obtain ⟨sh, hsh⟩ : ∃ sh, sh = 4 * (m) := ⟨_, rfl⟩
        have hshl : sh < 8 := by omega
        have hshI : (sh : Int) = 4 * ((m : Int)) := by omega
        obtain ⟨z, hz⟩ : ∃ z, z = x.toNat / 2 ^ sh := ⟨_, rfl⟩
        have hzl : z < 256 := by rw [hz]; exact Nat.lt_of_le_of_lt (Nat.div_le_self _ _) hxl
        have hzI : ((x.toNat : Int) / 2 ^ sh) = (z : Int) := by rw [shr_in, hz]
        obtain ⟨d, hd⟩ : ∃ d, d = z % 2 ^ 4 := ⟨_, rfl⟩
        have hand := i64_mask4 z (by omega)
        rw [show z % 16 = d from hd.symm] at hand
        have hdl : d < 16 := by rw [hd]; exact Nat.lt_of_lt_of_le (Nat.mod_lt _ (by decide)) (by decide)
        have hdm : d < 2 ^ 4 := by rw [hd]; exact Nat.mod_lt _ (by decide)
        have HSN := hid (show o ++ [hexD d] = tellE c s (i + 1) by
          have hsn := tellE_snoc c s i
          rw [HBITS.out, HSH.out, hgc, ← HJE.out, HGD.out] at hsn
          rw [HOE.out, hsn, hd, hz, hsh]
          rfl)
        have HGC := hid (show ∀ u, Calls Tryz.prog 133 #[.int .u8 (c.toNat : Nat)] u fun e w' => e = .returned (.bool false) ∧ w' = u from fun u => by have h := HGR.out u; rw [hgc] at h; exact h)
        have hext := hexslice d hdl
        have hd1 : IntKind.i64.wrap ((d : Int) + 1) = (d : Int) + 1 := IntWalk.i64_in _ (by omega)
        have hd2 : ((d : Int) + 1).toNat = d + 1 := by omega
        have hd3 : (d : Int) ≤ (d : Int) + 1 := by omega
        have hd4 : (d : Int) + 1 ≤ 16 := by omega
        have hd5 : (0 : Int) ≤ (d : Int) + 1 := by omega
        clear hd hgc hz
        clear hsh
        go_wp2_with (go_at_call 133; (with_reducible refine (HGC.out _).mono ?_); rintro e w1 ⟨rfl, rfl⟩)
        go_quiet (fail)
        rw [show m * 8 / 2 = sh by omega, hzI, hand]
        go_wp2
        go_roundg (N - (i + 1))
        case measure => omega
        case rel => exact ⟨i + 1, o ++ [hexD d], HSN.out, by go_num, by go_num, hlt, HC.out, HZ.out, HBL.out.trans ⟨rfl, rfl, rfl, Nat.le_refl _, fun _ _ => rfl⟩, rfl⟩
      | true =>
        obtain ⟨sh, hsh⟩ : ∃ sh, sh = 4 * (2 - 1 - m) := ⟨_, rfl⟩
        have hshl : sh < 8 := by omega
        have hshI : (sh : Int) = 4 * (2 - 1 - (m : Int)) := by omega
        obtain ⟨z, hz⟩ : ∃ z, z = x.toNat / 2 ^ sh := ⟨_, rfl⟩
        have hzl : z < 256 := by rw [hz]; exact Nat.lt_of_le_of_lt (Nat.div_le_self _ _) hxl
        have hzI : ((x.toNat : Int) / 2 ^ sh) = (z : Int) := by rw [shr_in, hz]
        obtain ⟨d, hd⟩ : ∃ d, d = z % 2 ^ 4 := ⟨_, rfl⟩
        have hand := i64_mask4 z (by omega)
        rw [show z % 16 = d from hd.symm] at hand
        have hdl : d < 16 := by rw [hd]; exact Nat.lt_of_lt_of_le (Nat.mod_lt _ (by decide)) (by decide)
        have hdm : d < 2 ^ 4 := by rw [hd]; exact Nat.mod_lt _ (by decide)
        have HSN := hid (show o ++ [hexD d] = tellE c s (i + 1) by
          have hsn := tellE_snoc c s i
          rw [HBITS.out, HSH.out, hgc, ← HJE.out, HGD.out] at hsn
          rw [HOE.out, hsn, hd, hz, hsh]
          rfl)
        have HGC := hid (show ∀ u, Calls Tryz.prog 133 #[.int .u8 (c.toNat : Nat)] u fun e w' => e = .returned (.bool true) ∧ w' = u from fun u => by have h := HGR.out u; rw [hgc] at h; exact h)
        have hext := hexslice d hdl
        have hd1 : IntKind.i64.wrap ((d : Int) + 1) = (d : Int) + 1 := IntWalk.i64_in _ (by omega)
        have hd2 : ((d : Int) + 1).toNat = d + 1 := by omega
        have hd3 : (d : Int) ≤ (d : Int) + 1 := by omega
        have hd4 : (d : Int) + 1 ≤ 16 := by omega
        have hd5 : (0 : Int) ≤ (d : Int) + 1 := by omega
        clear hd hgc hz
        clear hsh
        go_wp2_with (go_at_call 133; (with_reducible refine (HGC.out _).mono ?_); rintro e w1 ⟨rfl, rfl⟩)
        go_quiet (fail)
        rw [show (1 - m) * 8 / 2 = sh by omega, hzI, hand]
        go_wp2
        go_roundg (N - (i + 1))
        case measure => omega
        case rel => exact ⟨i + 1, o ++ [hexD d], HSN.out, by go_num, by go_num, hlt, HC.out, HZ.out, HBL.out.trans ⟨rfl, rfl, rfl, Nat.le_refl _, fun _ _ => rfl⟩, rfl⟩
    · obtain rfl : i = N := by omega
      have hnl : ¬ ((i : Int) < (i : Int)) := by omega
      go_wp2
      go_ret
      exact ⟨by rw [HR.out, ← HOE.out]; rfl, HBL.out⟩
set_option maxRecDepth 1000000 in
set_option maxHeartbeats 8000000 in
theorem spread8_fn (c : UInt8) (p : Bool) (n : Int) (hbits : bitsL c = 1) (hg : grt c = (c == 72 || c == 66)) (s : Str) (hs : s.length ≤ 100000) (N : Nat) (hroom : ∀ i, i < N → i * 1 / 8 < s.length) (hN : N ≤ 800000) (w : World) :
    Calls Tryz.prog 86 #[.agg #[.int .u8 (c.toNat : Nat), .bool p, .int .i64 n], .string ⟨s.toArray⟩, .int .i64 (N : Nat), .int .i64 8] w fun e w' => e = .returned (.string ⟨(tellE c s N).toArray⟩) ∧ Below w.heap.size w w' := by
  have hsz : (⟨s.toArray⟩ : ByteArray).size = s.length := Lib.size_mk _
  obtain ⟨w0, hw0⟩ : ∃ w0, w0 = w.alloc (.cells #[.int .u8 (c.toNat : Nat), .bool p, .int .i64 n] 103) := ⟨_, rfl⟩
  have HC0 := hid (show w0.cell? ⟨w.heap.size, 0, none⟩ = some (.int .u8 (c.toNat : Nat)) by rw [hw0, Lib.cell_of_heap (heap_alloc_new _ _)]; rfl)
  have HB0 := hid (show Below w.heap.size w w0 by rw [hw0]; exact (Below.refl _ _).alloc (Nat.le_refl _) _)
  have HZ0 := hid (show w.heap.size < w0.heap.size by rw [hw0]; simp)
  have HGR := hid (fun u => great_fn c u)
  have HG := hid hg
  have HROOM := hid hroom
  have HBITS := hid hbits
  have HW0 := hid hw0
  obtain ⟨R, hR⟩ : ∃ R, R = tellE c s N := ⟨_, rfl⟩
  rw [← hR]
  have HR := hid hR
  clear hw0 hroom hbits hR hg
  go_enter Tryz.func86, Tryz.ntmps86
  go_wp2
  rw [← HW0.out]
  clear HW0
  go_loopg [9, 14] N (fun k ov iv wr => ∃ (i : Nat) (o : Str), o = tellE c s i ∧ ov = .string ⟨o.toArray⟩ ∧ iv = .int .i64 (i : Nat) ∧ i ≤ N ∧ wr.cell? ⟨w.heap.size, 0, none⟩ = some (.int .u8 (c.toNat : Nat)) ∧ w.heap.size < wr.heap.size ∧ Below w.heap.size w wr ∧ k = N - i)
  case atStart => exact ⟨0, [], rfl, rfl, rfl, Nat.zero_le _, HC0.out, HZ0.out, HB0.out, rfl⟩
  case round =>
    obtain ⟨i, o, hoe, rfl, rfl, hiN, hc0, hz, hbl, rfl⟩ := hrel
    have hol : o.length = i := by rw [hoe]; exact tellE_len _ _ _
    have hosz : (⟨o.toArray⟩ : ByteArray).size = o.length := Lib.size_mk _
    have HOE := hid hoe
    clear hoe
    have HC := hid hc0
    have HZ := hid hz
    have HBL := hid hbl
    clear hz hbl HC0 HZ0 HB0
    rcases Nat.lt_or_ge i N with hlt | hge
    · have hltI : (i : Int) < (N : Int) := by omega
      have hJ : i * 1 / 8 < s.length := HROOM.out i hlt
      obtain ⟨J, hJe⟩ : ∃ J, J = i * 1 / 8 := ⟨_, rfl⟩
      rw [← hJe] at hJ
      have hbyte := (At.here hJ).byte
      have hJs : (J : Int) < (s.length : Int) := by omega
      obtain ⟨x, hx⟩ : ∃ x, x = s[J] := ⟨_, rfl⟩
      have HGD := hid (show (s.getD J 0) = x by rw [hx, List.getD_eq_getElem?_getD, List.getElem?_eq_getElem hJ]; rfl)
      rw [← hx] at hbyte
      have hxl := x.toNat_lt
      obtain ⟨m, hm⟩ : ∃ m, m = i % 8 := ⟨_, rfl⟩
      have hml : m < 8 := by rw [hm]; exact Nat.mod_lt _ (by decide)
      have hmI : (i : Int) % 8 = (m : Int) := by omega
      have htm : Int.tmod (i : Int) 8 = (m : Int) := by rw [Int.tmod_eq_emod_of_nonneg (by omega)]; exact hmI
      have htd : Int.tdiv (i : Int) 8 = (J : Int) := by rw [Int.tdiv_eq_ediv_of_nonneg (by omega)]; omega
      have hwJ : IntKind.i64.wrap (J : Int) = (J : Int) := IntWalk.i64_in _ (by omega)
      have hwm : IntKind.i64.wrap (m : Int) = (m : Int) := IntWalk.i64_in _ (by omega)
      have hwx : IntKind.i64.wrap (x.toNat : Int) = (x.toNat : Int) := IntWalk.i64_in _ (by omega)
      have HSH := hid (show shiftL c i 1 = 1 * (if grt c then 8 - 1 - m else m) by
        unfold shiftL
        rw [hm, ← HG.out]
        cases grt c <;> rfl)
      have HJE := hid hJe
      have HM := hid hm
      clear hx hJe hm
      have hJ0 : (0 : Int) ≤ (J : Int) := by omega
      cases hgc : grt c with
      | false =>
        obtain ⟨sh, hsh⟩ : ∃ sh, sh = 1 * (m) := ⟨_, rfl⟩
        have hshl : sh < 8 := by omega
        have hshI : (sh : Int) = 1 * ((m : Int)) := by omega
        obtain ⟨z, hz⟩ : ∃ z, z = x.toNat / 2 ^ sh := ⟨_, rfl⟩
        have hzl : z < 256 := by rw [hz]; exact Nat.lt_of_le_of_lt (Nat.div_le_self _ _) hxl
        have hzI : ((x.toNat : Int) / 2 ^ sh) = (z : Int) := by rw [shr_in, hz]
        obtain ⟨d, hd⟩ : ∃ d, d = z % 2 ^ 1 := ⟨_, rfl⟩
        have hand := i64_mask1 z (by omega)
        rw [show z % 2 = d from hd.symm] at hand
        have hdl : d < 16 := by rw [hd]; exact Nat.lt_of_lt_of_le (Nat.mod_lt _ (by decide)) (by decide)
        have hdm : d < 2 ^ 1 := by rw [hd]; exact Nat.mod_lt _ (by decide)
        have HSN := hid (show o ++ [hexD d] = tellE c s (i + 1) by
          have hsn := tellE_snoc c s i
          rw [HBITS.out, HSH.out, hgc, ← HJE.out, HGD.out] at hsn
          rw [HOE.out, hsn, hd, hz, hsh]
          rfl)
        have HGC := hid (show ∀ u, Calls Tryz.prog 133 #[.int .u8 (c.toNat : Nat)] u fun e w' => e = .returned (.bool false) ∧ w' = u from fun u => by have h := HGR.out u; rw [hgc] at h; exact h)
        have hext := hexslice d hdl
        have hd1 : IntKind.i64.wrap ((d : Int) + 1) = (d : Int) + 1 := IntWalk.i64_in _ (by omega)
        have hd2 : ((d : Int) + 1).toNat = d + 1 := by omega
        have hd3 : (d : Int) ≤ (d : Int) + 1 := by omega
        have hd4 : (d : Int) + 1 ≤ 16 := by omega
        have hd5 : (0 : Int) ≤ (d : Int) + 1 := by omega
        clear hd hgc hz
        clear hsh
        go_wp2_with (go_at_call 133; (with_reducible refine (HGC.out _).mono ?_); rintro e w1 ⟨rfl, rfl⟩)
        go_quiet (fail)
        rw [show m = sh by omega, hzI, hand]
        go_wp2
        go_roundg (N - (i + 1))
        case measure => omega
        case rel => exact ⟨i + 1, o ++ [hexD d], HSN.out, by go_num, by go_num, hlt, HC.out, HZ.out, HBL.out.trans ⟨rfl, rfl, rfl, Nat.le_refl _, fun _ _ => rfl⟩, rfl⟩
      | true =>
        obtain ⟨sh, hsh⟩ : ∃ sh, sh = 1 * (8 - 1 - m) := ⟨_, rfl⟩
        have hshl : sh < 8 := by omega
        have hshI : (sh : Int) = 1 * (8 - 1 - (m : Int)) := by omega
        obtain ⟨z, hz⟩ : ∃ z, z = x.toNat / 2 ^ sh := ⟨_, rfl⟩
        have hzl : z < 256 := by rw [hz]; exact Nat.lt_of_le_of_lt (Nat.div_le_self _ _) hxl
        have hzI : ((x.toNat : Int) / 2 ^ sh) = (z : Int) := by rw [shr_in, hz]
        obtain ⟨d, hd⟩ : ∃ d, d = z % 2 ^ 1 := ⟨_, rfl⟩
        have hand := i64_mask1 z (by omega)
        rw [show z % 2 = d from hd.symm] at hand
        have hdl : d < 16 := by rw [hd]; exact Nat.lt_of_lt_of_le (Nat.mod_lt _ (by decide)) (by decide)
        have hdm : d < 2 ^ 1 := by rw [hd]; exact Nat.mod_lt _ (by decide)
        have HSN := hid (show o ++ [hexD d] = tellE c s (i + 1) by
          have hsn := tellE_snoc c s i
          rw [HBITS.out, HSH.out, hgc, ← HJE.out, HGD.out] at hsn
          rw [HOE.out, hsn, hd, hz, hsh]
          rfl)
        have HGC := hid (show ∀ u, Calls Tryz.prog 133 #[.int .u8 (c.toNat : Nat)] u fun e w' => e = .returned (.bool true) ∧ w' = u from fun u => by have h := HGR.out u; rw [hgc] at h; exact h)
        have hext := hexslice d hdl
        have hd1 : IntKind.i64.wrap ((d : Int) + 1) = (d : Int) + 1 := IntWalk.i64_in _ (by omega)
        have hd2 : ((d : Int) + 1).toNat = d + 1 := by omega
        have hd3 : (d : Int) ≤ (d : Int) + 1 := by omega
        have hd4 : (d : Int) + 1 ≤ 16 := by omega
        have hd5 : (0 : Int) ≤ (d : Int) + 1 := by omega
        clear hd hgc hz
        clear hsh
        go_wp2_with (go_at_call 133; (with_reducible refine (HGC.out _).mono ?_); rintro e w1 ⟨rfl, rfl⟩)
        go_quiet (fail)
        rw [show (7 - m) = sh by omega, hzI, hand]
        go_wp2
        go_roundg (N - (i + 1))
        case measure => omega
        case rel => exact ⟨i + 1, o ++ [hexD d], HSN.out, by go_num, by go_num, hlt, HC.out, HZ.out, HBL.out.trans ⟨rfl, rfl, rfl, Nat.le_refl _, fun _ _ => rfl⟩, rfl⟩
    · obtain rfl : i = N := by omega
      have hnl : ¬ ((i : Int) < (i : Int)) := by omega
      go_wp2
      go_ret
      exact ⟨by rw [HR.out, ← HOE.out]; rfl, HBL.out⟩
theorem tellE_at (c : UInt8) (s : Str) (n k : Nat) (h : k < (tellE c s n).length) : (tellE c s n)[k] = hexD ((s.getD (k * bitsL c / 8) 0).toNat / 2 ^ shiftL c k (bitsL c) % 2 ^ bitsL c) :=
  (List.getElem_map (l := List.range n) (i := k) (h := h) fun i => hexD ((s.getD (i * bitsL c / 8) 0).toNat / 2 ^ shiftL c i (bitsL c) % 2 ^ bitsL c)).trans (by rw [List.getElem_range])
theorem tell_hex (s : Str) : tellE 72 s (2 * s.length) = hexE s := by
  apply List.ext_getElem
  · rw [tellE_len, hexE_len]
  · intro k h1 h2
    rw [hexE_at]
    rw [tellE_at]
    rw [tellE_len] at h1
    have e : k * bitsL 72 / 8 = k / 2 := by show k * 4 / 8 = k / 2; omega
    have e2 : shiftL 72 k (bitsL 72) = 4 * (1 - k % 2) := rfl
    rw [e, e2, List.getD_eq_getElem?_getD, List.getElem?_eq_getElem (by omega)]
    show hexD ((s[k / 2]).toNat / 2 ^ (4 * (1 - k % 2)) % 16) = _
    have hx := (s[k / 2]).toNat_lt
    rcases Nat.mod_two_eq_zero_or_one k with h | h
    · rw [h, if_pos rfl]
      show hexD ((s[k / 2]).toNat / 16 % 16) = _
      rw [Nat.mod_eq_of_lt (by omega)]
    · rw [h, if_neg (by decide)]
      show hexD ((s[k / 2]).toNat / 1 % 16) = _
      rw [Nat.div_one]
theorem hexR_fn (s : Str) (hs : s.length ≤ 100000) (w : World) : Calls Tryz.prog 43 #[.string ⟨s.toArray⟩] w fun e w' => e = .returned (.string ⟨(hexE s).toArray⟩) ∧ Below w.heap.size w w' := by
  have hsz : (⟨s.toArray⟩ : ByteArray).size = s.length := Lib.size_mk _
  have HS := hid (show Calls Tryz.prog 86 #[.agg #[.int .u8 72, .bool false, .int .i64 0], .string ⟨s.toArray⟩, .int .i64 (2 * (s.length : Int)), .int .i64 2] w fun e w' => e = .returned (.string ⟨(hexE s).toArray⟩) ∧ Below w.heap.size w w' by
    have h := spread2_fn 72 false 0 rfl rfl s hs (2 * s.length) (fun i hi => by omega) (by omega) w
    rw [tell_hex, Int.natCast_mul] at h
    exact h)
  go_enter Tryz.func43, Tryz.ntmps43
  go_wp2_with (go_at_call 86; (with_reducible refine HS.out.mono ?_); rintro e w1 ⟨rfl, hb1⟩)
  go_ret
  exact ⟨rfl, hb1⟩
end Go.Proofs.YtihdndaibmgoiaaGreatDoor.Pz
