/-
  Part K13 of the proofs of this seat: contracts of functions and plain facts, merged from 3 texts.
-/
import Derived.Test.YtihdndaibmgoiaaGreatDoorK0
import Derived.Test.YtihdndaibmgoiaaGreatDoorK1
import Derived.Test.YtihdndaibmgoiaaGreatDoorK2
import Derived.Test.YtihdndaibmgoiaaGreatDoorK3
import Derived.Test.YtihdndaibmgoiaaGreatDoorK4
import Derived.Test.YtihdndaibmgoiaaGreatDoorK5
import Derived.Test.YtihdndaibmgoiaaGreatDoorK6
import Derived.Test.YtihdndaibmgoiaaGreatDoorK7
import Derived.Test.YtihdndaibmgoiaaGreatDoorK8
import Derived.Test.YtihdndaibmgoiaaGreatDoorK9
import Derived.Test.YtihdndaibmgoiaaGreatDoorK12
/-
  The reference 10: great, spread, Hex.
-/
namespace Go.Proofs.YtihdndaibmgoiaaGreatDoor.Pz
open Go.RowKit
attribute [local go_sem] Oper.semAt_some
def grt (c : UInt8) : Bool := decide (65 ≤ c.toNat) && decide (c.toNat ≤ 90)
theorem great_fn (c : UInt8) (w : World) : Calls Tryz.prog 133 #[.int .u8 (c.toNat : Nat)] w fun e w' => e = .returned (.bool (grt c)) ∧ w' = w := by
  have hcl := c.toNat_lt
  obtain ⟨R, hR⟩ : ∃ R, R = grt c := ⟨_, rfl⟩
  rw [← hR]
  unfold grt at hR
  have HR := hid hR
  clear hR
  generalize c.toNat = d at *
  rcases (show d < 65 ∨ (65 ≤ d ∧ d ≤ 90) ∨ 90 < d by omega) with h | ⟨h, h'⟩ | h
  · have b1 : ¬ ((65 : Int) ≤ (d : Int)) := by omega
    have HRR := hid (show R = false by rw [HR.out]; simp; omega)
    clear h
    go_enter Tryz.func133, Tryz.ntmps133
    go_wp2
    go_ret
    exact ⟨by rw [HRR.out]; rfl, rfl⟩
  · have b1 : (65 : Int) ≤ (d : Int) := by omega
    have b2 : (d : Int) ≤ 90 := by omega
    have HRR := hid (show R = true by rw [HR.out]; simp; omega)
    clear h h'
    go_enter Tryz.func133, Tryz.ntmps133
    go_wp2
    go_ret
    exact ⟨by rw [HRR.out]; rfl, rfl⟩
  · have b1 : (65 : Int) ≤ (d : Int) := by omega
    have b2 : ¬ ((d : Int) ≤ 90) := by omega
    have HRR := hid (show R = false by rw [HR.out]; simp; omega)
    clear h
    go_enter Tryz.func133, Tryz.ntmps133
    go_wp2
    go_ret
    exact ⟨by rw [HRR.out]; rfl, rfl⟩
theorem hexslice (d : Nat) (h : d < 16) : (⟨#[48, 49, 50, 51, 52, 53, 54, 55, 56, 57, 97, 98, 99, 100, 101, 102]⟩ : ByteArray).extract d (d + 1) = ⟨#[hexD d]⟩ :=
  (show ∀ m : Fin 16, (⟨#[48, 49, 50, 51, 52, 53, 54, 55, 56, 57, 97, 98, 99, 100, 101, 102]⟩ : ByteArray).extract m.1 (m.1 + 1) = ⟨#[hexD m.1]⟩ from by decide) ⟨d, h⟩
theorem hexE_at : ∀ (s : Str) (k : Nat) (h : k < (hexE s).length), (hexE s)[k] = if k % 2 = 0 then hexD ((s[k / 2]'(by rw [hexE_len] at h; omega)).toNat / 16) else hexD ((s[k / 2]'(by rw [hexE_len] at h; omega)).toNat % 16)
  | [], k, h => absurd h (Nat.not_lt_zero _)
  | c :: t, 0, h => rfl
  | c :: t, 1, h => rfl
  | c :: t, k + 2, h => by
    have ih := hexE_at t k (by rw [hexE_len] at h ⊢; rw [List.length_cons] at h; omega)
    have e : (hexE (c :: t))[k + 2] = (hexE t)[k]'(by rw [hexE_len] at h ⊢; rw [List.length_cons] at h; omega) := rfl
    rw [e, ih, show (k + 2) % 2 = k % 2 by omega]
    have e2 : (k + 2) / 2 = k / 2 + 1 := by omega
    simp only [e2, List.getElem_cons_succ]
set_option maxRecDepth 1000000 in
set_option maxHeartbeats 8000000 in
theorem spread2_fn (c : UInt8) (p : Bool) (n : Int) (hbits : bitsL c = 4) (hg : grt c = (c == 72 || c == 66)) (s : Str) (hs : s.length ≤ 100000) (N : Nat) (hroom : ∀ i, i < N → i * 4 / 8 < s.length) (hN : N ≤ 800000) (w : World) :
    Calls Tryz.prog 86 #[.agg #[.int .u8 (c.toNat : Nat), .bool p, .int .i64 n], .string ⟨s.toArray⟩, .int .i64 (N : Nat), .int .i64 2] w fun e w' => e = .returned (.string ⟨(tellE c s N).toArray⟩) ∧ Below w.heap.size w w' := by
  have hsz : (⟨s.toArray⟩ : ByteArray).size = s.length := Lib.size_mk _
  obtain ⟨w0, hw0⟩ : ∃ w0, w0 = w.alloc (.cells #[.int .u8 (c.toNat : Nat), .bool p, .int .i64 n] 103) := ⟨_, rfl⟩
  have HC0 := hid (show w0.cell? ⟨w.heap.size, 0, none⟩ = some (.int .u8 (c.toNat : Nat)) by rw [hw0, Lib.cell_of_heap (heap_alloc_new _ _)]; rfl)
  have HB0 := hid (show Below w.heap.size w w0 by rw [hw0]; exact (Below.refl _ _).alloc (Nat.le_refl _) _)
  have HZ0 := hid (show w.heap.size < w0.heap.size by rw [hw0]; simp)
  have HGR := hid (fun u => great_fn c u)
  have HG := hid hg
  have HROOM := hid hroom
  have HBITS := hid hbits
  have HW0 := hid hw0
  obtain ⟨R, hR⟩ : ∃ R, R = tellE c s N := ⟨_, rfl⟩
  rw [← hR]
  have HR := hid hR
  clear hw0 hroom hbits hR hg
  go_enter Tryz.func86, Tryz.ntmps86
  go_wp2
  rw [← HW0.out]
  clear HW0
  go_loopg [9, 14] N (fun k ov iv wr => ∃ (i : Nat) (o : Str), o = tellE c s i ∧ ov = .string ⟨o.toArray⟩ ∧ iv = .int .i64 (i : Nat) ∧ i ≤ N ∧ wr.cell? ⟨w.heap.size, 0, none⟩ = some (.int .u8 (c.toNat : Nat)) ∧ w.heap.size < wr.heap.size ∧ Below w.heap.size w wr ∧ k = N - i)
  case atStart => exact ⟨0, [], rfl, rfl, rfl, Nat.zero_le _, HC0.out, HZ0.out, HB0.out, rfl⟩
  case round =>
    obtain ⟨i, o, hoe, rfl, rfl, hiN, hc0, hz, hbl, rfl⟩ := hrel
    have hol : o.length = i := by rw [hoe]; exact tellE_len _ _ _
    have hosz : (⟨o.toArray⟩ : ByteArray).size = o.length := Lib.size_mk _
    have HOE := hid hoe
    clear hoe
    have HC := hid hc0
    have HZ := hid hz
    have HBL := hid hbl
    clear hz hbl HC0 HZ0 HB0
    rcases Nat.lt_or_ge i N with hlt | hge
    · have hltI : (i : Int) < (N : Int) := by omega
      have hJ : i * 4 / 8 < s.length := HROOM.out i hlt
      obtain ⟨J, hJe⟩ : ∃ J, J = i * 4 / 8 := ⟨_, rfl⟩
      rw [← hJe] at hJ
      have hbyte := (At.here hJ).byte
      have hJs : (J : Int) < (s.length : Int) := by omega
      obtain ⟨x, hx⟩ : ∃ x, x = s[J] := ⟨_, rfl⟩
      have HGD := hid (show (s.getD J 0) = x by rw [hx, List.getD_eq_getElem?_getD, List.getElem?_eq_getElem hJ]; rfl)
      rw [← hx] at hbyte
      have hxl := x.toNat_lt
      obtain ⟨m, hm⟩ : ∃ m, m = i % 2 := ⟨_, rfl⟩
      have hml : m < 2 := by rw [hm]; exact Nat.mod_lt _ (by decide)
      have hmI : (i : Int) % 2 = (m : Int) := by omega
      have htm : Int.tmod (i : Int) 2 = (m : Int) := by rw [Int.tmod_eq_emod_of_nonneg (by omega)]; exact hmI
      have htd : Int.tdiv (i : Int) 2 = (J : Int) := by rw [Int.tdiv_eq_ediv_of_nonneg (by omega)]; omega
      have hwJ : IntKind.i64.wrap (J : Int) = (J : Int) := IntWalk.i64_in _ (by omega)
      have hwm : IntKind.i64.wrap (m : Int) = (m : Int) := IntWalk.i64_in _ (by omega)
      have hwx : IntKind.i64.wrap (x.toNat : Int) = (x.toNat : Int) := IntWalk.i64_in _ (by omega)
      have HSH := hid (show shiftL c i 4 = 4 * (if grt c then 2 - 1 - m else m) by
        unfold shiftL
        rw [hm, ← HG.out]
        cases grt c <;> rfl)
      have HJE := hid hJe
      have HM := hid hm
      clear hx hJe hm
      have hJ0 : (0 : Int) ≤ (J : Int) := by omega
      cases hgc : grt c with
      | false =>
        obtain ⟨sh, hsh⟩ : ∃ sh, sh = 4 * (m) := ⟨_, rfl⟩
        have hshl : sh < 8 := by omega
        have hshI : (sh : Int) = 4 * ((m : Int)) := by omega
        obtain ⟨z, hz⟩ : ∃ z, z = x.toNat / 2 ^ sh := ⟨_, rfl⟩
        have hzl : z < 256 := by rw [hz]; exact Nat.lt_of_le_of_lt (Nat.div_le_self _ _) hxl
        have hzI : ((x.toNat : Int) / 2 ^ sh) = (z : Int) := by rw [shr_in, hz]
        obtain ⟨d, hd⟩ : ∃ d, d = z % 2 ^ 4 := ⟨_, rfl⟩
        have hand := i64_mask4 z (by omega)
        rw [show z % 16 = d from hd.symm] at hand
        have hdl : d < 16 := by rw [hd]; exact Nat.lt_of_lt_of_le (Nat.mod_lt _ (by decide)) (by decide)
        have hdm : d < 2 ^ 4 := by rw [hd]; exact Nat.mod_lt _ (by decide)
        have HSN := hid (show o ++ [hexD d] = tellE c s (i + 1) by
          have hsn := tellE_snoc c s i
          rw [HBITS.out, HSH.out, hgc, ← HJE.out, HGD.out] at hsn
          rw [HOE.out, hsn, hd, hz, hsh]
          rfl)
        have HGC := hid (show ∀ u, Calls Tryz.prog 133 #[.int .u8 (c.toNat : Nat)] u fun e w' => e = .returned (.bool false) ∧ w' = u from fun u => by have h := HGR.out u; rw [hgc] at h; exact h)
        have hext := hexslice d hdl
        have hd1 : IntKind.i64.wrap ((d : Int) + 1) = (d : Int) + 1 := IntWalk.i64_in _ (by omega)
        have hd2 : ((d : Int) + 1).toNat = d + 1 := by omega
        have hd3 : (d : Int) ≤ (d : Int) + 1 := by omega
        have hd4 : (d : Int) + 1 ≤ 16 := by omega
        have hd5 : (0 : Int) ≤ (d : Int) + 1 := by omega
        clear hd hgc hz
        clear hsh
        go_wp2_with (go_at_call 133; (with_reducible refine (HGC.out _).mono ?_); rintro e w1 ⟨rfl, rfl⟩)
        go_quiet (fail)
        rw [show m * 8 / 2 = sh by omega, hzI, hand]
        go_wp2
        go_roundg (N - (i + 1))
        case measure => omega
        case rel => exact ⟨i + 1, o ++ [hexD d], HSN.out, by go_num, by go_num, hlt, HC.out, HZ.out, HBL.out.trans ⟨rfl, rfl, rfl, Nat.le_refl _, fun _ _ => rfl⟩, rfl⟩
      | true =>
        obtain ⟨sh, hsh⟩ : ∃ sh, sh = 4 * (2 - 1 - m) := ⟨_, rfl⟩
        have hshl : sh < 8 := by omega
        have hshI : (sh : Int) = 4 * (2 - 1 - (m : Int)) := by omega
        obtain ⟨z, hz⟩ : ∃ z, z = x.toNat / 2 ^ sh := ⟨_, rfl⟩
        have hzl : z < 256 := by rw [hz]; exact Nat.lt_of_le_of_lt (Nat.div_le_self _ _) hxl
        have hzI : ((x.toNat : Int) / 2 ^ sh) = (z : Int) := by rw [shr_in, hz]
        obtain ⟨d, hd⟩ : ∃ d, d = z % 2 ^ 4 := ⟨_, rfl⟩
        have hand := i64_mask4 z (by omega)
        rw [show z % 16 = d from hd.symm] at hand
        have hdl : d < 16 := by rw [hd]; exact Nat.lt_of_lt_of_le (Nat.mod_lt _ (by decide)) (by decide)
        have hdm : d < 2 ^ 4 := by rw [hd]; exact Nat.mod_lt _ (by decide)
        have HSN := hid (show o ++ [hexD d] = tellE c s (i + 1) by
          have hsn := tellE_snoc c s i
          rw [HBITS.out, HSH.out, hgc, ← HJE.out, HGD.out] at hsn
          rw [HOE.out, hsn, hd, hz, hsh]
          rfl)
        have HGC := hid (show ∀ u, Calls Tryz.prog 133 #[.int .u8 (c.toNat : Nat)] u fun e w' => e = .returned (.bool true) ∧ w' = u from fun u => by have h := HGR.out u; rw [hgc] at h; exact h)
        have hext := hexslice d hdl
        have hd1 : IntKind.i64.wrap ((d : Int) + 1) = (d : Int) + 1 := IntWalk.i64_in _ (by omega)
        have hd2 : ((d : Int) + 1).toNat = d + 1 := by omega
        have hd3 : (d : Int) ≤ (d : Int) + 1 := by omega
        have hd4 : (d : Int) + 1 ≤ 16 := by omega
        have hd5 : (0 : Int) ≤ (d : Int) + 1 := by omega
        clear hd hgc hz
        clear hsh
        go_wp2_with (go_at_call 133; (with_reducible refine (HGC.out _).mono ?_); rintro e w1 ⟨rfl, rfl⟩)
        go_quiet (fail)
        rw [show (1 - m) * 8 / 2 = sh by omega, hzI, hand]
        go_wp2
        go_roundg (N - (i + 1))
        case measure => omega
        case rel => exact ⟨i + 1, o ++ [hexD d], HSN.out, by go_num, by go_num, hlt, HC.out, HZ.out, HBL.out.trans ⟨rfl, rfl, rfl, Nat.le_refl _, fun _ _ => rfl⟩, rfl⟩
    · obtain rfl : i = N := by omega
      have hnl : ¬ ((i : Int) < (i : Int)) := by omega
      go_wp2
      go_ret
      exact ⟨by rw [HR.out, ← HOE.out]; rfl, HBL.out⟩
set_option maxRecDepth 1000000 in
set_option maxHeartbeats 8000000 in
theorem spread8_fn (c : UInt8) (p : Bool) (n : Int) (hbits : bitsL c = 1) (hg : grt c = (c == 72 || c == 66)) (s : Str) (hs : s.length ≤ 100000) (N : Nat) (hroom : ∀ i, i < N → i * 1 / 8 < s.length) (hN : N ≤ 800000) (w : World) :
    Calls Tryz.prog 86 #[.agg #[.int .u8 (c.toNat : Nat), .bool p, .int .i64 n], .string ⟨s.toArray⟩, .int .i64 (N : Nat), .int .i64 8] w fun e w' => e = .returned (.string ⟨(tellE c s N).toArray⟩) ∧ Below w.heap.size w w' := by
  have hsz : (⟨s.toArray⟩ : ByteArray).size = s.length := Lib.size_mk _
  obtain ⟨w0, hw0⟩ : ∃ w0, w0 = w.alloc (.cells #[.int .u8 (c.toNat : Nat), .bool p, .int .i64 n] 103) := ⟨_, rfl⟩
  have HC0 := hid (show w0.cell? ⟨w.heap.size, 0, none⟩ = some (.int .u8 (c.toNat : Nat)) by rw [hw0, Lib.cell_of_heap (heap_alloc_new _ _)]; rfl)
  have HB0 := hid (show Below w.heap.size w w0 by rw [hw0]; exact (Below.refl _ _).alloc (Nat.le_refl _) _)
  have HZ0 := hid (show w.heap.size < w0.heap.size by rw [hw0]; simp)
  have HGR := hid (fun u => great_fn c u)
  have HG := hid hg
  have HROOM := hid hroom
  have HBITS := hid hbits
  have HW0 := hid hw0
  obtain ⟨R, hR⟩ : ∃ R, R = tellE c s N := ⟨_, rfl⟩
  rw [← hR]
  have HR := hid hR
  clear hw0 hroom hbits hR hg
  go_enter Tryz.func86, Tryz.ntmps86
  go_wp2
  rw [← HW0.out]
  clear HW0
  go_loopg [9, 14] N (fun k ov iv wr => ∃ (i : Nat) (o : Str), o = tellE c s i ∧ ov = .string ⟨o.toArray⟩ ∧ iv = .int .i64 (i : Nat) ∧ i ≤ N ∧ wr.cell? ⟨w.heap.size, 0, none⟩ = some (.int .u8 (c.toNat : Nat)) ∧ w.heap.size < wr.heap.size ∧ Below w.heap.size w wr ∧ k = N - i)
  case atStart => exact ⟨0, [], rfl, rfl, rfl, Nat.zero_le _, HC0.out, HZ0.out, HB0.out, rfl⟩
  case round =>
    obtain ⟨i, o, hoe, rfl, rfl, hiN, hc0, hz, hbl, rfl⟩ := hrel
    have hol : o.length = i := by rw [hoe]; exact tellE_len _ _ _
    have hosz : (⟨o.toArray⟩ : ByteArray).size = o.length := Lib.size_mk _
    have HOE := hid hoe
    clear hoe
    have HC := hid hc0
    have HZ := hid hz
    have HBL := hid hbl
    clear hz hbl HC0 HZ0 HB0
    rcases Nat.lt_or_ge i N with hlt | hge
    · have hltI : (i : Int) < (N : Int) := by omega
      have hJ : i * 1 / 8 < s.length := HROOM.out i hlt
      obtain ⟨J, hJe⟩ : ∃ J, J = i * 1 / 8 := ⟨_, rfl⟩
      rw [← hJe] at hJ
      have hbyte := (At.here hJ).byte
      have hJs : (J : Int) < (s.length : Int) := by omega
      obtain ⟨x, hx⟩ : ∃ x, x = s[J] := ⟨_, rfl⟩
      have HGD := hid (show (s.getD J 0) = x by rw [hx, List.getD_eq_getElem?_getD, List.getElem?_eq_getElem hJ]; rfl)
      rw [← hx] at hbyte
      have hxl := x.toNat_lt
      obtain ⟨m, hm⟩ : ∃ m, m = i % 8 := ⟨_, rfl⟩
      have hml : m < 8 := by rw [hm]; exact Nat.mod_lt _ (by decide)
      have hmI : (i : Int) % 8 = (m : Int) := by omega
      have htm : Int.tmod (i : Int) 8 = (m : Int) := by rw [Int.tmod_eq_emod_of_nonneg (by omega)]; exact hmI
      have htd : Int.tdiv (i : Int) 8 = (J : Int) := by rw [Int.tdiv_eq_ediv_of_nonneg (by omega)]; omega
      have hwJ : IntKind.i64.wrap (J : Int) = (J : Int) := IntWalk.i64_in _ (by omega)
      have hwm : IntKind.i64.wrap (m : Int) = (m : Int) := IntWalk.i64_in _ (by omega)
      have hwx : IntKind.i64.wrap (x.toNat : Int) = (x.toNat : Int) := IntWalk.i64_in _ (by omega)
      have HSH := hid (show shiftL c i 1 = 1 * (if grt c then 8 - 1 - m else m) by
        unfold shiftL
        rw [hm, ← HG.out]
        cases grt c <;> rfl)
      have HJE := hid hJe
      have HM := hid hm
      clear hx hJe hm
      have hJ0 : (0 : Int) ≤ (J : Int) := by omega
      cases hgc : grt c with
      | false =>
        obtain ⟨sh, hsh⟩ : ∃ sh, sh = 1 * (m) := ⟨_, rfl⟩
        have hshl : sh < 8 := by omega
        have hshI : (sh : Int) = 1 * ((m : Int)) := by omega
        obtain ⟨z, hz⟩ : ∃ z, z = x.toNat / 2 ^ sh := ⟨_, rfl⟩
        have hzl : z < 256 := by rw [hz]; exact Nat.lt_of_le_of_lt (Nat.div_le_self _ _) hxl
        have hzI : ((x.toNat : Int) / 2 ^ sh) = (z : Int) := by rw [shr_in, hz]
        obtain ⟨d, hd⟩ : ∃ d, d = z % 2 ^ 1 := ⟨_, rfl⟩
        have hand := i64_mask1 z (by omega)
        rw [show z % 2 = d from hd.symm] at hand
        have hdl : d < 16 := by rw [hd]; exact Nat.lt_of_lt_of_le (Nat.mod_lt _ (by decide)) (by decide)
        have hdm : d < 2 ^ 1 := by rw [hd]; exact Nat.mod_lt _ (by decide)
        have HSN := hid (show o ++ [hexD d] = tellE c s (i + 1) by
          have hsn := tellE_snoc c s i
          rw [HBITS.out, HSH.out, hgc, ← HJE.out, HGD.out] at hsn
          rw [HOE.out, hsn, hd, hz, hsh]
          rfl)
        have HGC := hid (show ∀ u, Calls Tryz.prog 133 #[.int .u8 (c.toNat : Nat)] u fun e w' => e = .returned (.bool false) ∧ w' = u from fun u => by have h := HGR.out u; rw [hgc] at h; exact h)
        have hext := hexslice d hdl
        have hd1 : IntKind.i64.wrap ((d : Int) + 1) = (d : Int) + 1 := IntWalk.i64_in _ (by omega)
        have hd2 : ((d : Int) + 1).toNat = d + 1 := by omega
        have hd3 : (d : Int) ≤ (d : Int) + 1 := by omega
        have hd4 : (d : Int) + 1 ≤ 16 := by omega
        have hd5 : (0 : Int) ≤ (d : Int) + 1 := by omega
        clear hd hgc hz
        clear hsh
        go_wp2_with (go_at_call 133; (with_reducible refine (HGC.out _).mono ?_); rintro e w1 ⟨rfl, rfl⟩)
        go_quiet (fail)
        rw [show m = sh by omega, hzI, hand]
        go_wp2
        go_roundg (N - (i + 1))
        case measure => omega
        case rel => exact ⟨i + 1, o ++ [hexD d], HSN.out, by go_num, by go_num, hlt, HC.out, HZ.out, HBL.out.trans ⟨rfl, rfl, rfl, Nat.le_refl _, fun _ _ => rfl⟩, rfl⟩
      | true =>
        obtain ⟨sh, hsh⟩ : ∃ sh, sh = 1 * (8 - 1 - m) := ⟨_, rfl⟩
        have hshl : sh < 8 := by omega
        have hshI : (sh : Int) = 1 * (8 - 1 - (m : Int)) := by omega
        obtain ⟨z, hz⟩ : ∃ z, z = x.toNat / 2 ^ sh := ⟨_, rfl⟩
        have hzl : z < 256 := by rw [hz]; exact Nat.lt_of_le_of_lt (Nat.div_le_self _ _) hxl
        have hzI : ((x.toNat : Int) / 2 ^ sh) = (z : Int) := by rw [shr_in, hz]
        obtain ⟨d, hd⟩ : ∃ d, d = z % 2 ^ 1 := ⟨_, rfl⟩
        have hand := i64_mask1 z (by omega)
        rw [show z % 2 = d from hd.symm] at hand
        have hdl : d < 16 := by rw [hd]; exact Nat.lt_of_lt_of_le (Nat.mod_lt _ (by decide)) (by decide)
        have hdm : d < 2 ^ 1 := by rw [hd]; exact Nat.mod_lt _ (by decide)
        have HSN := hid (show o ++ [hexD d] = tellE c s (i + 1) by
          have hsn := tellE_snoc c s i
          rw [HBITS.out, HSH.out, hgc, ← HJE.out, HGD.out] at hsn
          rw [HOE.out, hsn, hd, hz, hsh]
          rfl)
        have HGC := hid (show ∀ u, Calls Tryz.prog 133 #[.int .u8 (c.toNat : Nat)] u fun e w' => e = .returned (.bool true) ∧ w' = u from fun u => by have h := HGR.out u; rw [hgc] at h; exact h)
        have hext := hexslice d hdl
        have hd1 : IntKind.i64.wrap ((d : Int) + 1) = (d : Int) + 1 := IntWalk.i64_in _ (by omega)
        have hd2 : ((d : Int) + 1).toNat = d + 1 := by omega
        have hd3 : (d : Int) ≤ (d : Int) + 1 := by omega
        have hd4 : (d : Int) + 1 ≤ 16 := by omega
        have hd5 : (0 : Int) ≤ (d : Int) + 1 := by omega
        clear hd hgc hz
        clear hsh
        go_wp2_with (go_at_call 133; (with_reducible refine (HGC.out _).mono ?_); rintro e w1 ⟨rfl, rfl⟩)
        go_quiet (fail)
        rw [show (7 - m) = sh by omega, hzI, hand]
        go_wp2
        go_roundg (N - (i + 1))
        case measure => omega
        case rel => exact ⟨i + 1, o ++ [hexD d], HSN.out, by go_num, by go_num, hlt, HC.out, HZ.out, HBL.out.trans ⟨rfl, rfl, rfl, Nat.le_refl _, fun _ _ => rfl⟩, rfl⟩
    · obtain rfl : i = N := by omega
      have hnl : ¬ ((i : Int) < (i : Int)) := by omega
      go_wp2
      go_ret
      exact ⟨by rw [HR.out, ← HOE.out]; rfl, HBL.out⟩
theorem tellE_at (c : UInt8) (s : Str) (n k : Nat) (h : k < (tellE c s n).length) : (tellE c s n)[k] = hexD ((s.getD (k * bitsL c / 8) 0).toNat / 2 ^ shiftL c k (bitsL c) % 2 ^ bitsL c) :=
  (List.getElem_map (l := List.range n) (i := k) (h := h) fun i => hexD ((s.getD (i * bitsL c / 8) 0).toNat / 2 ^ shiftL c i (bitsL c) % 2 ^ bitsL c)).trans (by rw [List.getElem_range])
theorem tell_hex (s : Str) : tellE 72 s (2 * s.length) = hexE s := by
  apply List.ext_getElem
  · rw [tellE_len, hexE_len]
  · intro k h1 h2
    rw [hexE_at]
    rw [tellE_at]
    rw [tellE_len] at h1
    have e : k * bitsL 72 / 8 = k / 2 := by show k * 4 / 8 = k / 2; omega
    have e2 : shiftL 72 k (bitsL 72) = 4 * (1 - k % 2) := rfl
    rw [e, e2, List.getD_eq_getElem?_getD, List.getElem?_eq_getElem (by omega)]
    show hexD ((s[k / 2]).toNat / 2 ^ (4 * (1 - k % 2)) % 16) = _
    have hx := (s[k / 2]).toNat_lt
    rcases Nat.mod_two_eq_zero_or_one k with h | h
    · rw [h, if_pos rfl]
      show hexD ((s[k / 2]).toNat / 16 % 16) = _
      rw [Nat.mod_eq_of_lt (by omega)]
    · rw [h, if_neg (by decide)]
      show hexD ((s[k / 2]).toNat / 1 % 16) = _
      rw [Nat.div_one]
theorem hexR_fn (s : Str) (hs : s.length ≤ 100000) (w : World) : Calls Tryz.prog 43 #[.string ⟨s.toArray⟩] w fun e w' => e = .returned (.string ⟨(hexE s).toArray⟩) ∧ Below w.heap.size w w' := by
  have hsz : (⟨s.toArray⟩ : ByteArray).size = s.length := Lib.size_mk _
  have HS := hid (show Calls Tryz.prog 86 #[.agg #[.int .u8 72, .bool false, .int .i64 0], .string ⟨s.toArray⟩, .int .i64 (2 * (s.length : Int)), .int .i64 2] w fun e w' => e = .returned (.string ⟨(hexE s).toArray⟩) ∧ Below w.heap.size w w' by
    have h := spread2_fn 72 false 0 rfl rfl s hs (2 * s.length) (fun i hi => by omega) (by omega) w
    rw [tell_hex, Int.natCast_mul] at h
    exact h)
  go_enter Tryz.func43, Tryz.ntmps43
  go_wp2_with (go_at_call 86; (with_reducible refine HS.out.mono ?_); rintro e w1 ⟨rfl, hb1⟩)
  go_ret
  exact ⟨rfl, hb1⟩
end Go.Proofs.YtihdndaibmgoiaaGreatDoor.Pz
/-
  base64, plain: the bits of a text, six by six.
-/
namespace Go.Proofs.YtihdndaibmgoiaaGreatDoor.Pz
open Go.RowKit
def bitS (s : Str) (t : Nat) : Nat := (s.getD (t / 8) 0).toNat / 2 ^ (7 - t % 8) % 2
def bitsTo (s : Str) (n : Nat) : Str := (List.range n).map fun t => hexD (bitS s t)
theorem bitS_lt (s : Str) (t : Nat) : bitS s t < 2 := Nat.mod_lt _ (by decide)
theorem bitsTo_len (s : Str) (n : Nat) : (bitsTo s n).length = n := by
  unfold bitsTo
  rw [List.length_map, List.length_range]
theorem bitsTo_at (s : Str) (n k : Nat) (h : k < (bitsTo s n).length) : (bitsTo s n)[k] = hexD (bitS s k) :=
  (List.getElem_map (l := List.range n) (i := k) (h := h) fun t => hexD (bitS s t)).trans (by rw [List.getElem_range])
theorem tell_bits (s : Str) (n : Nat) : tellE 66 s n = bitsTo s n := by
  unfold tellE bitsTo
  congr 1
  funext t
  unfold bitS
  have e1 : t * bitsL 66 / 8 = t / 8 := by show t * 1 / 8 = t / 8; rw [Nat.mul_one]
  have e2 : shiftL 66 t (bitsL 66) = 7 - t % 8 := by show 1 * (7 - t % 8) = _; rw [Nat.one_mul]
  rw [e1, e2]
  rfl
theorem bitS_end (s : Str) (t : Nat) (h : 8 * s.length ≤ t) : bitS s t = 0 := by
  unfold bitS
  have e : s.getD (t / 8) 0 = 0 := by
    rw [List.getD_eq_getElem?_getD, List.getElem?_eq_none (by omega)]
    rfl
  rw [e]
  show 0 / _ % 2 = 0
  rw [Nat.zero_div]
theorem bitsTo_pad (s : Str) (n : Nat) (h : 8 * s.length ≤ n) : bitsTo s (n + 1) = bitsTo s n ++ [48] := by
  unfold bitsTo
  rw [List.range_succ, List.map_append, List.map_cons, List.map_nil, bitS_end s n h]
  rfl
theorem hexD_bit (b : Nat) (h : b < 2) : (hexD b).toNat = 48 + b := by
  match b, h with
  | 0, _ => rfl
  | 1, _ => rfl
def valG (s : Str) (i : Nat) : Nat → Nat
  | 0 => 0
  | j + 1 => 2 * valG s i j + bitS s (i + j)
theorem valG_lt (s : Str) (i : Nat) : ∀ j, valG s i j < 2 ^ j
  | 0 => Nat.zero_lt_one
  | j + 1 => by
    have h := valG_lt s i j
    have h2 := bitS_lt s (i + j)
    rw [valG, Nat.pow_succ]
    omega
def six (s : Str) (k : Nat) : Nat := v24 (s.drop (3 * (k / 4))) / 2 ^ (18 - 6 * (k % 4)) % 64
theorem six_eq (s : Str) (k : Nat) : valG s (6 * k) 6 = six s k := by
  unfold six v24
  have hg : ∀ j, (s.drop (3 * (k / 4))).getD j 0 = s.getD (3 * (k / 4) + j) 0 := fun j => by
    rw [List.getD_eq_getElem?_getD, List.getD_eq_getElem?_getD, List.getElem?_drop]
  rw [hg, hg, hg]
  have hb : ∀ j, bitS s (6 * k + j) = (s.getD (3 * (k / 4) + (6 * (k % 4) + j) / 8) 0).toNat / 2 ^ (7 - (6 * (k % 4) + j) % 8) % 2 := fun j => by
    unfold bitS
    rw [show (6 * k + j) / 8 = 3 * (k / 4) + (6 * (k % 4) + j) / 8 by omega, show (6 * k + j) % 8 = (6 * (k % 4) + j) % 8 by omega]
  obtain ⟨a, ha⟩ : ∃ a, a = (s.getD (3 * (k / 4) + 0) 0).toNat := ⟨_, rfl⟩
  obtain ⟨b, hb'⟩ : ∃ b, b = (s.getD (3 * (k / 4) + 1) 0).toNat := ⟨_, rfl⟩
  obtain ⟨c, hc⟩ : ∃ c, c = (s.getD (3 * (k / 4) + 2) 0).toNat := ⟨_, rfl⟩
  have ha2 : a < 256 := by rw [ha]; exact UInt8.toNat_lt _
  have hb2 : b < 256 := by rw [hb']; exact UInt8.toNat_lt _
  have hc2 : c < 256 := by rw [hc]; exact UInt8.toNat_lt _
  obtain ⟨X, hX⟩ : ∃ X, X = a * 65536 + b * 256 + c := ⟨_, rfl⟩
  have key : ∀ Y : Nat, 2 * (2 * (2 * (2 * (2 * (2 * 0 + Y / 32 % 2) + Y / 16 % 2) + Y / 8 % 2) + Y / 4 % 2) + Y / 2 % 2) + Y / 1 % 2 = Y % 64 := by omega
  show 2 * (2 * (2 * (2 * (2 * (2 * 0 + bitS s (6 * k + 0)) + bitS s (6 * k + 1)) + bitS s (6 * k + 2)) + bitS s (6 * k + 3)) + bitS s (6 * k + 4)) + bitS s (6 * k + 5) = _
  rw [← ha, ← hb', ← hc, ← hX]
  rcases (show k % 4 = 0 ∨ k % 4 = 1 ∨ k % 4 = 2 ∨ k % 4 = 3 by omega) with h | h | h | h
  · have b0 : bitS s (6 * k + 0) = X / 262144 / 32 % 2 := by
      rw [hb, h]
      show (s.getD (3 * (k / 4) + 0) 0).toNat / 128 % 2 = _
      rw [← ha]
      omega
    have b1 : bitS s (6 * k + 1) = X / 262144 / 16 % 2 := by
      rw [hb, h]
      show (s.getD (3 * (k / 4) + 0) 0).toNat / 64 % 2 = _
      rw [← ha]
      omega
    have b2 : bitS s (6 * k + 2) = X / 262144 / 8 % 2 := by
      rw [hb, h]
      show (s.getD (3 * (k / 4) + 0) 0).toNat / 32 % 2 = _
      rw [← ha]
      omega
    have b3 : bitS s (6 * k + 3) = X / 262144 / 4 % 2 := by
      rw [hb, h]
      show (s.getD (3 * (k / 4) + 0) 0).toNat / 16 % 2 = _
      rw [← ha]
      omega
    have b4 : bitS s (6 * k + 4) = X / 262144 / 2 % 2 := by
      rw [hb, h]
      show (s.getD (3 * (k / 4) + 0) 0).toNat / 8 % 2 = _
      rw [← ha]
      omega
    have b5 : bitS s (6 * k + 5) = X / 262144 / 1 % 2 := by
      rw [hb, h]
      show (s.getD (3 * (k / 4) + 0) 0).toNat / 4 % 2 = _
      rw [← ha]
      omega
    rw [b0, b1, b2, b3, b4, b5, h]
    exact key _
  · have b0 : bitS s (6 * k + 0) = X / 4096 / 32 % 2 := by
      rw [hb, h]
      show (s.getD (3 * (k / 4) + 0) 0).toNat / 2 % 2 = _
      rw [← ha]
      omega
    have b1 : bitS s (6 * k + 1) = X / 4096 / 16 % 2 := by
      rw [hb, h]
      show (s.getD (3 * (k / 4) + 0) 0).toNat / 1 % 2 = _
      rw [← ha]
      omega
    have b2 : bitS s (6 * k + 2) = X / 4096 / 8 % 2 := by
      rw [hb, h]
      show (s.getD (3 * (k / 4) + 1) 0).toNat / 128 % 2 = _
      rw [← hb']
      omega
    have b3 : bitS s (6 * k + 3) = X / 4096 / 4 % 2 := by
      rw [hb, h]
      show (s.getD (3 * (k / 4) + 1) 0).toNat / 64 % 2 = _
      rw [← hb']
      omega
    have b4 : bitS s (6 * k + 4) = X / 4096 / 2 % 2 := by
      rw [hb, h]
      show (s.getD (3 * (k / 4) + 1) 0).toNat / 32 % 2 = _
      rw [← hb']
      omega
    have b5 : bitS s (6 * k + 5) = X / 4096 / 1 % 2 := by
      rw [hb, h]
      show (s.getD (3 * (k / 4) + 1) 0).toNat / 16 % 2 = _
      rw [← hb']
      omega
    rw [b0, b1, b2, b3, b4, b5, h]
    exact key _
  · have b0 : bitS s (6 * k + 0) = X / 64 / 32 % 2 := by
      rw [hb, h]
      show (s.getD (3 * (k / 4) + 1) 0).toNat / 8 % 2 = _
      rw [← hb']
      omega
    have b1 : bitS s (6 * k + 1) = X / 64 / 16 % 2 := by
      rw [hb, h]
      show (s.getD (3 * (k / 4) + 1) 0).toNat / 4 % 2 = _
      rw [← hb']
      omega
    have b2 : bitS s (6 * k + 2) = X / 64 / 8 % 2 := by
      rw [hb, h]
      show (s.getD (3 * (k / 4) + 1) 0).toNat / 2 % 2 = _
      rw [← hb']
      omega
    have b3 : bitS s (6 * k + 3) = X / 64 / 4 % 2 := by
      rw [hb, h]
      show (s.getD (3 * (k / 4) + 1) 0).toNat / 1 % 2 = _
      rw [← hb']
      omega
    have b4 : bitS s (6 * k + 4) = X / 64 / 2 % 2 := by
      rw [hb, h]
      show (s.getD (3 * (k / 4) + 2) 0).toNat / 128 % 2 = _
      rw [← hc]
      omega
    have b5 : bitS s (6 * k + 5) = X / 64 / 1 % 2 := by
      rw [hb, h]
      show (s.getD (3 * (k / 4) + 2) 0).toNat / 64 % 2 = _
      rw [← hc]
      omega
    rw [b0, b1, b2, b3, b4, b5, h]
    exact key _
  · have b0 : bitS s (6 * k + 0) = X / 1 / 32 % 2 := by
      rw [hb, h]
      show (s.getD (3 * (k / 4) + 2) 0).toNat / 32 % 2 = _
      rw [← hc]
      omega
    have b1 : bitS s (6 * k + 1) = X / 1 / 16 % 2 := by
      rw [hb, h]
      show (s.getD (3 * (k / 4) + 2) 0).toNat / 16 % 2 = _
      rw [← hc]
      omega
    have b2 : bitS s (6 * k + 2) = X / 1 / 8 % 2 := by
      rw [hb, h]
      show (s.getD (3 * (k / 4) + 2) 0).toNat / 8 % 2 = _
      rw [← hc]
      omega
    have b3 : bitS s (6 * k + 3) = X / 1 / 4 % 2 := by
      rw [hb, h]
      show (s.getD (3 * (k / 4) + 2) 0).toNat / 4 % 2 = _
      rw [← hc]
      omega
    have b4 : bitS s (6 * k + 4) = X / 1 / 2 % 2 := by
      rw [hb, h]
      show (s.getD (3 * (k / 4) + 2) 0).toNat / 2 % 2 = _
      rw [← hc]
      omega
    have b5 : bitS s (6 * k + 5) = X / 1 / 1 % 2 := by
      rw [hb, h]
      show (s.getD (3 * (k / 4) + 2) 0).toNat / 1 % 2 = _
      rw [← hc]
      omega
    rw [b0, b1, b2, b3, b4, b5, h]
    exact key _
def sixes (s : Str) (k : Nat) : Str := (List.range k).map fun j => b64L (six s j)
theorem sixes_snoc (s : Str) (k : Nat) : sixes s (k + 1) = sixes s k ++ [b64L (six s k)] := by
  unfold sixes
  rw [List.range_succ, List.map_append]
  rfl
theorem sixes_len (s : Str) (k : Nat) : (sixes s k).length = k := by
  unfold sixes
  rw [List.length_map, List.length_range]
theorem sixes_at (s : Str) (n k : Nat) (h : k < (sixes s n).length) : (sixes s n)[k] = b64L (six s k) :=
  (List.getElem_map (l := List.range n) (i := k) (h := h) fun t => b64L (six s t)).trans (by rw [List.getElem_range])
theorem b64E_at : ∀ (m : Nat) (s : Str) (k : Nat), s.length ≤ m → k < (b64E s).length → (b64E s)[k]? = some (sign4 (s.drop (3 * (k / 4))) (k % 4))
  | m, [], k, _, h => absurd h (Nat.not_lt_zero _)
  | 0, _ :: _, k, hm, _ => absurd hm (by simp)
  | m + 1, c :: t, k, hm, h => by
    obtain ⟨l, hl⟩ : ∃ l, l = c :: t := ⟨_, rfl⟩
    have hne : l ≠ [] := by rw [hl]; simp
    rw [← hl] at hm h ⊢
    have hpos : 0 < l.length := List.length_pos_iff.2 hne
    rw [b64E_step l hne] at h ⊢
    rw [List.length_append] at h
    have hq : (quad l).length = 4 := rfl
    rcases Nat.lt_or_ge k 4 with hk | hk
    · rw [List.getElem?_append_left (by rw [hq]; exact hk), show k / 4 = 0 by omega, show k % 4 = k by omega]
      match k, hk with
      | 0, _ => rfl
      | 1, _ => rfl
      | 2, _ => rfl
      | 3, _ => rfl
    · rw [List.getElem?_append_right (by rw [hq]; exact hk), hq, b64E_at m (l.drop 3) (k - 4) (by rw [List.length_drop]; omega) (by omega), List.drop_drop, show 3 + 3 * ((k - 4) / 4) = 3 * (k / 4) by omega, show (k - 4) % 4 = k % 4 by omega]
def sixN (n : Nat) : Nat := (8 * n + 5) / 6
theorem b64E_sixes (s : Str) : b64E s = sixes s (sixN s.length) ++ List.replicate ((4 - sixN s.length % 4) % 4) 61 := by
  apply List.ext_getElem?
  intro k
  have hl := b64E_len s
  rcases Nat.lt_or_ge k (b64E s).length with hk | hk
  · rw [b64E_at s.length s k (Nat.le_refl _) hk]
    unfold sign4
    rw [List.length_drop]
    rcases Nat.lt_or_ge k (sixN s.length) with h | h
    · rw [List.getElem?_append_left (by rw [sixes_len]; exact h), List.getElem?_eq_getElem (by rw [sixes_len]; exact h), sixes_at, if_neg (by unfold sixN at h; omega)]
      rfl
    · rw [List.getElem?_append_right (by rw [sixes_len]; exact h), sixes_len, List.getElem?_replicate, if_pos (by unfold sixN at *; omega), if_pos (by unfold sixN at *; omega)]
  · rw [List.getElem?_eq_none hk, List.getElem?_eq_none (by rw [List.length_append, sixes_len, List.length_replicate]; unfold sixN; omega)]
end Go.Proofs.YtihdndaibmgoiaaGreatDoor.Pz
/-
  The reference 10: plain, Percent, Base64.
-/
namespace Go.Proofs.YtihdndaibmgoiaaGreatDoor.Pz
open Go.RowKit
attribute [local go_sem] Oper.semAt_some
set_option maxRecDepth 100000 in
set_option maxHeartbeats 4000000 in
theorem plainR_fn (c : UInt8) (w : World) : Calls Tryz.prog 94 #[.int .u8 (c.toNat : Nat)] w fun e w' => e = .returned (.bool (ownP c)) ∧ w' = w := by
  have hcl := c.toNat_lt
  have ho := ownP_d c
  obtain ⟨R, hR⟩ : ∃ R, R = ownP c := ⟨_, rfl⟩
  rw [← hR] at ho ⊢
  have HO := hid ho
  clear hR ho
  generalize c.toNat = d at *
  rcases (show (0 ≤ d ∧ d ≤ 44) ∨ (45 ≤ d ∧ d ≤ 45) ∨ (46 ≤ d ∧ d ≤ 46) ∨ (47 ≤ d ∧ d ≤ 47) ∨ (48 ≤ d ∧ d ≤ 57) ∨ (58 ≤ d ∧ d ≤ 64) ∨ (65 ≤ d ∧ d ≤ 90) ∨ (91 ≤ d ∧ d ≤ 94) ∨ (95 ≤ d ∧ d ≤ 95) ∨ (96 ≤ d ∧ d ≤ 96) ∨ (97 ≤ d ∧ d ≤ 122) ∨ (123 ≤ d ∧ d ≤ 125) ∨ (126 ≤ d ∧ d ≤ 126) ∨ (127 ≤ d ∧ d ≤ 255) by omega) with ⟨h, h'⟩ | ⟨h, h'⟩ | ⟨h, h'⟩ | ⟨h, h'⟩ | ⟨h, h'⟩ | ⟨h, h'⟩ | ⟨h, h'⟩ | ⟨h, h'⟩ | ⟨h, h'⟩ | ⟨h, h'⟩ | ⟨h, h'⟩ | ⟨h, h'⟩ | ⟨h, h'⟩ | ⟨h, h'⟩
  · have b0 : ¬ ((48 : Int) ≤ (d : Int)) := by omega
    have b1 : ¬ ((65 : Int) ≤ (d : Int)) := by omega
    have b2 : ¬ ((97 : Int) ≤ (d : Int)) := by omega
    have b3 : (d : Int) ≤ 57 := by omega
    have b4 : (d : Int) ≤ 90 := by omega
    have b5 : (d : Int) ≤ 122 := by omega
    have b6 : ((d : Int) == 45) = false := by rw [beq_eq_false_iff_ne]; omega
    have b7 : ((d : Int) == 46) = false := by rw [beq_eq_false_iff_ne]; omega
    have b8 : ((d : Int) == 95) = false := by rw [beq_eq_false_iff_ne]; omega
    have b9 : ((d : Int) == 126) = false := by rw [beq_eq_false_iff_ne]; omega
    have HRR := hid (show R = false by
      rw [HO.out]
      unfold ownR
      simp
      omega)
    clear h h'
    go_enter Tryz.func94, Tryz.ntmps94
    go_wp2
    go_ret
    exact ⟨by rw [HRR.out]; rfl, rfl⟩
  · obtain rfl : d = 45 := by omega
    have HRR := hid (show R = true by rw [HO.out]; decide)
    clear h h'
    go_enter Tryz.func94, Tryz.ntmps94
    go_wp2
    go_ret
    exact ⟨by rw [HRR.out]; rfl, rfl⟩
  · obtain rfl : d = 46 := by omega
    have HRR := hid (show R = true by rw [HO.out]; decide)
    clear h h'
    go_enter Tryz.func94, Tryz.ntmps94
    go_wp2
    go_ret
    exact ⟨by rw [HRR.out]; rfl, rfl⟩
  · obtain rfl : d = 47 := by omega
    have HRR := hid (show R = false by rw [HO.out]; decide)
    clear h h'
    go_enter Tryz.func94, Tryz.ntmps94
    go_wp2
    go_ret
    exact ⟨by rw [HRR.out]; rfl, rfl⟩
  · have b0 : (48 : Int) ≤ (d : Int) := by omega
    have b1 : ¬ ((65 : Int) ≤ (d : Int)) := by omega
    have b2 : ¬ ((97 : Int) ≤ (d : Int)) := by omega
    have b3 : (d : Int) ≤ 57 := by omega
    have b4 : (d : Int) ≤ 90 := by omega
    have b5 : (d : Int) ≤ 122 := by omega
    have b6 : ((d : Int) == 45) = false := by rw [beq_eq_false_iff_ne]; omega
    have b7 : ((d : Int) == 46) = false := by rw [beq_eq_false_iff_ne]; omega
    have b8 : ((d : Int) == 95) = false := by rw [beq_eq_false_iff_ne]; omega
    have b9 : ((d : Int) == 126) = false := by rw [beq_eq_false_iff_ne]; omega
    have HRR := hid (show R = true by
      rw [HO.out]
      unfold ownR
      simp
      omega)
    clear h h'
    go_enter Tryz.func94, Tryz.ntmps94
    go_wp2
    go_ret
    exact ⟨by rw [HRR.out]; rfl, rfl⟩
  · have b0 : (48 : Int) ≤ (d : Int) := by omega
    have b1 : ¬ ((65 : Int) ≤ (d : Int)) := by omega
    have b2 : ¬ ((97 : Int) ≤ (d : Int)) := by omega
    have b3 : ¬ ((d : Int) ≤ 57) := by omega
    have b4 : (d : Int) ≤ 90 := by omega
    have b5 : (d : Int) ≤ 122 := by omega
    have b6 : ((d : Int) == 45) = false := by rw [beq_eq_false_iff_ne]; omega
    have b7 : ((d : Int) == 46) = false := by rw [beq_eq_false_iff_ne]; omega
    have b8 : ((d : Int) == 95) = false := by rw [beq_eq_false_iff_ne]; omega
    have b9 : ((d : Int) == 126) = false := by rw [beq_eq_false_iff_ne]; omega
    have HRR := hid (show R = false by
      rw [HO.out]
      unfold ownR
      simp
      omega)
    clear h h'
    go_enter Tryz.func94, Tryz.ntmps94
    go_wp2
    go_ret
    exact ⟨by rw [HRR.out]; rfl, rfl⟩
  · have b0 : (48 : Int) ≤ (d : Int) := by omega
    have b1 : (65 : Int) ≤ (d : Int) := by omega
    have b2 : ¬ ((97 : Int) ≤ (d : Int)) := by omega
    have b3 : ¬ ((d : Int) ≤ 57) := by omega
    have b4 : (d : Int) ≤ 90 := by omega
    have b5 : (d : Int) ≤ 122 := by omega
    have b6 : ((d : Int) == 45) = false := by rw [beq_eq_false_iff_ne]; omega
    have b7 : ((d : Int) == 46) = false := by rw [beq_eq_false_iff_ne]; omega
    have b8 : ((d : Int) == 95) = false := by rw [beq_eq_false_iff_ne]; omega
    have b9 : ((d : Int) == 126) = false := by rw [beq_eq_false_iff_ne]; omega
    have HRR := hid (show R = true by
      rw [HO.out]
      unfold ownR
      simp
      omega)
    clear h h'
    go_enter Tryz.func94, Tryz.ntmps94
    go_wp2
    go_ret
    exact ⟨by rw [HRR.out]; rfl, rfl⟩
  · have b0 : (48 : Int) ≤ (d : Int) := by omega
    have b1 : (65 : Int) ≤ (d : Int) := by omega
    have b2 : ¬ ((97 : Int) ≤ (d : Int)) := by omega
    have b3 : ¬ ((d : Int) ≤ 57) := by omega
    have b4 : ¬ ((d : Int) ≤ 90) := by omega
    have b5 : (d : Int) ≤ 122 := by omega
    have b6 : ((d : Int) == 45) = false := by rw [beq_eq_false_iff_ne]; omega
    have b7 : ((d : Int) == 46) = false := by rw [beq_eq_false_iff_ne]; omega
    have b8 : ((d : Int) == 95) = false := by rw [beq_eq_false_iff_ne]; omega
    have b9 : ((d : Int) == 126) = false := by rw [beq_eq_false_iff_ne]; omega
    have HRR := hid (show R = false by
      rw [HO.out]
      unfold ownR
      simp
      omega)
    clear h h'
    go_enter Tryz.func94, Tryz.ntmps94
    go_wp2
    go_ret
    exact ⟨by rw [HRR.out]; rfl, rfl⟩
  · obtain rfl : d = 95 := by omega
    have HRR := hid (show R = true by rw [HO.out]; decide)
    clear h h'
    go_enter Tryz.func94, Tryz.ntmps94
    go_wp2
    go_ret
    exact ⟨by rw [HRR.out]; rfl, rfl⟩
  · obtain rfl : d = 96 := by omega
    have HRR := hid (show R = false by rw [HO.out]; decide)
    clear h h'
    go_enter Tryz.func94, Tryz.ntmps94
    go_wp2
    go_ret
    exact ⟨by rw [HRR.out]; rfl, rfl⟩
  · have b0 : (48 : Int) ≤ (d : Int) := by omega
    have b1 : (65 : Int) ≤ (d : Int) := by omega
    have b2 : (97 : Int) ≤ (d : Int) := by omega
    have b3 : ¬ ((d : Int) ≤ 57) := by omega
    have b4 : ¬ ((d : Int) ≤ 90) := by omega
    have b5 : (d : Int) ≤ 122 := by omega
    have b6 : ((d : Int) == 45) = false := by rw [beq_eq_false_iff_ne]; omega
    have b7 : ((d : Int) == 46) = false := by rw [beq_eq_false_iff_ne]; omega
    have b8 : ((d : Int) == 95) = false := by rw [beq_eq_false_iff_ne]; omega
    have b9 : ((d : Int) == 126) = false := by rw [beq_eq_false_iff_ne]; omega
    have HRR := hid (show R = true by
      rw [HO.out]
      unfold ownR
      simp
      omega)
    clear h h'
    go_enter Tryz.func94, Tryz.ntmps94
    go_wp2
    go_ret
    exact ⟨by rw [HRR.out]; rfl, rfl⟩
  · have b0 : (48 : Int) ≤ (d : Int) := by omega
    have b1 : (65 : Int) ≤ (d : Int) := by omega
    have b2 : (97 : Int) ≤ (d : Int) := by omega
    have b3 : ¬ ((d : Int) ≤ 57) := by omega
    have b4 : ¬ ((d : Int) ≤ 90) := by omega
    have b5 : ¬ ((d : Int) ≤ 122) := by omega
    have b6 : ((d : Int) == 45) = false := by rw [beq_eq_false_iff_ne]; omega
    have b7 : ((d : Int) == 46) = false := by rw [beq_eq_false_iff_ne]; omega
    have b8 : ((d : Int) == 95) = false := by rw [beq_eq_false_iff_ne]; omega
    have b9 : ((d : Int) == 126) = false := by rw [beq_eq_false_iff_ne]; omega
    have HRR := hid (show R = false by
      rw [HO.out]
      unfold ownR
      simp
      omega)
    clear h h'
    go_enter Tryz.func94, Tryz.ntmps94
    go_wp2
    go_ret
    exact ⟨by rw [HRR.out]; rfl, rfl⟩
  · obtain rfl : d = 126 := by omega
    have HRR := hid (show R = true by rw [HO.out]; decide)
    clear h h'
    go_enter Tryz.func94, Tryz.ntmps94
    go_wp2
    go_ret
    exact ⟨by rw [HRR.out]; rfl, rfl⟩
  · have b0 : (48 : Int) ≤ (d : Int) := by omega
    have b1 : (65 : Int) ≤ (d : Int) := by omega
    have b2 : (97 : Int) ≤ (d : Int) := by omega
    have b3 : ¬ ((d : Int) ≤ 57) := by omega
    have b4 : ¬ ((d : Int) ≤ 90) := by omega
    have b5 : ¬ ((d : Int) ≤ 122) := by omega
    have b6 : ((d : Int) == 45) = false := by rw [beq_eq_false_iff_ne]; omega
    have b7 : ((d : Int) == 46) = false := by rw [beq_eq_false_iff_ne]; omega
    have b8 : ((d : Int) == 95) = false := by rw [beq_eq_false_iff_ne]; omega
    have b9 : ((d : Int) == 126) = false := by rw [beq_eq_false_iff_ne]; omega
    have HRR := hid (show R = false by
      rw [HO.out]
      unfold ownR
      simp
      omega)
    clear h h'
    go_enter Tryz.func94, Tryz.ntmps94
    go_wp2
    go_ret
    exact ⟨by rw [HRR.out]; rfl, rfl⟩
set_option maxRecDepth 100000 in
set_option maxHeartbeats 4000000 in
theorem percentR_fn (s : Str) (hs : s.length ≤ 100000) (w : World) : Calls Tryz.prog 45 #[.string ⟨s.toArray⟩] w fun e w' => e = .returned (.string ⟨(percE s).toArray⟩) ∧ Below w.heap.size w w' := by
  have hsz : (⟨s.toArray⟩ : ByteArray).size = s.length := Lib.size_mk _
  obtain ⟨R, hR⟩ : ∃ R, R = percE s := ⟨_, rfl⟩
  rw [← hR]
  have HR := hid hR
  clear hR
  go_enter Tryz.func45, Tryz.ntmps45
  go_wp2_with fail
  go_loopg [3, 7] s.length (fun k ov iv wr => ∃ (i : Nat) (l out : Str), ov = .string ⟨out.toArray⟩ ∧ iv = .int .i64 (i : Nat) ∧ At s l i ∧ R = out ++ percE l ∧ out.length ≤ 3 * i ∧ Below w.heap.size w wr ∧ k = l.length)
  case atStart => exact ⟨0, s, [], rfl, rfl, At.start s, HR.out, by simp, Below.refl _ _, rfl⟩
  case round =>
    obtain ⟨i, l, out, rfl, rfl, ha, hr, ho, hbl, rfl⟩ := hrel
    have hlen := ha.len
    have HA := hid ha
    have HRR := hid hr
    have HBL := hid hbl
    have hosz : (⟨out.toArray⟩ : ByteArray).size = out.length := Lib.size_mk _
    clear ha hr hbl
    cases l with
    | nil =>
      have hie : ¬ (i : Int) < (s.length : Int) := by simp at hlen; omega
      have hRo : R = out := by rw [HRR.out]; exact List.append_nil _
      subst hRo
      go_wp2
      go_ret
      exact ⟨rfl, HBL.out⟩
    | cons c t =>
      have hlt := HA.out.lt
      have hib := HA.out.byte
      have hii : (i : Int) < (s.length : Int) := by omega
      have hn := c.toNat_lt
      have HOW := hid (fun u => plainR_fn c u)
      have hext : (⟨s.toArray⟩ : ByteArray).extract i (i + 1) = ⟨#[c]⟩ := At.text (x := [c]) HA.out
      have hi0 : IntKind.i64.wrap ((i : Int) + 1) = (i : Int) + 1 := IntWalk.i64_in _ (by omega)
      have hi1 : ((i : Int) + 1).toNat = i + 1 := by omega
      have hi2 : (i : Int) ≤ (i : Int) + 1 := by omega
      have hi3 : (i : Int) + 1 ≤ (s.length : Int) := by omega
      cases hop : ownP c with
      | true =>
        have HRN := hid (show R = (out ++ [c]) ++ percE t by rw [HRR.out, percE, if_pos hop]; simp)
        rw [hop] at HOW
        clear hop
        go_wp2_with (go_at_call 94; refine (HOW.out _).mono ?_; rintro e wr ⟨rfl, rfl⟩)
        go_roundg t.length
        case measure => simp
        case rel => exact ⟨i + 1, t, out ++ [c], by go_num, by go_num, HA.out.tail, HRN.out, by simp; omega, HBL.out, rfl⟩
      | false =>
        have HRN := hid (show R = (out ++ ([37] ++ [hexU (c.toNat / 16), hexU (c.toNat % 16)])) ++ percE t by rw [HRR.out, percE, if_neg (by rw [hop]; decide)]; simp)
        rw [hop] at HOW
        have HHX := hid (fun u => hexR_fn [c] (by decide : (1 : Nat) ≤ 100000) u)
        have HUP := hid (fun u => upper_fn c u)
        have hob : out.length ≤ 300000 := by omega
        obtain ⟨a, b, hab⟩ : ∃ a b, ([hexU (c.toNat / 16), hexU (c.toNat % 16)] : Str) = [a, b] := ⟨_, _, rfl⟩
        have HUQ := hid (show ∀ u, Calls Tryz.prog 93 #[.string ⟨(hexE [c]).toArray⟩] u fun e w' => e = .returned (.string ⟨#[a, b]⟩) ∧ Below u.heap.size u w' from fun u => by
          have h := HUP.out u
          rw [show (#[hexU (c.toNat / 16), hexU (c.toNat % 16)] : Array UInt8) = #[a, b] from congrArg List.toArray hab] at h
          exact h)
        rw [hab] at HRN
        clear hop hab HUP
        go_wp2_with (first | (go_at_call 94; refine (HOW.out _).mono ?_; rintro e wr ⟨rfl, rfl⟩) | (go_at_call 43; (with_reducible refine (HHX.out _).mono ?_); rintro e w6 ⟨rfl, hb6⟩; have HB6 := hid hb6; clear hb6) | (go_at_call 93; (with_reducible refine (HUQ.out _).mono ?_); rintro e w7 ⟨rfl, hb7⟩; have HB7 := hid (HB6.out.trans (hb7.mono HB6.out.size)); clear hb7))
        go_roundg t.length
        case measure => simp
        case rel => exact ⟨i + 1, t, out ++ ([37] ++ [a, b]), by go_num, by go_num, HA.out.tail, HRN.out, by simp only [List.length_append, List.length_cons, List.length_nil]; omega, HBL.out.trans (HB7.out.mono HBL.out.size), rfl⟩
set_option maxRecDepth 1000000 in
theorem signslice (d : Nat) (h : d < 64) : (⟨#[65, 66, 67, 68, 69, 70, 71, 72, 73, 74, 75, 76, 77, 78, 79, 80, 81, 82, 83, 84, 85, 86, 87, 88, 89, 90, 97, 98, 99, 100, 101, 102, 103, 104, 105, 106, 107, 108, 109, 110, 111, 112, 113, 114, 115, 116, 117, 118, 119, 120, 121, 122, 48, 49, 50, 51, 52, 53, 54, 55, 56, 57, 43, 47]⟩ : ByteArray).extract d (d + 1) = ⟨#[b64L d]⟩ :=
  (show ∀ m : Fin 64, (⟨#[65, 66, 67, 68, 69, 70, 71, 72, 73, 74, 75, 76, 77, 78, 79, 80, 81, 82, 83, 84, 85, 86, 87, 88, 89, 90, 97, 98, 99, 100, 101, 102, 103, 104, 105, 106, 107, 108, 109, 110, 111, 112, 113, 114, 115, 116, 117, 118, 119, 120, 121, 122, 48, 49, 50, 51, 52, 53, 54, 55, 56, 57, 43, 47]⟩ : ByteArray).extract m.1 (m.1 + 1) = ⟨#[b64L m.1]⟩ from by decide) ⟨d, h⟩
set_option maxRecDepth 100000 in
set_option maxHeartbeats 8000000 in
theorem base64R_fn (s : Str) (hs : s.length ≤ 100000) (w : World) : Calls Tryz.prog 44 #[.string ⟨s.toArray⟩] w fun e w' => e = .returned (.string ⟨(b64E s).toArray⟩) ∧ Below w.heap.size w w' := by
  have hsz : (⟨s.toArray⟩ : ByteArray).size = s.length := Lib.size_mk _
  obtain ⟨M, hM⟩ : ∃ M, M = sixN s.length := ⟨_, rfl⟩
  obtain ⟨R, hR⟩ : ∃ R, R = b64E s := ⟨_, rfl⟩
  rw [← hR]
  obtain ⟨pd, hpd⟩ : ∃ pd, pd = (4 - M % 4) % 4 := ⟨_, rfl⟩
  have HR := hid (show R = sixes s M ++ List.replicate pd 61 by rw [hR, b64E_sixes, ← hM, hpd])
  clear hR
  have HS := hid (show Calls Tryz.prog 86 #[.agg #[.int .u8 66, .bool false, .int .i64 0], .string ⟨s.toArray⟩, .int .i64 (8 * (s.length : Int)), .int .i64 8] w fun e w' => e = .returned (.string ⟨(bitsTo s (8 * s.length)).toArray⟩) ∧ Below w.heap.size w w' by
    have h := spread8_fn 66 false 0 rfl rfl s hs (8 * s.length) (fun i hi => by omega) (by omega) w
    rw [tell_bits, Int.natCast_mul] at h
    exact h)
  have hM6 : 8 * s.length ≤ 6 * M ∧ 6 * M < 8 * s.length + 6 := by rw [hM]; unfold sixN; omega
  obtain ⟨hMa, hMb⟩ := hM6
  clear hM
  go_enter Tryz.func44, Tryz.ntmps44
  go_wp2_with (go_at_call 86; (with_reducible refine HS.out.mono ?_); rintro e w1 ⟨rfl, hb1⟩; have HB1 := hid hb1; clear hb1)
  go_loopg [3] (6 * M - 8 * s.length) (fun k bv wr => ∃ (m : Nat) (b : Str), b = bitsTo s m ∧ bv = .string ⟨b.toArray⟩ ∧ 8 * s.length ≤ m ∧ m ≤ 6 * M ∧ wr = w1 ∧ k = 6 * M - m)
  case atStart => exact ⟨8 * s.length, _, rfl, rfl, Nat.le_refl _, hMa, rfl, rfl⟩
  case round =>
    obtain ⟨m, b, hbe, rfl, hma, hmb, hw, hk⟩ := hrel
    replace hk := hk.symm
    subst hk
    replace hw := hw.symm
    subst hw
    have hbsz : (⟨b.toArray⟩ : ByteArray).size = m := by rw [Lib.size_mk, hbe]; exact bitsTo_len _ _
    have HBE := hid hbe
    clear hbe
    rcases Nat.lt_or_ge m (6 * M) with hlt | hge
    · obtain ⟨q, hq⟩ : ∃ q, q = m % 6 := ⟨_, rfl⟩
      have htm : Int.tmod (m : Int) 6 = (q : Int) := by rw [Int.tmod_eq_emod_of_nonneg (by omega)]; omega
      have hq6 : q < 6 := by omega
      have hwq : IntKind.i64.wrap (q : Int) = (q : Int) := IntWalk.i64_in _ (by omega)
      have hqn : ((q : Int) != 0) = true := by rw [bne_iff_ne]; omega
      have HPD := hid (show b ++ [48] = bitsTo s (m + 1) by rw [HBE.out, bitsTo_pad s m hma])
      clear hq
      go_wp2
      go_roundg (6 * M - (m + 1))
      case measure => omega
      case rel => exact ⟨m + 1, b ++ [48], HPD.out, by go_num, by omega, hlt, rfl, rfl⟩
    · obtain rfl : m = 6 * M := by omega
      have htm : Int.tmod ((6 * M : Nat) : Int) 6 = 0 := by rw [Int.tmod_eq_emod_of_nonneg (by omega)]; omega
      obtain ⟨L, hL⟩ : ∃ L, L = 6 * M := ⟨_, rfl⟩
      have HL := hid hL
      rw [← hL] at htm hbsz HBE
      have hL9 : L ≤ 1000000 := by omega
      clear hma hmb hge hL hMa hMb
      go_wp2
      go_loopg [4, 5] M (fun k ov iv wr => ∃ (i I : Nat) (o : Str), I = 6 * i ∧ o = sixes s i ∧ ov = .string ⟨o.toArray⟩ ∧ iv = .int .i64 (I : Nat) ∧ i ≤ M ∧ wr = w1 ∧ k = M - i)
      case atStart => exact ⟨0, 0, [], rfl, rfl, rfl, rfl, Nat.zero_le _, rfl, rfl⟩
      case round =>
        obtain ⟨i, I, o, hI, hoe, rfl, rfl, hiM, hw, hk⟩ := hrel
        replace hk := hk.symm
        subst hk
        replace hw := hw.symm
        subst hw
        have hosz : (⟨o.toArray⟩ : ByteArray).size = i := by rw [Lib.size_mk, hoe]; exact sixes_len _ _
        have HOE := hid hoe
        have HLL := HL.out
        clear hoe
        rcases Nat.lt_or_ge i M with hlt | hge
        · have hIL : (I : Int) < (L : Int) := by omega
          have hI9 : I + 6 ≤ L := by omega
          have HI := hid hI
          have hi9 : i ≤ 1000000 := by omega
          clear HLL hI
          go_wp2
          go_loopg [6, 26] 6 (fun k vv jv wx => ∃ (j V : Nat), j ≤ 6 ∧ V = valG s I j ∧ vv = .int .i64 (V : Nat) ∧ jv = .int .i64 (j : Nat) ∧ wx = w1 ∧ k = 6 - j)
          case atStart => exact ⟨0, 0, by decide, rfl, rfl, rfl, rfl, rfl⟩
          case round =>
            obtain ⟨j, V, hj6, hV, rfl, rfl, hw, hk⟩ := hrel
            replace hk := hk.symm
            subst hk
            replace hw := hw.symm
            subst hw
            have hVl : V < 2 ^ j := by rw [hV]; exact valG_lt _ _ _
            have hV64 : V < 64 := Nat.lt_of_lt_of_le hVl (Nat.le_trans (Nat.pow_le_pow_right (by decide) hj6) (by decide))
            have HV := hid hV
            clear hV hVl
            rcases Nat.lt_or_ge j 6 with hlt6 | hge6
            · have hj6I : (j : Int) < 6 := by omega
              obtain ⟨J, hJ⟩ : ∃ J, J = I + j := ⟨_, rfl⟩
              have hJI : (I : Int) + (j : Int) = (J : Int) := by omega
              have hwJ : IntKind.i64.wrap (J : Int) = (J : Int) := IntWalk.i64_in _ (by omega)
              have hJb : J < b.length := by rw [HBE.out, bitsTo_len]; omega
              have hbyte := (At.here hJb).byte
              obtain ⟨x, hx⟩ : ∃ x, x = b[J] := ⟨_, rfl⟩
              rw [← hx] at hbyte
              obtain ⟨bt, hbt⟩ : ∃ bt, bt = bitS s J := ⟨_, rfl⟩
              have hbt2 : bt < 2 := by rw [hbt]; exact bitS_lt _ _
              have hxe : x.toNat = 48 + bt := by
                have h1 : x = hexD (bitS s J) := by
                  rw [hx]
                  have hbt3 : bitsTo s L = b := HBE.out.symm
                  subst hbt3
                  exact bitsTo_at s L J _
                rw [h1, ← hbt, hexD_bit bt hbt2]
              have hsub : IntKind.u8.wrap ((x.toNat : Int) - 48) = (bt : Int) := by rw [hxe, IntKind.wrap_u8]; omega
              have hwb : IntKind.i64.wrap (bt : Int) = (bt : Int) := IntWalk.i64_in _ (by omega)
              have HVN := hid (show 2 * V + bt = valG s I (j + 1) by rw [valG, ← HV.out, ← hJ, ← hbt])
              have hJL : (J : Int) < (L : Int) := by omega
              have hJ0 : (0 : Int) ≤ (J : Int) := by omega
              clear hx hbt hxe hJ
              go_wp2
              go_roundg (6 - (j + 1))
              case measure => omega
              case rel => exact ⟨j + 1, 2 * V + bt, hlt6, HVN.out, by go_num, by go_num, rfl, rfl⟩
            · obtain rfl : j = 6 := by omega
              have HSX := hid (show V = six s i by rw [HV.out, HI.out, six_eq])
              have hext := signslice V hV64
              have hd1 : IntKind.i64.wrap ((V : Int) + 1) = (V : Int) + 1 := IntWalk.i64_in _ (by omega)
              have hd2 : ((V : Int) + 1).toNat = V + 1 := by omega
              have hd3 : (V : Int) ≤ (V : Int) + 1 := by omega
              have hd4 : (V : Int) + 1 ≤ 64 := by omega
              have hd5 : (0 : Int) ≤ (V : Int) + 1 := by omega
              have HON := hid (show o ++ [b64L V] = sixes s (i + 1) by rw [sixes_snoc, HOE.out, HSX.out])
              rw [show ((6 : Nat) : Int) = 6 from rfl]
              clear hge6
              go_wp2
              go_roundg (M - (i + 1))
              case measure => omega
              case rel => exact ⟨i + 1, I + 6, o ++ [b64L V], by rw [HI.out]; omega, HON.out, by go_num, by go_num, hlt, rfl, rfl⟩
        · have hiM2 : i = M := by omega
          have hIL : ¬ (I : Int) < (L : Int) := by omega
          clear HLL hge hI
          go_wp2
          go_loopg [4] pd (fun k ov wr => ∃ (j N : Nat) (r : Str), N = M + j ∧ r = sixes s M ++ List.replicate j 61 ∧ ov = .string ⟨r.toArray⟩ ∧ j ≤ pd ∧ wr = w1 ∧ k = pd - j)
          case atStart => exact ⟨0, M, o, rfl, by rw [HOE.out, hiM2]; exact (List.append_nil _).symm, rfl, Nat.zero_le _, rfl, rfl⟩
          case round =>
            obtain ⟨j, N, r, hN, hre, rfl, hjp, hw, hk⟩ := hrel
            replace hk := hk.symm
            subst hk
            replace hw := hw.symm
            subst hw
            have hrsz : (⟨r.toArray⟩ : ByteArray).size = N := by rw [Lib.size_mk, hre, List.length_append, sixes_len, List.length_replicate, hN]
            have HRE := hid hre
            have HLL := HL.out
            clear hre
            rcases Nat.lt_or_ge j pd with hlt | hge
            · obtain ⟨q, hq⟩ : ∃ q, q = N % 4 := ⟨_, rfl⟩
              have htm4 : Int.tmod (N : Int) 4 = (q : Int) := by rw [Int.tmod_eq_emod_of_nonneg (by omega)]; omega
              have hq4 : q < 4 := by omega
              have hwq : IntKind.i64.wrap (q : Int) = (q : Int) := IntWalk.i64_in _ (by omega)
              have hqn : ((q : Int) != 0) = true := by rw [bne_iff_ne]; omega
              have HPN := hid (show r ++ [61] = sixes s M ++ List.replicate (j + 1) 61 by rw [HRE.out, List.replicate_succ', List.append_assoc])
              have hN9 : N ≤ 1000000 := by omega
              clear hq
              go_wp2
              go_roundg (pd - (j + 1))
              case measure => omega
              case rel => exact ⟨j + 1, N + 1, r ++ [61], by omega, HPN.out, by go_num, hlt, rfl, rfl⟩
            · obtain rfl : j = pd := by omega
              have htm4 : Int.tmod (N : Int) 4 = 0 := by rw [Int.tmod_eq_emod_of_nonneg (by omega)]; omega
              go_wp2
              go_ret
              exact ⟨by rw [HR.out, ← HRE.out]; rfl, HB1.out⟩
end Go.Proofs.YtihdndaibmgoiaaGreatDoor.Pz
