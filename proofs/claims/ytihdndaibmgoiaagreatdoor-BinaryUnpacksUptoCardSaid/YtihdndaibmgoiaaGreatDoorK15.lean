/-
  Part K15 of the proofs of this seat: contracts of functions and plain facts, merged from 3 texts.
-/
import Derived.Lib.ConvBytes
import Derived.Test.YtihdndaibmgoiaaGreatDoorK0
import Derived.Test.YtihdndaibmgoiaaGreatDoorK1
import Derived.Test.YtihdndaibmgoiaaGreatDoorK2
import Derived.Test.YtihdndaibmgoiaaGreatDoorK3
import Derived.Test.YtihdndaibmgoiaaGreatDoorK4
import Derived.Test.YtihdndaibmgoiaaGreatDoorK5
import Derived.Test.YtihdndaibmgoiaaGreatDoorK6
import Derived.Test.YtihdndaibmgoiaaGreatDoorK7
import Derived.Test.YtihdndaibmgoiaaGreatDoorK8
import Derived.Test.YtihdndaibmgoiaaGreatDoorK9
import Derived.Test.YtihdndaibmgoiaaGreatDoorK10
import Derived.Test.YtihdndaibmgoiaaGreatDoorK11
import Derived.Test.YtihdndaibmgoiaaGreatDoorK12
import Derived.Test.YtihdndaibmgoiaaGreatDoorK13
import Derived.Test.YtihdndaibmgoiaaGreatDoorK14
/-
  The reference 10: told.
-/
namespace Go.Proofs.YtihdndaibmgoiaaGreatDoor.Pz
open Go.RowKit
attribute [local go_sem] Oper.semAt_some
theorem itoa_byte (c : UInt8) : Lib.itoa (c.toNat : Int) = txt (c.toNat : Int) := by
  have h : (List.range 256).all (fun n => Lib.itoa (n : Int) == txt (n : Int)) = true := by kernel_rfl
  have h2 := List.all_eq_true.1 h c.toNat (List.mem_range.2 c.toNat_lt)
  exact eq_of_beq h2
set_option maxHeartbeats 2000000 in
theorem ofByte_fn (c : UInt8) (w : World) (htab : Tab w) : Calls Tryz.prog 18 #[.int .i64 (c.toNat : Nat)] w fun e w' => e = .returned (.string ⟨(txt (c.toNat : Int)).toArray⟩) ∧ Below w.heap.size w w' := by
  have hcl := c.toNat_lt
  have HC := hid (Tryz.strconv_Itoa (c.toNat : Int) (by omega) (by omega) w htab)
  rw [itoa_byte] at HC
  have HCC := hid (show Calls Tryz.prog 69 #[.int .i64 (c.toNat : Nat)] w fun e w' => e = .returned (.string ⟨(txt (c.toNat : Int)).toArray⟩) ∧ Below w.heap.size w w' from HC.out.mono (by rintro e w1 ⟨rfl, k, os, rfl⟩; exact ⟨rfl, below_grow w k os⟩))
  clear htab HC
  go_enter Tryz.func18, Tryz.ntmps18
  go_wp2_with (go_at_call 69; (with_reducible refine HCC.out.mono ?_); rintro e w1 ⟨rfl, hb1⟩)
  go_ret
  exact ⟨rfl, hb1⟩
theorem t256 : txt 256 = [50, 53, 54] := by kernel_rfl
theorem t0 : txt 0 = [48] := by kernel_rfl
theorem t1 : txt 1 = [49] := by kernel_rfl
theorem pow256 (n : Nat) (h : n ≤ 8) : 256 ^ n ≤ 18446744073709551616 := Nat.le_trans (Nat.pow_le_pow_right (by decide) h) (by decide)
theorem times256 (N : Nat) (hN : N * 256 ≤ 18446744073709551616) (w : World) : Calls Tryz.prog 13 #[.string ⟨(txt (N : Int)).toArray⟩, .string ⟨#[50, 53, 54]⟩] w fun e w' => e = .returned (.tuple #[.string ⟨(txt ((N * 256 : Nat) : Int)).toArray⟩, .int .i64 0]) ∧ Below w.heap.size w w' := by
  have hN1 : (N : Int).natAbs < big600 := big_room _ (by omega)
  have h := mulR_fn (txt (N : Int)) (txt 256) (Nat.le_trans (txt_len _ hN1) (by decide)) (Nat.le_trans (txt_len _ (big_room _ (by decide))) (by decide)) w
  rw [mul_txt _ _ hN1 (big_room _ (by decide)) (big_room _ (by omega)), t256] at h
  rw [Int.natCast_mul]
  exact h
theorem plus_txt (N M : Nat) (hN : N + M ≤ 18446744073709551616) (w : World) : Calls Tryz.prog 160 #[.string ⟨(txt (N : Int)).toArray⟩, .string ⟨(txt (M : Int)).toArray⟩] w fun e w' => e = .returned (.tuple #[.string ⟨(txt ((N + M : Nat) : Int)).toArray⟩, .int .i64 0]) ∧ Below w.heap.size w w' := by
  have hN1 : (N : Int).natAbs < big600 := big_room _ (by omega)
  have hM1 : (M : Int).natAbs < big600 := big_room _ (by omega)
  have h := addR_fn (txt (N : Int)) (txt (M : Int)) (Nat.le_trans (txt_len _ hN1) (by decide)) (Nat.le_trans (txt_len _ hM1) (by decide)) w
  rw [add_txt _ _ hN1 hM1 (big_room _ (by omega))] at h
  rw [Int.natCast_add]
  exact h
theorem minus_txt (N M : Nat) (hN : N ≤ 18446744073709551616) (hM : M ≤ 18446744073709551616) (w : World) : Calls Tryz.prog 17 #[.string ⟨(txt (N : Int)).toArray⟩, .string ⟨(txt (M : Int)).toArray⟩] w fun e w' => e = .returned (.tuple #[.string ⟨(txt ((N : Int) - (M : Int))).toArray⟩, .int .i64 0]) ∧ Below w.heap.size w w' := by
  have hN1 : (N : Int).natAbs < big600 := big_room _ (by omega)
  have hM1 : (M : Int).natAbs < big600 := big_room _ (by omega)
  have h := subR_fn (txt (N : Int)) (txt (M : Int)) (Nat.le_trans (txt_len _ hN1) (by decide)) (Nat.le_trans (txt_len _ hM1) (by decide)) w
  rw [sub_txt _ _ hN1 hM1 (big_room _ (by omega))] at h
  exact h
set_option maxRecDepth 1000000 in
set_option maxHeartbeats 8000000 in
theorem told_fn (g cap : Nat) (l : Str) (hl1 : 1 ≤ l.length) (hl8 : l.length ≤ 8) (pl : Bool) (w : World) (hg : g < w.heap.size) (hc : ∀ j (h : j < l.length), w.cell? ⟨g, j, none⟩ = some (.int .u8 (l[j].toNat : Nat))) (htab : Tab w) :
    Calls Tryz.prog 134 #[.slice (some ⟨g, 0, none⟩) l.length cap, .bool pl] w fun e w' => e = .returned (.string ⟨(txt (toldZ pl l)).toArray⟩) ∧ Below w.heap.size w w' := by
  have HC := hid hc
  have HT := hid htab
  have HM := hid (fun N h u => times256 N h u)
  have HA := hid (fun N M h u => plus_txt N M h u)
  have HO := hid (fun c u h => ofByte_fn c u h)
  have HS := hid (fun N M h1 h2 u => minus_txt N M h1 h2 u)
  obtain ⟨n, hn⟩ : ∃ n, n = l.length := ⟨_, rfl⟩
  rw [← hn] at hl1 hl8 ⊢
  have HN := hid hn
  obtain ⟨R, hR⟩ : ∃ R, R = txt (toldZ pl l) := ⟨_, rfl⟩
  rw [← hR]
  have HR := hid hR
  clear hc htab hn hR
  go_enter Tryz.func134, Tryz.ntmps134
  go_wp2_with fail
  go_loopg [5, 6] n (fun k nv iv wr => ∃ (j N : Nat) (o : Str), j ≤ n ∧ N = ofLE (l.drop j) ∧ o = txt (N : Int) ∧ nv = .string ⟨o.toArray⟩ ∧ iv = .int .i64 ((j : Int) - 1) ∧ Below w.heap.size w wr ∧ k = j)
  case atStart => exact ⟨n, 0, [48], Nat.le_refl _, by rw [List.drop_eq_nil_of_le (by rw [← HN.out]; exact Nat.le_refl _)]; rfl, t0.symm, rfl, by go_num, Below.refl _ _, rfl⟩
  case round =>
    obtain ⟨j, N, o, hj, hNe, hoe, rfl, rfl, hbl, hk⟩ := hrel
    replace hk := hk.symm
    subst hk
    have HNE := hid hNe
    have HOE := hid hoe
    have HBL := hid hbl
    clear hNe hoe hbl
    cases j with
    | succ m =>
      have hmI : ((m + 1 : Nat) : Int) - 1 = (m : Int) := by omega
      rw [hmI]
      have hml : m < l.length := by rw [← HN.out]; omega
      have hm0 : (0 : Int) ≤ (m : Int) := by omega
      have hmn : (m : Int) < (n : Int) := by omega
      obtain ⟨x, hx⟩ : ∃ x, x = l[m] := ⟨_, rfl⟩
      have hcx : wr.cell? ⟨g, m, none⟩ = some (.int .u8 (x.toNat : Nat)) := by rw [hx, HBL.out.cell (p := ⟨g, m, none⟩) hg]; exact HC.out m hml
      have hcx2 : wr.cell? ((⟨g, 0, none⟩ : Addr).add m) = some (.int .u8 (x.toNat : Nat)) := by rw [add_none, Nat.zero_add]; exact hcx
      have hxl := x.toNat_lt
      have hwx : IntKind.i64.wrap (x.toNat : Int) = (x.toNat : Int) := IntWalk.i64_in _ (by omega)
      have hdr : l.drop m = x :: l.drop (m + 1) := by rw [hx]; exact List.drop_eq_getElem_cons hml
      have HNX := hid (show N * 256 + x.toNat = ofLE (l.drop m) by
        rw [hdr, HNE.out]
        show _ = x.toNat + 256 * ofLE (l.drop (m + 1))
        omega)
      have hlt := ofLE_lt (l.drop m)
      rw [← HNX.out, List.length_drop] at hlt
      have hp := pow256 (l.length - m) (by rw [← HN.out]; omega)
      have HMM := hid (HM.out N (by omega))
      have HAA := hid (HA.out (N * 256) x.toNat (by omega))
      rw [← HOE.out] at HMM
      have HOO := hid (fun u h => HO.out x u h)
      obtain ⟨q1, hq1⟩ : ∃ q1, q1 = txt ((N * 256 : Nat) : Int) := ⟨_, rfl⟩
      obtain ⟨q2, hq2⟩ : ∃ q2, q2 = txt (x.toNat : Int) := ⟨_, rfl⟩
      obtain ⟨q3, hq3⟩ : ∃ q3, q3 = txt ((N * 256 + x.toNat : Nat) : Int) := ⟨_, rfl⟩
      rw [← hq1] at HMM HAA
      rw [← hq2] at HAA HOO
      rw [← hq3] at HAA
      have HQ3 := hid hq3
      clear hx hdr hlt hp hq1 hq2 hq3 hmI
      go_wp2_with (first | (go_at_call 13; (with_reducible refine (HMM.out _).mono ?_); rintro e w2 ⟨rfl, hb2⟩; have hcy := (hb2.cell (p := ⟨g, m, none⟩) (by have := HBL.out.size; show g < wr.heap.size; omega)).trans hcx; have hcy2 : w2.cell? ((⟨g, 0, none⟩ : Addr).add m) = some (.int .u8 (x.toNat : Nat)) := (by rw [add_none, Nat.zero_add]; exact hcy); have HB2 := hid (HBL.out.trans (hb2.mono HBL.out.size)); clear hb2) | (go_at_call 18; (with_reducible refine (HOO.out _ (HT.out.below HB2.out)).mono ?_); rintro e w3 ⟨rfl, hb3⟩; have HB3 := hid (HB2.out.trans (hb3.mono HB2.out.size)); clear hb3) | (go_at_call 160; (with_reducible refine (HAA.out _).mono ?_); rintro e w4 ⟨rfl, hb4⟩; have HB4 := hid (HB3.out.trans (hb4.mono HB3.out.size)); clear hb4))
      go_roundg m
      case measure => omega
      case rel => exact ⟨m, N * 256 + x.toNat, q3, by omega, HNX.out, HQ3.out, rfl, by go_num, HB4.out, rfl⟩
    | zero =>
      have hneg : ¬ ((0 : Int) ≤ ((0 : Nat) : Int) - 1) := by decide
      have HN0 := hid (show N = ofLE l by rw [HNE.out, List.drop_zero])
      obtain ⟨p, x, hpx⟩ : ∃ p x, l = p ++ [x] := by
        rcases List.eq_nil_or_concat l with h | ⟨p, x, h⟩
        · rw [h] at HN; have := HN.out; simp at this; omega
        · exact ⟨p, x, by rw [h, List.concat_eq_append]⟩
      have hpl : p.length + 1 = n := by rw [HN.out, hpx, List.length_append]; rfl
      have htop := ofLE_top p x
      rw [← hpx, ← HN0.out, ← HN.out] at htop
      have hcx : wr.cell? ⟨g, p.length, none⟩ = some (.int .u8 (x.toNat : Nat)) := by
        have h1 := HC.out p.length (by rw [hpx, List.length_append]; simp only [List.length_cons, List.length_nil]; omega)
        rw [HBL.out.cell (p := ⟨g, p.length, none⟩) hg, h1]
        have h2 : l[p.length]'(by rw [hpx, List.length_append]; simp only [List.length_cons, List.length_nil]; omega) = x := by
          subst hpx
          simp
        rw [h2]
      obtain ⟨m, hm⟩ : ∃ m, m = p.length := ⟨_, rfl⟩
      rw [← hm] at hcx
      have hcx2 : wr.cell? ((⟨g, 0, none⟩ : Addr).add m) = some (.int .u8 (x.toNat : Nat)) := by rw [add_none, Nat.zero_add]; exact hcx
      have hmI : (n : Int) - 1 = (m : Int) := by omega
      have hm0 : (0 : Int) ≤ (m : Int) := by omega
      have hmn : (m : Int) < (n : Int) := by omega
      have hxl := x.toNat_lt
      have hNl : N ≤ 18446744073709551616 := by
        have h1 := ofLE_lt l
        rw [← HN0.out, ← HN.out] at h1
        exact Nat.le_trans (Nat.le_of_lt h1) (pow256 n hl8)
      have HTOP := hid htop
      clear htop hpx hpl hm
      cases pl with
      | true =>
        have HRR := hid (show R = o by rw [HR.out, HOE.out, HN0.out]; rfl)
        go_wp2
        go_ret
        exact ⟨by rw [HRR.out]; rfl, HBL.out⟩
      | false =>
        by_cases h128 : 128 ≤ x.toNat
        · have h128I : (128 : Int) ≤ (x.toNat : Int) := by omega
          have HRR := hid (show R = txt ((N : Int) - ((256 ^ n : Nat) : Int)) by
            rw [HR.out]
            unfold toldZ signedE
            rw [if_neg (by decide), ← HN0.out, ← HN.out, if_pos (by rw [HTOP.out]; exact h128), Nat.pow_mul])
          clear h128
          go_wp2_with fail
          go_loopg [7, 44] n (fun k lv iv wx => ∃ (j M : Nat) (q : Str), j ≤ n ∧ M = 256 ^ j ∧ q = txt (M : Int) ∧ lv = .string ⟨q.toArray⟩ ∧ iv = .int .i64 (j : Nat) ∧ Below w.heap.size w wx ∧ k = n - j)
          case atStart => exact ⟨0, 1, [49], Nat.zero_le _, rfl, t1.symm, rfl, rfl, HBL.out, rfl⟩
          case round =>
            obtain ⟨j, M, q, hj2, hMe, hqe, rfl, rfl, hbx, hk⟩ := hrel
            replace hk := hk.symm
            subst hk
            have HME := hid hMe
            have HQE := hid hqe
            have HBX := hid hbx
            clear hMe hqe hbx
            rcases Nat.lt_or_ge j n with hlt | hge
            · have hltI : (j : Int) < (n : Int) := by omega
              have HPW := hid (show M * 256 = 256 ^ (j + 1) by rw [HME.out, Nat.pow_succ])
              have HMM := hid (HM.out M (by rw [HPW.out]; exact pow256 (j + 1) (by omega)))
              rw [← HQE.out] at HMM
              obtain ⟨q1, hq1⟩ : ∃ q1, q1 = txt ((M * 256 : Nat) : Int) := ⟨_, rfl⟩
              rw [← hq1] at HMM
              have HQ1 := hid hq1
              clear hq1
              go_wp2_with (go_at_call 13; (with_reducible refine (HMM.out _).mono ?_); rintro e w2 ⟨rfl, hb2⟩; have HB2 := hid (HBX.out.trans (hb2.mono HBX.out.size)); clear hb2)
              go_roundg (n - (j + 1))
              case measure => omega
              case rel => exact ⟨j + 1, M * 256, q1, hlt, HPW.out, HQ1.out, rfl, by go_num, HB2.out, rfl⟩
            · have hjn : j = n := by omega
              have hnl : ¬ ((j : Int) < (n : Int)) := by omega
              have hM9 : M ≤ 18446744073709551616 := by rw [HME.out, hjn]; exact pow256 n hl8
              have HSS := hid (HS.out N M hNl hM9)
              rw [← HOE.out, ← HQE.out] at HSS
              have HRM := hid (show R = txt ((N : Int) - (M : Int)) by rw [HRR.out, HME.out, hjn])
              rw [← HRM.out] at HSS
              clear hjn hM9 hge
              go_wp2_with (go_at_call 17; (with_reducible refine (HSS.out _).mono ?_); rintro e w2 ⟨rfl, hb2⟩; have HB2 := hid (HBX.out.trans (hb2.mono HBX.out.size)); clear hb2)
              go_ret
              exact ⟨rfl, HB2.out⟩
        · have h128I : ¬ ((128 : Int) ≤ (x.toNat : Int)) := by omega
          have HRR := hid (show R = o by
            rw [HR.out, HOE.out]
            unfold toldZ signedE
            rw [if_neg (by decide), ← HN0.out, ← HN.out, if_neg (by rw [HTOP.out]; exact h128)])
          clear h128
          go_wp2
          go_ret
          exact ⟨by rw [HRR.out]; rfl, HBL.out⟩
end Go.Proofs.YtihdndaibmgoiaaGreatDoor.Pz
/-
  The reference 10: unpacked.
-/
namespace Go.Proofs.YtihdndaibmgoiaaGreatDoor.Pz
open Go.RowKit
attribute [local go_sem] Oper.semAt_some
theorem bytesWorld_fr0 (w : World) (s : ByteArray) (i : Nat) (hi : i < s.size) : (Lib.bytesWorld w 5 s).frozen? ⟨w.heap.size, i, none⟩ = false := by
  unfold World.frozen?
  rw [Lib.bytesWorld_at_new]
  have h : s.size ≤ (Lib.bytesCells w 5 s).size := by
    unfold Lib.bytesCells
    simp only [Array.size_append, Array.size_map]
    have : s.data.size = s.size := rfl
    omega
  simp
  omega
/-- a row that is turned round from both ends, so far -/
def rvF (x : Str) (a j : Nat) : UInt8 := if j < a ∨ x.length - 1 < a + j then x.getD (x.length - 1 - j) 0 else x.getD j 0
theorem rvF_start (x : Str) {j : Nat} (h : j < x.length) : rvF x 0 j = x.getD j 0 := by
  unfold rvF
  rw [if_neg (by omega)]
theorem rvF_end (x : Str) {a j : Nat} (ha : x.length ≤ 2 * a + 1) (h : j < x.length) : rvF x a j = x.reverse.getD j 0 := by
  have e : x.reverse.getD j 0 = x.getD (x.length - 1 - j) 0 := by
    rw [List.getD_eq_getElem?_getD, List.getD_eq_getElem?_getD, List.getElem?_reverse h]
  rw [e]
  unfold rvF
  split
  · rfl
  · rename_i hn
    rw [show x.length - 1 - j = j by omega]
theorem rvF_step (x : Str) {a : Nat} (ha : 2 * a + 1 < x.length) (j : Nat) (hj : j < x.length) : rvF x (a + 1) j = if j = x.length - 1 - a then x.getD a 0 else if j = a then x.getD (x.length - 1 - a) 0 else rvF x a j := by
  unfold rvF
  by_cases h1 : j = x.length - 1 - a
  · rw [if_pos h1, if_pos (by omega), show x.length - 1 - j = a by omega]
  · rw [if_neg h1]
    by_cases h2 : j = a
    · rw [if_pos h2, if_pos (by omega), h2]
    · rw [if_neg h2]
      by_cases h3 : j < a ∨ x.length - 1 < a + j
      · rw [if_pos h3, if_pos (by omega)]
      · rw [if_neg h3, if_neg (by omega)]
theorem numsU_sum2 (c : UInt8) (p : Bool) (k : Nat) (hk : k ≤ 8) (s : Str) (i : Nat) : sumT (numsU c p k s i) ≤ 40 * i := numsU_sum c p k hk s i
set_option maxRecDepth 1000000 in
set_option maxHeartbeats 8000000 in
theorem unpackedR_fn (c : UInt8) (p : Bool) (cnt : Int) (hw1 : 1 ≤ widthL c) (hgr : grt c = highL c) (t : Str) (N : Nat) (ht : t.length = widthL c * N) (hN : N ≤ 100000) (ht9 : t.length ≤ 1000000) (w : World) (htab : Tab w) :
    Calls Tryz.prog 87 #[.agg #[.int .u8 (c.toNat : Nat), .bool p, .int .i64 cnt], .string ⟨t.toArray⟩] w fun e w' => e = .returned (.string ⟨(joinB (numsU c p (widthL c) t N)).toArray⟩) ∧ Below w.heap.size w w' := by
  have hsz : (⟨t.toArray⟩ : ByteArray).size = t.length := Lib.size_mk _
  obtain ⟨K, hK⟩ : ∃ K, K = widthL c := ⟨_, rfl⟩
  have hK8 : K ≤ 8 := by rw [hK]; unfold widthL; split <;> (try split) <;> (try split) <;> (try split) <;> omega
  have HSZ := hid (show ∀ u, Calls Tryz.prog 83 #[.int .u8 (c.toNat : Nat)] u fun e w' => e = .returned (.int .i64 (K : Nat)) ∧ w' = u from fun u => by rw [hK]; exact sizeR_fn c u)
  obtain ⟨hi, hhi⟩ : ∃ hi, hi = highL c := ⟨_, rfl⟩
  have HGR := hid (show ∀ u, Calls Tryz.prog 133 #[.int .u8 (c.toNat : Nat)] u fun e w' => e = .returned (.bool hi) ∧ w' = u from fun u => by have h := great_fn c u; rw [hgr, ← hhi] at h; exact h)
  rw [← hK] at hw1 ht ⊢
  have HHI := hid hhi
  have HT := hid htab
  obtain ⟨M, hM⟩ : ∃ M, M = t.length := ⟨_, rfl⟩
  rw [← hM] at hsz ht ht9
  have HML := hid ht
  have HTL := hid hM
  obtain ⟨w0, hw0⟩ : ∃ w0, w0 = w.alloc (.cells #[.int .u8 (c.toNat : Nat), .bool p, .int .i64 cnt] 103) := ⟨_, rfl⟩
  have c0 : w0.cell? ⟨w.heap.size, 0, none⟩ = some (.int .u8 (c.toNat : Nat)) := by rw [hw0, Lib.cell_of_heap (heap_alloc_new _ _)]; rfl
  have c1 : w0.cell? ⟨w.heap.size, 1, none⟩ = some (.bool p) := by rw [hw0, Lib.cell_of_heap (heap_alloc_new _ _)]; rfl
  have HC0 := hid c0
  have HC1 := hid c1
  have HB0 := hid (show Below w.heap.size w w0 by rw [hw0]; exact (Below.refl _ _).alloc (Nat.le_refl _) _)
  have HZ0 := hid (show w.heap.size < w0.heap.size by rw [hw0]; simp)
  have HW0 := hid hw0
  obtain ⟨R, hR⟩ : ∃ R, R = joinB (numsU c p K t N) := ⟨_, rfl⟩
  rw [← hR]
  have HR := hid hR
  clear hw0 hK hgr hhi htab hM hR c1 ht
  go_enter Tryz.func87, Tryz.ntmps87
  go_wp2_with (first | (rw [← HW0.out]; fail) | (go_at_call 83; rw [← HW0.out]; (with_reducible refine (HSZ.out _).mono ?_); rintro e w1 ⟨rfl, rfl⟩))
  clear HW0 c0
  go_loopg [6, 7] M (fun k lv iv wr => ∃ (i o : Nat), o = K * i ∧ i ≤ N ∧ iv = .int .i64 (o : Nat) ∧ RowS w1.heap.size wr lv (numsU c p K t i) ∧ Below w1.heap.size w1 wr ∧ k = M - o)
  case atStart => exact ⟨0, 0, rfl, Nat.zero_le _, rfl, RowS.nil _ _, Below.refl _ _, rfl⟩
  case round =>
    obtain ⟨i, o, hoe, hiN, rfl, hro, hbl, hk⟩ := hrel
    replace hk := hk.symm
    subst hk
    have HOE := hid hoe
    have HRO := hid hro
    have HBL := hid hbl
    obtain ⟨ao, co, he⟩ := hro.shape
    rw [numsU_len] at he
    subst he
    have c0 := (hbl.cell (p := ⟨w.heap.size, 0, none⟩) HZ0.out).trans HC0.out
    have c1 := (hbl.cell (p := ⟨w.heap.size, 1, none⟩) HZ0.out).trans HC1.out
    have hs4 := hbl.size
    have HCC0 := hid c0
    have HCC1 := hid c1
    clear hoe hro hbl
    rcases Nat.lt_or_ge i N with hlt | hge
    · have hmul : K * (i + 1) ≤ K * N := Nat.mul_le_mul_left K hlt
      have hoM : o + K ≤ M := by rw [HOE.out, HML.out]; rw [Nat.mul_succ] at hmul; exact hmul
      have hltI : (o : Int) < (M : Int) := by omega
      obtain ⟨x, hx⟩ : ∃ x, x = (t.drop o).take K := ⟨_, rfl⟩
      have hxl : x.length = K := by rw [hx, List.length_take, List.length_drop, ← HTL.out]; omega
      obtain ⟨oe, hoe2⟩ : ∃ oe, oe = o + K := ⟨_, rfl⟩
      have hoeI : (o : Int) + (K : Int) = (oe : Int) := by omega
      have hext : (⟨t.toArray⟩ : ByteArray).extract o oe = ⟨x.toArray⟩ := by rw [Lib.extract_mk, hx, hoe2, show o + K - o = K by omega]
      have hwoe : IntKind.i64.wrap (oe : Int) = (oe : Int) := IntWalk.i64_in _ (by omega)
      have hle1 : (o : Int) ≤ (oe : Int) := by omega
      have hle2 : (oe : Int) ≤ (M : Int) := by omega
      have hsn : numsU c p K t (i + 1) = numsU c p K t i ++ [numberE c p x] := by rw [numsU_snoc, hx, HOE.out]
      have HSN := hid hsn
      have hcv := Lib.run_convert_string_bytes (P := Tryz.prog) wr 9 46 5 ⟨x.toArray⟩ Tryz.underlying9 Tryz.underlying46 Tryz.underlying5
      have hxs : (⟨x.toArray⟩ : ByteArray).size = K := by rw [Lib.size_mk, hxl]
      obtain ⟨w2, hw2⟩ : ∃ w2, w2 = Lib.bytesWorld wr 5 ⟨x.toArray⟩ := ⟨_, rfl⟩
      have hcell : ∀ k (h : k < x.length), w2.cell? ⟨wr.heap.size, k, none⟩ = some (.int .u8 (x[k].toNat : Nat)) := fun k h => by
        rw [hw2, Lib.bytesWorld_cell _ _ _ _ (by rw [Lib.size_mk]; exact h)]
        show some (Value.int .u8 ((x.getD k 0).toNat : Nat)) = _
        rw [List.getD_eq_getElem?_getD, List.getElem?_eq_getElem h]
        rfl
      have hb2 : Below wr.heap.size wr w2 := by rw [hw2]; exact Lib.bytesWorld_below _ _ _
      have hfr : ∀ k, k < x.length → w2.frozen? ⟨wr.heap.size, k, none⟩ = false := fun k h => by rw [hw2]; exact bytesWorld_fr0 wr _ k (by rw [Lib.size_mk]; exact h)
      have hg2 : wr.heap.size < w2.heap.size := by rw [hw2, Lib.bytesWorld_size]; omega
      rw [← hw2, hxs] at hcv
      obtain ⟨cap, hcap⟩ : ∃ cap, cap = grownCap wr K 0 5 := ⟨_, rfl⟩
      rw [← hcap] at hcv
      have HXL := hid hxl
      have HCELL := hid hcell
      have HB2 := hid hb2
      have HFR := hid hfr
      have HG2 := hid hg2
      have hlen41 : (numberE c p x).length ≤ 40 := numberE_len c p x (by omega)
      have d0 := (hb2.cell (p := ⟨w.heap.size, 0, none⟩) (by have := HZ0.out; show w.heap.size < wr.heap.size; omega)).trans c0
      have d1 := (hb2.cell (p := ⟨w.heap.size, 1, none⟩) (by have := HZ0.out; show w.heap.size < wr.heap.size; omega)).trans c1
      clear hmul hx hxl hoe2 hsn hxs hw2 hcell hb2 hfr hg2 hcap
      cases hi with
      | false =>
        have HNE := hid (show txt (toldZ p x) = numberE c p x by
          have h := number_told c p x (by rw [← HHI.out]; rfl)
          rw [← HHI.out] at h
          exact h.symm)
        have HTO := hid (show Calls Tryz.prog 134 #[.slice (some ⟨wr.heap.size, 0, none⟩) K cap, .bool p] w2 fun e w' => e = .returned (.string ⟨(numberE c p x).toArray⟩) ∧ Below w2.heap.size w2 w' by
          have h := told_fn wr.heap.size cap x (by rw [HXL.out]; exact hw1) (by rw [HXL.out]; exact hK8) p w2 HG2.out HCELL.out (HT.out.below (HB0.out.trans ((HBL.out.trans (HB2.out.mono hs4)).mono (Nat.le_of_lt HZ0.out))))
          rw [HNE.out, HXL.out] at h
          exact h)
        obtain ⟨q, hq⟩ : ∃ q, q = numberE c p x := ⟨_, rfl⟩
        rw [← hq] at HTO HSN
        clear hq hlen41
        go_wp2_with (first | (go_at_call 133; (with_reducible refine (HGR.out _).mono ?_); rintro e w3 ⟨rfl, rfl⟩) | (go_at_call 134; (with_reducible refine HTO.out.mono ?_); rintro e w4 ⟨rfl, hb4⟩; have HB4 := hid (HB2.out.trans (hb4.mono (Nat.le_of_lt HG2.out))); clear hb4) | (at_builtin; refine app_one rfl rfl (.tmp 59) (.tmp 64) rfl w1.heap.size _ _ q rfl (HRO.out.on HB4.out) rfl (Nat.le_trans hs4 HB4.out.size) (by rw [numsU_len]; omega) ?_; intro v9 w9 hr9 hg9 hv9; have HR9 := hid hr9; have HG9 := hid hg9; clear hr9 hg9 hv9))
        go_roundg (M - (o + K))
        case measure => omega
        case rel => exact ⟨i + 1, o + K, by rw [HOE.out, Nat.mul_succ], hlt, by go_num, by rw [HSN.out]; exact HR9.out, (HBL.out.trans (HB4.out.mono hs4)).grown HG9.out (Nat.le_trans hs4 HB4.out.size) (fun k hk => (HRO.out.lt k hk).2), rfl⟩
      | true =>
        have HNE := hid (show txt (toldZ p x.reverse) = numberE c p x by
          have h := number_told c p x (by rw [← HHI.out]; exact List.length_reverse)
          rw [← HHI.out] at h
          exact h.symm)
        obtain ⟨q, hq⟩ : ∃ q, q = numberE c p x := ⟨_, rfl⟩
        rw [← hq] at HSN HNE
        obtain ⟨g, hg⟩ : ∃ g, g = wr.heap.size := ⟨_, rfl⟩
        rw [← hg] at HG2 HCELL HFR hcv
        have HGE := hid hg
        clear hq hlen41 hg
        go_wp2_with (go_at_call 133; (with_reducible refine (HGR.out _).mono ?_); rintro e w3 ⟨rfl, rfl⟩)
        go_loopg [9, 10] K (fun k av zv wx => ∃ (a : Nat), av = .int .i64 (a : Nat) ∧ zv = .int .i64 ((K : Int) - 1 - (a : Int)) ∧ 2 * a ≤ K ∧ (∀ j, j < x.length → wx.cell? ⟨g, j, none⟩ = some (.int .u8 ((rvF x a j).toNat : Nat))) ∧ (∀ j, j < x.length → wx.frozen? ⟨g, j, none⟩ = false) ∧ Below g wr wx ∧ g < wx.heap.size ∧ k = K - a)
        case atStart => exact ⟨0, rfl, by go_num, Nat.zero_le _, fun j h => by rw [rvF_start x h, HCELL.out j h, List.getD_eq_getElem?_getD, List.getElem?_eq_getElem h]; rfl, HFR.out, by rw [HGE.out]; exact HB2.out, HG2.out, rfl⟩
        case round =>
          obtain ⟨a, rfl, rfl, ha2, hce, hfz, hbx, hgx, hk⟩ := hrel
          replace hk := hk.symm
          subst hk
          have HCE := hid hce
          have HFZ := hid hfz
          have HBX := hid hbx
          have HGX := hid hgx
          clear hce hfz hbx hgx
          by_cases hsw : 2 * a + 1 < K
          · obtain ⟨z, hz⟩ : ∃ z, z = K - 1 - a := ⟨_, rfl⟩
            have hzI : (K : Int) - 1 - (a : Int) = (z : Int) := by omega
            rw [hzI]
            have haz : (a : Int) < (z : Int) := by omega
            have haK : (a : Int) < (K : Int) := by omega
            have hzK : (z : Int) < (K : Int) := by omega
            obtain ⟨X, hX⟩ : ∃ X, X = x.getD a 0 := ⟨_, rfl⟩
            obtain ⟨Z, hZ⟩ : ∃ Z, Z = x.getD z 0 := ⟨_, rfl⟩
            have hca : wr.cell? ⟨g, a, none⟩ = some (.int .u8 (X.toNat : Nat)) := by
              have h := HCE.out a (by rw [HXL.out]; omega)
              unfold rvF at h
              rw [if_neg (by rw [HXL.out]; omega), ← hX] at h
              exact h
            have hcz : wr.cell? ⟨g, z, none⟩ = some (.int .u8 (Z.toNat : Nat)) := by
              have h := HCE.out z (by rw [HXL.out]; omega)
              unfold rvF at h
              rw [if_neg (by rw [HXL.out]; omega), ← hZ] at h
              exact h
            have fa := HFZ.out a (by rw [HXL.out]; omega)
            have fz := HFZ.out z (by rw [HXL.out]; omega)
            have hcz2 : (wr.setCell ⟨g, a, none⟩ (.int .u8 (Z.toNat : Nat))).cell? ⟨g, z, none⟩ = some (.int .u8 (Z.toNat : Nat)) := by
              rw [World.cell?_setCell_other _ _ _ _ (by intro h; have h2 := congrArg Addr.off h; have h3 : z = a ∨ a = z := by first | exact .inl h2 | exact .inr h2
                                                        omega)]
              exact hcz
            have HNX := hid (fun (W : World) (h1 : ∀ j, W.cell? ⟨g, j, none⟩ = wr.cell? ⟨g, j, none⟩) j (hj : j < x.length) => show ((W.setCell ⟨g, a, none⟩ (.int .u8 (Z.toNat : Nat))).setCell ⟨g, z, none⟩ (.int .u8 (X.toNat : Nat))).cell? ⟨g, j, none⟩ = some (.int .u8 ((rvF x (a + 1) j).toNat : Nat)) by
              have hne : ∀ {u v : Nat}, u ≠ v → (⟨g, u, none⟩ : Addr) ≠ ⟨g, v, none⟩ := fun h e => h (congrArg Addr.off e)
              rw [rvF_step x (by rw [HXL.out]; exact hsw) j hj, HXL.out, ← hz, ← hX, ← hZ]
              by_cases e1 : j = z
              · rw [if_pos e1, e1]
                exact World.cell?_setCell_same _ _ _ ((World.cell?_setCell_other _ _ _ _ (by first | exact hne (by omega) | exact (hne (by omega)).symm)).trans ((h1 z).trans hcz))
              · rw [if_neg e1]
                by_cases e2 : j = a
                · rw [if_pos e2, e2]
                  exact (World.cell?_setCell_other _ _ _ _ (by first | exact hne (by omega) | exact (hne (by omega)).symm)).trans (World.cell?_setCell_same _ _ _ ((h1 a).trans hca))
                · rw [if_neg e2]
                  exact (World.cell?_setCell_other _ _ _ _ (by first | exact hne (by omega) | exact (hne (by omega)).symm)).trans ((World.cell?_setCell_other _ _ _ _ (by first | exact hne (by omega) | exact (hne (by omega)).symm)).trans ((h1 j).trans (HCE.out j hj))))
            have hzN : (K : Int) - 1 - ((a + 1 : Nat) : Int) = (z : Int) - 1 := by omega
            have HZN := hid hzN
            clear hX hZ hz hzI hzN
            go_wp2
            go_quiet (fail)
            have fa2 : (wr.drewN nq).frozen? ⟨g, a, none⟩ = false := fa
            have fz2 : ((wr.drewN nq).setCell ⟨g, a, none⟩ (.int .u8 (Z.toNat : Nat))).frozen? ⟨g, z, none⟩ = false := by rw [World.frozen?_setCell]; exact fz
            have ca2 : (wr.drewN nq).cell? ⟨g, a, none⟩ = some (.int .u8 (X.toNat : Nat)) := hca
            have cz2 : ((wr.drewN nq).setCell ⟨g, a, none⟩ (.int .u8 (Z.toNat : Nat))).cell? ⟨g, z, none⟩ = some (.int .u8 (Z.toNat : Nat)) := hcz2
            clear hca hcz fa fz hcz2
            go_wp2
            go_roundg (K - (a + 1))
            case measure => omega
            case rel => exact ⟨a + 1, by go_num, by rw [HZN.out], by omega, fun j hj => HNX.out (wr.drewN nq) (fun _ => rfl) j hj, fun j hj => by rw [World.frozen?_setCell, World.frozen?_setCell]; exact HFZ.out j hj, ((HBX.out.trans (show Below g wr (wr.drewN nq) from ⟨rfl, rfl, rfl, Nat.le_refl _, fun _ _ => rfl⟩)).setCell (p := ⟨g, a, none⟩) (show g ≤ g from Nat.le_refl _) _).setCell (p := ⟨g, z, none⟩) (show g ≤ g from Nat.le_refl _) _, by have := HGX.out; simpa using this, rfl⟩
          · have hnaz : ¬ ((a : Int) < (K : Int) - 1 - (a : Int)) := by omega
            have HTO := hid (show Calls Tryz.prog 134 #[.slice (some ⟨g, 0, none⟩) K cap, .bool p] wr fun e w' => e = .returned (.string ⟨q.toArray⟩) ∧ Below wr.heap.size wr w' by
              have hrl : x.reverse.length = K := by rw [List.length_reverse, HXL.out]
              have h := told_fn g cap x.reverse (by rw [hrl]; exact hw1) (by rw [hrl]; exact hK8) p wr HGX.out (fun j hj => by
                have hjx : j < x.length := by rw [List.length_reverse] at hj; exact hj
                rw [HCE.out j hjx, rvF_end x (by rw [HXL.out]; omega) hjx, List.getD_eq_getElem?_getD, List.getElem?_eq_getElem hj]
                rfl) (HT.out.below (HB0.out.trans ((HBL.out.trans (HBX.out.mono (by rw [HGE.out]; exact hs4))).mono (Nat.le_of_lt HZ0.out))))
              rw [HNE.out, hrl] at h
              exact h)
            have e1 := (HBX.out.cell (p := ⟨w.heap.size, 1, none⟩) (by have := HZ0.out; have := HGE.out; show w.heap.size < g; omega)).trans HCC1.out
            have hs5 : w1.heap.size ≤ wr.heap.size := Nat.le_trans hs4 HBX.out.size
            clear hsw
            go_wp2_with (first | (go_at_call 134; (with_reducible refine HTO.out.mono ?_); rintro e w4 ⟨rfl, hb4⟩; have HB4 := hid (HBX.out.trans (hb4.mono (Nat.le_of_lt HGX.out))); clear hb4) | (at_builtin; refine app_one rfl rfl (.tmp 59) (.tmp 64) rfl w1.heap.size _ _ q rfl (HRO.out.on (by rw [← HGE.out]; exact HB4.out)) rfl (Nat.le_trans hs4 HB4.out.size) (by rw [numsU_len]; omega) ?_; intro v9 w9 hr9 hg9 hv9; have HR9 := hid hr9; have HG9 := hid hg9; clear hr9 hg9 hv9))
            go_roundg (M - (o + K))
            case measure => omega
            case rel => exact ⟨i + 1, o + K, by rw [HOE.out, Nat.mul_succ], hlt, by go_num, by rw [HSN.out]; exact HR9.out, (HBL.out.trans (HB4.out.mono (by rw [HGE.out]; exact hs4))).grown HG9.out (Nat.le_trans hs4 HB4.out.size) (fun k hk => (HRO.out.lt k hk).2), rfl⟩
    · obtain rfl : i = N := by omega
      have hoM : o = M := by rw [HOE.out, HML.out]
      have hnl : ¬ ((o : Int) < (M : Int)) := by omega
      have HJ := hid (joinB_fn _ _ wr HRO.out.strs (Nat.le_trans (numsU_sum c p K hK8 t i) (by omega)) (by rw [numsU_len]; omega))
      rw [← HR.out] at HJ
      clear hoM hge
      go_wp2_with (go_at_call 21; (with_reducible refine HJ.out.mono ?_); rintro e w5 ⟨rfl, hb5⟩; have HB5 := hid (HBL.out.trans (hb5.mono hs4)); clear hb5)
      go_ret
      exact ⟨rfl, HB0.out.trans (HB5.out.mono (Nat.le_of_lt HZ0.out))⟩
end Go.Proofs.YtihdndaibmgoiaaGreatDoor.Pz
/-
  The reference 10: fields read out of a row.
-/
namespace Go.Proofs.YtihdndaibmgoiaaGreatDoor.Pz
open Go.RowKit
theorem fldCells_at : ∀ (l : List Fld) (i : Nat) (h : i < l.length), (fldCells l)[i * 3]? = some (.int .u8 (l[i].letter.toNat : Nat)) ∧ (fldCells l)[i * 3 + 1]? = some (.bool l[i].plain) ∧ (fldCells l)[i * 3 + 2]? = some (.int .i64 l[i].count)
  | f :: t, 0, _ => ⟨rfl, rfl, rfl⟩
  | f :: t, i + 1, h => by
    have ih := fldCells_at t i (by simpa using h)
    have e : ∀ k, (fldCells (f :: t))[(i + 1) * 3 + k]? = (fldCells t)[i * 3 + k]? := fun k => by
      have e1 : fldCells (f :: t) = fldCell f ++ fldCells t := by simp [fldCells]
      rw [e1, List.getElem?_append_right (by show 3 ≤ _; omega)]
      have e2 : (i + 1) * 3 + k - (fldCell f).length = i * 3 + k := by show (i + 1) * 3 + k - 3 = _; omega
      rw [e2]
    refine ⟨?_, ?_, ?_⟩
    · have := e 0; rw [Nat.add_zero, Nat.add_zero] at this; rw [this]; exact ih.1
    · rw [e 1]; exact ih.2.1
    · rw [e 2]; exact ih.2.2
theorem RowD.shape {B : Nat} {w : World} {v : Value} {l : List Fld} (h : RowD B w v l) : ∃ a c, v = .slice a l.length c := by
  rcases h.2 with ⟨rfl, h0⟩ | ⟨g, cap, cur, rfl, _⟩
  · exact ⟨none, 0, by rw [h0]⟩
  · exact ⟨_, _, rfl⟩
theorem RowD.at {B : Nat} {w : World} {a : Option Addr} {n c : Nat} {l : List Fld} (h : RowD B w (.slice a n c) l) {i : Nat} (hi : i < l.length) : ∃ g, a = some ⟨g, 0, none⟩ ∧ n = l.length ∧ g < w.heap.size ∧ w.cell? ⟨g, i * 3, none⟩ = some (.int .u8 (l[i].letter.toNat : Nat)) ∧ w.cell? ⟨g, i * 3 + 1, none⟩ = some (.bool l[i].plain) ∧ w.cell? ⟨g, i * 3 + 2, none⟩ = some (.int .i64 l[i].count) := by
  rcases h.2 with ⟨_, h0⟩ | ⟨g, cap, cur, e, _⟩
  · omega
  · have ho : (Value.slice a n c).ownBlock = some g := by rw [e]; rfl
    have hg := (h.lt g ho).1
    obtain ⟨f0, f1, f2⟩ := fldCells_at l i hi
    have h0 := World.ownsRow.cells h ho (i * 3) _ f0
    have h1 := World.ownsRow.cells h ho (i * 3 + 1) _ f1
    have h2 := World.ownsRow.cells h ho (i * 3 + 2) _ f2
    simp only [Value.slice.injEq] at e
    rw [add_none, Nat.zero_add] at h0 h1 h2
    exact ⟨g, e.1, e.2.1, hg, h0, h1, h2⟩
/-- the letters of a layout, one by one -/
def clsR (c : UInt8) : Bool := (c == 64) || (c == 120) || (c == 97) || (c == 65)
  || ((c == 104 || c == 72) && bitsL c == 4 && grt c == (c == 72 || c == 66) && widthL c == 0)
  || ((c == 98 || c == 66) && bitsL c == 1 && grt c == (c == 72 || c == 66) && widthL c == 0)
  || (decide (1 ≤ widthL c) && !textL c && grt c == highL c && c != 120 && c != 97 && c != 65 && c != 64)
theorem known_class {c : UInt8} (hk : knownL c = true) : clsR c = true := by
  have h : (List.range 256).all (fun n => !knownL (UInt8.ofNat n) || clsR (UInt8.ofNat n)) = true := by kernel_rfl
  have h2 := List.all_eq_true.1 h c.toNat (List.mem_range.2 c.toNat_lt)
  rw [UInt8.ofNat_toNat] at h2
  simpa [hk] using h2
end Go.Proofs.YtihdndaibmgoiaaGreatDoor.Pz
