/-
  Part K9 of the proofs of this seat: contracts of functions and plain facts, merged from 2 texts.
-/
import Derived.Test.YtihdndaibmgoiaaGreatDoorK0
import Derived.Test.YtihdndaibmgoiaaGreatDoorK1
import Derived.Test.YtihdndaibmgoiaaGreatDoorK2
import Derived.Test.YtihdndaibmgoiaaGreatDoorK3
import Derived.Test.YtihdndaibmgoiaaGreatDoorK4
import Derived.Test.YtihdndaibmgoiaaGreatDoorK5
import Derived.Test.YtihdndaibmgoiaaGreatDoorK6
import Derived.Test.YtihdndaibmgoiaaGreatDoorK7
import Derived.Test.YtihdndaibmgoiaaGreatDoorK8
/-
  binary: Base64.
-/
namespace Go.Proofs.YtihdndaibmgoiaaGreatDoor.Pz
open Go.RowKit
def lettersA : ByteArray := ⟨#[65, 66, 67, 68, 69, 70, 71, 72, 73, 74, 75, 76, 77, 78, 79, 80, 81, 82, 83, 84, 85, 86, 87, 88, 89, 90, 97, 98, 99, 100, 101, 102, 103, 104, 105, 106, 107, 108, 109, 110, 111, 112, 113, 114, 115, 116, 117, 118, 119, 120, 121, 122, 48, 49, 50, 51, 52, 53, 54, 55, 56, 57, 43, 47]⟩
theorem sigdig (n : Nat) (h : n < (⟨#[65, 66, 67, 68, 69, 70, 71, 72, 73, 74, 75, 76, 77, 78, 79, 80, 81, 82, 83, 84, 85, 86, 87, 88, 89, 90, 97, 98, 99, 100, 101, 102, 103, 104, 105, 106, 107, 108, 109, 110, 111, 112, 113, 114, 115, 116, 117, 118, 119, 120, 121, 122, 48, 49, 50, 51, 52, 53, 54, 55, 56, 57, 43, 47]⟩ : ByteArray).size) : (⟨#[65, 66, 67, 68, 69, 70, 71, 72, 73, 74, 75, 76, 77, 78, 79, 80, 81, 82, 83, 84, 85, 86, 87, 88, 89, 90, 97, 98, 99, 100, 101, 102, 103, 104, 105, 106, 107, 108, 109, 110, 111, 112, 113, 114, 115, 116, 117, 118, 119, 120, 121, 122, 48, 49, 50, 51, 52, 53, 54, 55, 56, 57, 43, 47]⟩ : ByteArray)[n]'h = b64L n :=
  (show ∀ m : Fin 64, (⟨#[65, 66, 67, 68, 69, 70, 71, 72, 73, 74, 75, 76, 77, 78, 79, 80, 81, 82, 83, 84, 85, 86, 87, 88, 89, 90, 97, 98, 99, 100, 101, 102, 103, 104, 105, 106, 107, 108, 109, 110, 111, 112, 113, 114, 115, 116, 117, 118, 119, 120, 121, 122, 48, 49, 50, 51, 52, 53, 54, 55, 56, 57, 43, 47]⟩ : ByteArray)[m.1]'m.2 = b64L m.1 from by decide) ⟨n, h⟩
/-- the first bytes as a number; what is not there is 0 -/
def vP (l : Str) : Nat → Nat
  | 0 => 0
  | k + 1 => vP l k * 256 + (l.getD k 0).toNat
theorem vP_lt (l : Str) : ∀ k, vP l k < 256 ^ k
  | 0 => Nat.zero_lt_one
  | k + 1 => by
    have := vP_lt l k
    have hc := (l.getD k 0).toNat_lt
    rw [vP, Nat.pow_succ]
    omega
theorem vP_three (l : Str) : vP l 3 = v24 l := by
  show ((0 * 256 + (l.getD 0 0).toNat) * 256 + (l.getD 1 0).toNat) * 256 + (l.getD 2 0).toNat = _
  unfold v24
  omega
theorem quad_snoc (l : Str) (k : Nat) (h : k < 4) : (quad l).take (k + 1) = (quad l).take k ++ [sign4 l k] := by
  rcases (show k = 0 ∨ k = 1 ∨ k = 2 ∨ k = 3 by omega) with rfl | rfl | rfl | rfl <;> rfl
theorem quad_len (l : Str) : (quad l).length = 4 := rfl
set_option maxRecDepth 100000 in
set_option maxHeartbeats 8000000 in
theorem base64_fn (s : Str) (hs : s.length ≤ 1000000) (w : World) : Calls Tryz.prog 41 #[.string ⟨s.toArray⟩] w fun e w' => e = .returned (.string ⟨(b64E s).toArray⟩) ∧ Below w.heap.size w w' := by
  obtain ⟨R, hR⟩ : ∃ R, R = b64E s := ⟨_, rfl⟩
  have hRl : R.length ≤ 2000000 := by rw [hR, b64E_len]; omega
  rw [← hR]
  have HR := hid hR
  clear hR
  have HB0 := hid (Bld.new w)
  have HL0 := hid (belowA w (.cells #[.pointer none, .slice none 0 0] 88))
  go_enter Tryz.func41, Tryz.ntmps41
  go_wp2_with fail
  go_loopg [0] (s.length + 1) (fun k sv wr => ∃ (l out : Str), sv = .string ⟨l.toArray⟩ ∧ l.length ≤ 1000000 ∧ R = out ++ b64E l ∧ Bld wr w.heap.size out ∧ Below w.heap.size w wr ∧ k = l.length + 1)
  case atStart => exact ⟨s, [], rfl, hs, HR.out, HB0.out, HL0.out, rfl⟩
  case round =>
    obtain ⟨l, out, rfl, hl, hr, hb, hbl, hk⟩ := hrel
    replace hk := hk.symm
    subst hk
    have hsz : (⟨l.toArray⟩ : ByteArray).size = l.length := Lib.size_mk _
    have HRR := hid hr
    have HB := hid hb
    have HBL := hid hbl
    have hol : out.length ≤ 2000000 := by have := congrArg List.length hr; rw [List.length_append] at this; omega
    clear hr hb hbl
    by_cases hl0 : l.length = 0
    · have hgt : decide (0 < l.length) = false := decide_eq_false (by omega)
      have hRo : R = out := by rw [HRR.out, List.eq_nil_of_length_eq_zero hl0]; exact List.append_nil _
      have HRO := hid hRo
      clear hRo
      have HST := hid (str_fn HB.out)
      go_wp2_with (go_at_call 78; refine HST.out.mono ?_; rintro e w5 ⟨rfl, hb5, hk5⟩; have HK5 := hid hk5; clear hb5 hk5)
      go_ret
      exact ⟨by rw [HRO.out]; rfl, HBL.out.trans HK5.out.1⟩
    have hgt : decide (0 < l.length) = true := decide_eq_true (by omega)
    have hlpos : 0 < l.length := by omega
    obtain ⟨n, hn⟩ : ∃ n, n = min 3 l.length := ⟨_, rfl⟩
    have hmin : min (3 : Int) (l.length : Int) = (n : Int) := by omega
    have hn3 : n ≤ 3 := by omega
    have hnl : n ≤ l.length := by omega
    have hn1 : 1 ≤ n := by omega
    have HN := hid hn
    clear hn
    go_wp2_with fail
    clear hmin
    go_loopg [5, 14] 3 (fun k vv iv wx => ∃ (i : Nat), i ≤ 3 ∧ vv = .int .i64 (vP l i : Nat) ∧ iv = .int .i64 (i : Nat) ∧ wx = wr ∧ k = 3 - i)
    case atStart => exact ⟨0, Nat.zero_le _, rfl, rfl, rfl, rfl⟩
    case round =>
      obtain ⟨i, hi3, rfl, rfl, hw, hk⟩ := hrel
      replace hk := hk.symm
      subst hk
      replace hw := hw.symm
      subst hw
      obtain ⟨V, hV⟩ : ∃ V, V = vP l i := ⟨_, rfl⟩
      have hVl : V < 16777216 := by
        have h1 := vP_lt l i
        have h2 : 256 ^ i ≤ 256 ^ 3 := Nat.pow_le_pow_right (by decide) hi3
        have h3 : (256 : Nat) ^ 3 = 16777216 := by decide
        omega
      have hV2 : vP l (i + 1) = V * 256 + (l.getD i 0).toNat := by rw [hV]; rfl
      rw [← hV]
      have HV := hid hV
      have hVI : (0 : Int) ≤ (V : Int) ∧ (V : Int) < 16777216 := by omega
      have HV2 := hid hV2
      clear hV hV2
      rcases Nat.lt_or_ge i 3 with hlt | hge
      · have hltI : (i : Int) < 3 := by omega
        rcases Nat.lt_or_ge i n with hin | hin
        · have hinI : (i : Int) < (n : Int) := by omega
          have hil : i < l.length := by omega
          have hbyte := (At.here hil).byte
          obtain ⟨x, hx⟩ : ∃ x, x = l[i] := ⟨_, rfl⟩
          rw [← hx] at hbyte
          have hgd : l.getD i 0 = x := by rw [hx, List.getD_eq_getElem?_getD, List.getElem?_eq_getElem hil]; rfl
          have hilI : (i : Int) < (l.length : Int) := by omega
          have hxl := x.toNat_lt
          have hor := i64_or8 V x.toNat (by omega) hxl
          have HGD := hid hgd
          clear hx hgd
          go_wp2
          go_roundg (3 - (i + 1))
          case measure => omega
          case rel => exact ⟨i + 1, hlt, by rw [HV2.out, HGD.out]; go_num, by go_num, rfl, rfl⟩
        · have hinI : ¬ ((i : Int) < (n : Int)) := by omega
          have HGD := hid (show l.getD i 0 = 0 by rw [List.getD_eq_getElem?_getD, List.getElem?_eq_none (by have := HN.out; omega)]; rfl)
          go_wp2
          go_roundg (3 - (i + 1))
          case measure => omega
          case rel => exact ⟨i + 1, hlt, by rw [HV2.out, HGD.out]; go_num, by go_num, rfl, rfl⟩
      · obtain rfl : i = 3 := by omega
        have HV3 := hid (show V = v24 l by rw [HV.out, vP_three])
        clear hi3 hge HV HV2
        rw [show ((3 : Nat) : Int) = 3 from rfl]
        go_wp2_with fail
        go_loopg [29] 4 (fun k iv wx => ∃ (i : Nat), i ≤ 4 ∧ iv = .int .i64 (i : Nat) ∧ Bld wx w.heap.size (out ++ (quad l).take i) ∧ Below w.heap.size w wx ∧ k = 4 - i)
        case atStart => exact ⟨0, Nat.zero_le _, rfl, by rw [List.take_zero, List.append_nil]; exact HB.out, HBL.out, rfl⟩
        case round =>
          obtain ⟨i, hi4, rfl, hbx, hblx, hk⟩ := hrel
          replace hk := hk.symm
          subst hk
          have HBX := hid hbx
          have HBLX := hid hblx
          clear hbx hblx
          have hlx : (out ++ (quad l).take i).length ≤ 1000000000 := by rw [List.length_append, List.length_take, quad_len]; omega
          rcases (show i = 0 ∨ i = 1 ∨ i = 2 ∨ i = 3 ∨ i = 4 by omega) with rfl | rfl | rfl | rfl | rfl
          · have HSN := hid (quad_snoc l 0 (by decide))
            by_cases hg : n < 0
            · have hgI : (n : Int) < 0 := by omega
              have HSG := hid (show sign4 l 0 = 61 by unfold sign4; rw [if_pos (by have := HN.out; omega)])
              go_wp2_with (go_at_call 91; refine (wbyte_fn HBX.out 61 hlx).mono ?_; rintro e w6 ⟨rfl, hb6, hk6⟩; have HB6 := hid hb6; have HK6 := hid hk6; clear hb6 hk6)
              go_roundg (4 - (0 + 1))
              case measure => omega
              case rel => exact ⟨0 + 1, by omega, by go_num, by rw [HSN.out, HSG.out, ← List.append_assoc]; exact HB6.out, HBLX.out.trans HK6.out.1, rfl⟩
            · have hgI : ¬ ((n : Int) < 0) := by omega
              obtain ⟨z, hz⟩ : ∃ z, z = V / 262144 := ⟨_, rfl⟩
              have hzI : (V : Int) / 262144 = (z : Int) := by omega
              have hzl : z < 9223372036854775808 := by omega
              have hand := i64_mask6 z hzl
              obtain ⟨d, hd⟩ : ∃ d, d = z % 64 := ⟨_, rfl⟩
              rw [← hd] at hand
              have hdl : d < 64 := by omega
              have hd2 : (0 : Int) ≤ (d : Int) ∧ (d : Int) < 64 := by omega
              have HSG := hid (show sign4 l 0 = b64L d by
                unfold sign4
                rw [if_neg (by have := HN.out; omega), ← HV3.out, hd, hz])
              clear hz hd
              go_wp2_with (go_at_call 91; rw [sigdig]; refine (wbyte_fn HBX.out _ hlx).mono ?_; rintro e w6 ⟨rfl, hb6, hk6⟩; have HB6 := hid hb6; have HK6 := hid hk6; clear hb6 hk6)
              go_roundg (4 - (0 + 1))
              case measure => omega
              case rel => exact ⟨0 + 1, by omega, by go_num, by rw [HSN.out, HSG.out, ← List.append_assoc]; exact HB6.out, HBLX.out.trans HK6.out.1, rfl⟩
          · have HSN := hid (quad_snoc l 1 (by decide))
            by_cases hg : n < 1
            · have hgI : (n : Int) < 1 := by omega
              have HSG := hid (show sign4 l 1 = 61 by unfold sign4; rw [if_pos (by have := HN.out; omega)])
              go_wp2_with (go_at_call 91; refine (wbyte_fn HBX.out 61 hlx).mono ?_; rintro e w6 ⟨rfl, hb6, hk6⟩; have HB6 := hid hb6; have HK6 := hid hk6; clear hb6 hk6)
              go_roundg (4 - (1 + 1))
              case measure => omega
              case rel => exact ⟨1 + 1, by omega, by go_num, by rw [HSN.out, HSG.out, ← List.append_assoc]; exact HB6.out, HBLX.out.trans HK6.out.1, rfl⟩
            · have hgI : ¬ ((n : Int) < 1) := by omega
              obtain ⟨z, hz⟩ : ∃ z, z = V / 4096 := ⟨_, rfl⟩
              have hzI : (V : Int) / 4096 = (z : Int) := by omega
              have hzl : z < 9223372036854775808 := by omega
              have hand := i64_mask6 z hzl
              obtain ⟨d, hd⟩ : ∃ d, d = z % 64 := ⟨_, rfl⟩
              rw [← hd] at hand
              have hdl : d < 64 := by omega
              have hd2 : (0 : Int) ≤ (d : Int) ∧ (d : Int) < 64 := by omega
              have HSG := hid (show sign4 l 1 = b64L d by
                unfold sign4
                rw [if_neg (by have := HN.out; omega), ← HV3.out, hd, hz])
              clear hz hd
              go_wp2_with (go_at_call 91; rw [sigdig]; refine (wbyte_fn HBX.out _ hlx).mono ?_; rintro e w6 ⟨rfl, hb6, hk6⟩; have HB6 := hid hb6; have HK6 := hid hk6; clear hb6 hk6)
              go_roundg (4 - (1 + 1))
              case measure => omega
              case rel => exact ⟨1 + 1, by omega, by go_num, by rw [HSN.out, HSG.out, ← List.append_assoc]; exact HB6.out, HBLX.out.trans HK6.out.1, rfl⟩
          · have HSN := hid (quad_snoc l 2 (by decide))
            by_cases hg : n < 2
            · have hgI : (n : Int) < 2 := by omega
              have HSG := hid (show sign4 l 2 = 61 by unfold sign4; rw [if_pos (by have := HN.out; omega)])
              go_wp2_with (go_at_call 91; refine (wbyte_fn HBX.out 61 hlx).mono ?_; rintro e w6 ⟨rfl, hb6, hk6⟩; have HB6 := hid hb6; have HK6 := hid hk6; clear hb6 hk6)
              go_roundg (4 - (2 + 1))
              case measure => omega
              case rel => exact ⟨2 + 1, by omega, by go_num, by rw [HSN.out, HSG.out, ← List.append_assoc]; exact HB6.out, HBLX.out.trans HK6.out.1, rfl⟩
            · have hgI : ¬ ((n : Int) < 2) := by omega
              obtain ⟨z, hz⟩ : ∃ z, z = V / 64 := ⟨_, rfl⟩
              have hzI : (V : Int) / 64 = (z : Int) := by omega
              have hzl : z < 9223372036854775808 := by omega
              have hand := i64_mask6 z hzl
              obtain ⟨d, hd⟩ : ∃ d, d = z % 64 := ⟨_, rfl⟩
              rw [← hd] at hand
              have hdl : d < 64 := by omega
              have hd2 : (0 : Int) ≤ (d : Int) ∧ (d : Int) < 64 := by omega
              have HSG := hid (show sign4 l 2 = b64L d by
                unfold sign4
                rw [if_neg (by have := HN.out; omega), ← HV3.out, hd, hz])
              clear hz hd
              go_wp2_with (go_at_call 91; rw [sigdig]; refine (wbyte_fn HBX.out _ hlx).mono ?_; rintro e w6 ⟨rfl, hb6, hk6⟩; have HB6 := hid hb6; have HK6 := hid hk6; clear hb6 hk6)
              go_roundg (4 - (2 + 1))
              case measure => omega
              case rel => exact ⟨2 + 1, by omega, by go_num, by rw [HSN.out, HSG.out, ← List.append_assoc]; exact HB6.out, HBLX.out.trans HK6.out.1, rfl⟩
          · have HSN := hid (quad_snoc l 3 (by decide))
            by_cases hg : n < 3
            · have hgI : (n : Int) < 3 := by omega
              have HSG := hid (show sign4 l 3 = 61 by unfold sign4; rw [if_pos (by have := HN.out; omega)])
              go_wp2_with (go_at_call 91; refine (wbyte_fn HBX.out 61 hlx).mono ?_; rintro e w6 ⟨rfl, hb6, hk6⟩; have HB6 := hid hb6; have HK6 := hid hk6; clear hb6 hk6)
              go_roundg (4 - (3 + 1))
              case measure => omega
              case rel => exact ⟨3 + 1, by omega, by go_num, by rw [HSN.out, HSG.out, ← List.append_assoc]; exact HB6.out, HBLX.out.trans HK6.out.1, rfl⟩
            · have hgI : ¬ ((n : Int) < 3) := by omega
              have hand := i64_mask6 V (by omega)
              obtain ⟨d, hd⟩ : ∃ d, d = V % 64 := ⟨_, rfl⟩
              rw [← hd] at hand
              have hdl : d < 64 := by omega
              have hd2 : (0 : Int) ≤ (d : Int) ∧ (d : Int) < 64 := by omega
              have HSG := hid (show sign4 l 3 = b64L d by
                unfold sign4
                rw [if_neg (by have := HN.out; omega), ← HV3.out, hd, show V / 2 ^ (18 - 6 * 3) = V from Nat.div_one V])
              clear hd
              go_wp2_with (go_at_call 91; rw [sigdig]; refine (wbyte_fn HBX.out _ hlx).mono ?_; rintro e w6 ⟨rfl, hb6, hk6⟩; have HB6 := hid hb6; have HK6 := hid hk6; clear hb6 hk6)
              go_roundg (4 - (3 + 1))
              case measure => omega
              case rel => exact ⟨3 + 1, by omega, by go_num, by rw [HSN.out, HSG.out, ← List.append_assoc]; exact HB6.out, HBLX.out.trans HK6.out.1, rfl⟩
          · have hext : (⟨l.toArray⟩ : ByteArray).extract n l.length = ⟨(l.drop n).toArray⟩ := by
              rw [Lib.extract_mk]
              congr 2
              rw [List.take_of_length_le (by rw [List.length_drop]; exact Nat.le_refl _)]
            have hnlI : (n : Int) ≤ (l.length : Int) := by omega
            obtain ⟨t, ht⟩ : ∃ t, t = l.drop n := ⟨_, rfl⟩
            rw [← ht] at hext
            have htl : t.length = l.length - n := by rw [ht, List.length_drop]
            have htd : t = l.drop 3 := by
              rw [ht]
              by_cases h3 : 3 ≤ l.length
              · rw [show n = 3 by have := HN.out; omega]
              · rw [show n = l.length by have := HN.out; omega, List.drop_eq_nil_of_le (Nat.le_refl _), List.drop_eq_nil_of_le (by omega)]
            have HTD := hid htd
            have HTL := hid htl
            clear ht htl htd
            go_wp2
            go_roundg (t.length + 1)
            case measure => have := HTL.out; omega
            case rel => exact ⟨t, out ++ quad l, rfl, by have := HTL.out; omega, by rw [HRR.out, b64E_step l (fun e => hl0 (by rw [e]; rfl)), ← HTD.out, List.append_assoc], HBX.out, HBLX.out, rfl⟩
end Go.Proofs.YtihdndaibmgoiaaGreatDoor.Pz
/-
  Laws 10: awake.
-/
namespace Go.Proofs.YtihdndaibmgoiaaGreatDoor.Pz
open Go.RowKit
attribute [local go_sem] Oper.semAt_some
theorem awPack : packRes [97, 51, 32, 115, 32, 72, 52] [[97, 98], [50, 53, 56], [48, 97, 49, 98]] = ([97, 98, 0, 2, 1, 10, 27], 0) := by kernel_rfl
theorem awUnpack : unpackRes [99, 50, 32, 99, 117] [255, 1, 255] = ([[45, 49, 32, 49], [50, 53, 53]], true, 0) := by kernel_rfl
theorem awB64 : b64E [97, 98] = [89, 87, 73, 61] := by kernel_rfl
theorem strs_new (w : World) (l : List Str) : StrsAt (w.alloc (.cells (l.map fun x => Value.string ⟨x.toArray⟩).toArray 9)) (.slice (some ⟨w.heap.size, 0, none⟩) l.length l.length) l := by
  refine ⟨_, _, rfl, Nat.le_refl _, fun i hi => ⟨_, rfl, by simp, ?_⟩⟩
  rw [add_none, Nat.zero_add, Lib.cell_of_heap (heap_alloc_new _ _)]
  simp [hi]
theorem RowS.on2 {B C : Nat} {w w' : World} {v : Value} {l : List Str} (h : RowS B w v l) (hb : Below C w w') (hC : w.heap.size ≤ C) : RowS B w' v l := h.on (hb.mono hC)
set_option maxRecDepth 100000 in
set_option maxHeartbeats 2000000 in
theorem awake_fn (w : World) (htab : Tab w) : Calls Tryz.prog 11 #[] w fun e w' => e = .returned (.bool true) ∧ Below w.heap.size w w' := by
  have hp : Calls Tryz.prog 20 #[.string ⟨#[97, 51, 32, 115, 32, 72, 52]⟩, .slice (some ⟨w.heap.size, 0, none⟩) 3 3] (w.alloc (.cells #[.string ⟨#[97, 98]⟩, .string ⟨#[50, 53, 56]⟩, .string ⟨#[48, 97, 49, 98]⟩] 9)) (PackQ [97, 51, 32, 115, 32, 72, 52] [[97, 98], [50, 53, 56], [48, 97, 49, 98]] (w.alloc (.cells #[.string ⟨#[97, 98]⟩, .string ⟨#[50, 53, 56]⟩, .string ⟨#[48, 97, 49, 98]⟩] 9))) := pack_fn [97, 51, 32, 115, 32, 72, 52] (by decide) [[97, 98], [50, 53, 56], [48, 97, 49, 98]] _ _ (strs_new w [[97, 98], [50, 53, 56], [48, 97, 49, 98]]) (by decide) (by decide)
  unfold PackQ at hp
  rw [awPack] at hp
  have HP := hid hp
  have HT := hid htab
  have HU := hid (fun u (hu : Tab u) => by have h := unpack_fn [99, 50, 32, 99, 117] [255, 1, 255] (by decide) (by decide) u hu; unfold UnpackQ at h; rw [awUnpack] at h; exact h)
  have HB64 := hid (fun u => by have h := base64_fn [97, 98] (by decide) u; rw [awB64] at h; exact h)
  clear hp htab
  go_enter Tryz.func11, Tryz.ntmps11
  go_wp2_with fail
  (with_reducible refine HP.out.mono ?_); rintro e w1 ⟨rfl, hb1⟩
  have HB1 := hid (show Below w.heap.size w w1 from (belowA _ _).trans (hb1.mono (by simp)))
  clear hb1 HP
  go_wp2_with fail
  (with_reducible refine (HU.out _ (HT.out.below HB1.out)).mono ?_); rintro e w2 ⟨v, rfl, hr2, hb2⟩
  have hs1 := HB1.out.size
  have HB2 := hid (HB1.out.trans (hb2.mono hs1))
  have hs2 := HB2.out.size
  have HR2 := hid hr2
  obtain ⟨a2, c2, he⟩ := hr2.shape
  subst he
  clear hb2 hr2 HU
  have HSM := hid (sameG_fn (w := w2.alloc (.cells #[.string ⟨#[45, 49, 32, 49]⟩, .string ⟨#[50, 53, 53]⟩] 9)) (HR2.out.strs.below (belowA _ _)) (strs_new w2 [[45, 49, 32, 49], [50, 53, 53]]) (by decide) (by decide))
  have HSM2 := hid (show Calls Tryz.prog 23 #[.slice a2 2 c2, .slice (some ⟨w2.heap.size, 0, none⟩) 2 2] (w2.alloc (.cells #[.string ⟨#[45, 49, 32, 49]⟩, .string ⟨#[50, 53, 53]⟩] 9)) fun e w' => e = .returned (.bool true) ∧ Below (w2.heap.size + 1) (w2.alloc (.cells #[.string ⟨#[45, 49, 32, 49]⟩, .string ⟨#[50, 53, 53]⟩] 9)) w' from by
    have h := HSM.out
    simp only [World.size_alloc, decide_true] at h
    exact h)
  clear HSM
  go_wp2_with (first | (go_at_call 23; refine HSM2.out.mono ?_; rintro e w3 ⟨rfl, hb3⟩; have HB3 := hid (HB2.out.trans ((belowA w2 (.cells #[.string ⟨#[45, 49, 32, 49]⟩, .string ⟨#[50, 53, 53]⟩] 9)).mono hs2 |>.trans (hb3.mono (by omega)))); clear hb3) | (go_at_call 41; refine (HB64.out _).mono ?_; rintro e w4 ⟨rfl, hb4⟩; have HB4 := hid (HB3.out.trans (hb4.mono HB3.out.size)); clear hb4))
  go_ret
  exact ⟨rfl, HB4.out⟩
end Go.Proofs.YtihdndaibmgoiaaGreatDoor.Pz
