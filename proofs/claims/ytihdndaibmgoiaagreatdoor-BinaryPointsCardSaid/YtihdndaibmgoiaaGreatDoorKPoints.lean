/-
  BinaryPointsCard: the law's card and what it alone needs, merged from 2 texts. Conditions: the row's own.
-/
import Derived.Test.YtihdndaibmgoiaaGreatDoorCards
import Derived.Test.YtihdndaibmgoiaaGreatDoorTie
import Derived.Deep.DeepHandedRow
import Derived.ProofKit
import Derived.OpenShut
import Derived.Lay
import Derived.Stop.LaidErr
import Derived.Lib.LaidTab
import Derived.Lib.LaidU8T
import Derived.MakeChecks
import Derived.ChangeMaps5
import Derived.SliceStrings
import Derived.Carry
import Derived.Shelf.Vars
import Derived.Test.YtihdndaibmgoiaaGreatDoorK0
import Derived.Test.YtihdndaibmgoiaaGreatDoorK1
import Derived.Test.YtihdndaibmgoiaaGreatDoorK2
import Derived.Test.YtihdndaibmgoiaaGreatDoorK3
import Derived.Test.YtihdndaibmgoiaaGreatDoorK4
import Derived.Test.YtihdndaibmgoiaaGreatDoorK5
import Derived.Test.YtihdndaibmgoiaaGreatDoorK6
import Derived.Test.YtihdndaibmgoiaaGreatDoorK7
import Derived.Test.YtihdndaibmgoiaaGreatDoorK8
import Derived.Test.YtihdndaibmgoiaaGreatDoorK9
import Derived.Test.YtihdndaibmgoiaaGreatDoorK10
import Derived.Test.YtihdndaibmgoiaaGreatDoorK11
/-
  Laws 10: BinaryPoints.
-/
namespace Go.Proofs.YtihdndaibmgoiaaGreatDoor.Pz
open Go.RowKit
attribute [local go_sem] Oper.semAt_some
theorem U8.below {w w' : World} (h : U8 w) (hb : Below w.heap.size w w') : U8 w' := Utf8Tabs_below h hb
theorem unl_small (s : Str) (h : s.length ≤ 1500) : unlRes s = (unlE s, 0) ∧ (unlE s).length ≤ 6000 := by
  have h1 := encAll_len (s.map (·.toNat))
  rw [List.length_map] at h1
  have h2 : (unlE s).length ≤ 6000 := by unfold unlE; omega
  exact ⟨by unfold unlRes; rw [if_neg (by omega)], h2⟩
set_option maxRecDepth 1000000 in
set_option maxHeartbeats 8000000 in
theorem binaryPoints_fn (s : Str) (l : List Int) (v : Value) (w : World) (hs : s.length ≤ 9223372036854775807) (hv : IntsAt w v l) (htab : Tab w) (hu8 : U8 w) :
    Calls Tryz.prog 6 #[.string ⟨s.toArray⟩, v] w fun e w' => e = .returned (.bool true) ∧ Below w.heap.size w w' := by
  have hsz : (⟨s.toArray⟩ : ByteArray).size = s.length := Lib.size_mk _
  have HA := hid (fun u (hu : Tab u) => awake_fn u hu)
  have HT := hid htab
  have HU := hid hu8
  have HV := hid hv
  obtain ⟨va, vc, he, -⟩ := hv
  obtain ⟨n, hn⟩ : ∃ n, n = l.length := ⟨_, rfl⟩
  rw [← hn] at he
  have HNN := hid hn
  subst he
  clear htab hu8 hn
  by_cases hbig : 1500 < s.length
  · have hbI : (1500 : Int) < (s.length : Int) := by omega
    go_enter Tryz.func6, Tryz.ntmps6
    go_wp2_with (go_at_call 11; refine (HA.out _ HT.out).mono ?_; rintro e w1 ⟨rfl, hb1⟩; have HB1 := hid hb1; clear hb1)
    go_ret
    exact ⟨rfl, HB1.out⟩
  have hbI : ¬ ((1500 : Int) < (s.length : Int)) := by omega
  by_cases hbig2 : 500 < n
  · have hbI2 : (500 : Int) < (n : Int) := by omega
    go_enter Tryz.func6, Tryz.ntmps6
    go_wp2_with (go_at_call 11; refine (HA.out _ HT.out).mono ?_; rintro e w1 ⟨rfl, hb1⟩; have HB1 := hid hb1; clear hb1)
    go_ret
    exact ⟨rfl, HB1.out⟩
  have hbI2 : ¬ ((500 : Int) < (n : Int)) := by omega
  have hln : l.length ≤ 500 := by rw [← HNN.out]; omega
  obtain ⟨hun, hul⟩ := unl_small s (by omega)
  have HP := hid (fun u => by have h := points_fn s (by omega) u; unfold PtsQ at h; exact h)
  have HPR := hid (fun u (hu : U8 u) => by have h := pointsR_fn s (by omega) u hu; unfold PtsQ at h; exact h)
  have HO := hid (fun (y : Value) (m : List Int) u (hy : IntsAt u y m) (hm : m.length ≤ 1000000) => by have h := ofPoints_fn m y u hy hm; unfold TxtQ at h; exact h)
  have HOR := hid (fun (y : Value) (m : List Int) u (hy : IntsAt u y m) (hm : m.length ≤ 1000000) => by have h := ofPointsR_fn m y u hy hm; unfold TxtQ at h; exact h)
  have HL := hid (fun u => by have h := latin_fn s (by omega) u; unfold TxtQ at h; exact h)
  have HLR := hid (fun u (hu : U8 u) => by have h := latinR_fn s (by omega) u hu; unfold TxtQ at h; exact h)
  have HN := hid (fun u => by have h := unlatin_fn s (by omega) u; unfold TxtQ at h; rw [hun] at h; exact h)
  have HNR := hid (fun u => by have h := unlatinR_fn s (by omega) u; unfold TxtQ at h; rw [hun] at h; exact h)
  have HL2 := hid (fun u => by have h := latin_fn (unlE s) (by omega) u; unfold TxtQ at h; rw [lat_unl] at h; exact h)
  have HW := hid (fun u => wide_fn s (by omega) u)
  have HWR := hid (fun u (hu : U8 u) => wideR_fn s (by omega) u hu)
  obtain ⟨wd, hwd⟩ : ∃ wd, wd = wideE s := ⟨_, rfl⟩
  rw [← hwd] at HW HWR
  obtain ⟨ul, hule⟩ : ∃ ul, ul = unlE s := ⟨_, rfl⟩
  rw [← hule] at HN HNR HL2
  obtain ⟨lt, le, hlr⟩ : ∃ lt le, latRes s = (lt, le) := ⟨_, _, rfl⟩
  rw [hlr] at HL HLR
  obtain ⟨ot, oe, hor⟩ : ∃ ot oe, ofPtsRes l = (ot, oe) := ⟨_, _, rfl⟩
  have HORE := hid hor
  have hpl : (ptsRes s).1.length ≤ 1500 := by rw [ptsRes_L, intsOf_len]; have := ptsL_len s; omega
  have HPL := hid hpl
  clear hwd hule hlr hor hun hul hpl
  cases hpe : pointsE s with
  | none =>
    have HRS := hid (show (ptsRes s).2 = 2 by unfold ptsRes; rw [hpe])
    rw [HRS.out] at HP HPR
    obtain ⟨q, hq⟩ : ∃ q, q = (ptsRes s).1 := ⟨_, rfl⟩
    rw [← hq] at HP HPR HPL
    clear hpe hq HRS
    obtain ⟨m, hm⟩ : ∃ m, m = q.length := ⟨_, rfl⟩
    have HM := hid hm
    clear hm
    go_enter Tryz.func6, Tryz.ntmps6
    go_wp2_with fail
    (with_reducible refine (HP.out _).mono ?_); rintro e w1 ⟨v1, rfl, hr1, hb1⟩
    obtain ⟨a1, c1, he⟩ := hr1.shape
    rw [← HM.out] at he
    have HR1 := hid hr1
    have HB1 := hid hb1
    have hz1 := hb1.size
    clear hr1 hb1
    subst he
    go_wp2_with fail
    (with_reducible refine (HPR.out _ (HU.out.below HB1.out)).mono ?_); rintro e w2 ⟨v2, rfl, hr2, hb2⟩
    obtain ⟨a2, c2, he⟩ := hr2.shape
    rw [← HM.out] at he
    have HR2 := hid hr2
    have HB12 := hid hb2
    have HB2 := hid (HB1.out.trans (hb2.mono hz1))
    have hz2 := HB2.out.size
    clear hr2 hb2
    subst he
    go_wp2_with fail
    (with_reducible refine (show Calls Tryz.prog 31 _ _ fun e w' => e = .returned (.tuple #[.string ⟨ot.toArray⟩, .int .i64 oe]) ∧ Below w2.heap.size w2 w' from (by have h := HO.out _ l w2 (HV.out.below HB2.out) (by omega); rw [HORE.out] at h; exact h)).mono ?_); rintro e w3 ⟨rfl, hb3⟩
    have HB3 := hid (HB2.out.trans (hb3.mono hz2))
    have hz3 := HB3.out.size
    have HS3 := hid hb3
    clear hb3
    go_wp2_with fail
    (with_reducible refine (show Calls Tryz.prog 32 _ _ fun e w' => e = .returned (.tuple #[.string ⟨ot.toArray⟩, .int .i64 oe]) ∧ Below w3.heap.size w3 w' from (by have h := HOR.out _ l w3 (HV.out.below HB3.out) (by omega); rw [HORE.out] at h; exact h)).mono ?_); rintro e w4 ⟨rfl, hb4⟩
    have HB4 := hid (HB3.out.trans (hb4.mono hz3))
    have hz4 := HB4.out.size
    have HS4 := hid hb4
    clear hb4
    go_wp2_with fail
    (with_reducible refine (HL.out _).mono ?_); rintro e w5 ⟨rfl, hb5⟩
    have HB5 := hid (HB4.out.trans (hb5.mono hz4))
    have hz5 := HB5.out.size
    have HS5 := hid hb5
    clear hb5
    go_wp2_with fail
    (with_reducible refine (HLR.out _ (HU.out.below HB5.out)).mono ?_); rintro e w6 ⟨rfl, hb6⟩
    have HB6 := hid (HB5.out.trans (hb6.mono hz5))
    have hz6 := HB6.out.size
    have HS6 := hid hb6
    clear hb6
    go_wp2_with fail
    (with_reducible refine (HN.out _).mono ?_); rintro e w7 ⟨rfl, hb7⟩
    have HB7 := hid (HB6.out.trans (hb7.mono hz6))
    have hz7 := HB7.out.size
    have HS7 := hid hb7
    clear hb7
    go_wp2_with fail
    (with_reducible refine (HNR.out _).mono ?_); rintro e w8 ⟨rfl, hb8⟩
    have HB8 := hid (HB7.out.trans (hb8.mono hz7))
    have hz8 := HB8.out.size
    have HS8 := hid hb8
    clear hb8
    have hb18 : Below w1.heap.size w1 w8 := HB12.out.trans ((HS3.out.mono HB12.out.size).trans ((HS4.out.mono (by have := HS3.out.size; have := HS4.out.size; have := HS5.out.size; have := HS6.out.size; have := HS7.out.size; have := HS8.out.size; have := HB12.out.size; omega)).trans ((HS5.out.mono (by have := HS3.out.size; have := HS4.out.size; have := HS5.out.size; have := HS6.out.size; have := HS7.out.size; have := HS8.out.size; have := HB12.out.size; omega)).trans ((HS6.out.mono (by have := HS3.out.size; have := HS4.out.size; have := HS5.out.size; have := HS6.out.size; have := HS7.out.size; have := HS8.out.size; have := HB12.out.size; omega)).trans ((HS7.out.mono (by have := HS3.out.size; have := HS4.out.size; have := HS5.out.size; have := HS6.out.size; have := HS7.out.size; have := HS8.out.size; have := HB12.out.size; omega)).trans (HS8.out.mono (by have := HS3.out.size; have := HS4.out.size; have := HS5.out.size; have := HS6.out.size; have := HS7.out.size; have := HS8.out.size; have := HB12.out.size; omega)))))))
    have hb28 : Below w2.heap.size w2 w8 := HS3.out.trans ((HS4.out.mono (by have := HS3.out.size; have := HS4.out.size; have := HS5.out.size; have := HS6.out.size; have := HS7.out.size; have := HS8.out.size; have := HB12.out.size; omega)).trans ((HS5.out.mono (by have := HS3.out.size; have := HS4.out.size; have := HS5.out.size; have := HS6.out.size; have := HS7.out.size; have := HS8.out.size; have := HB12.out.size; omega)).trans ((HS6.out.mono (by have := HS3.out.size; have := HS4.out.size; have := HS5.out.size; have := HS6.out.size; have := HS7.out.size; have := HS8.out.size; have := HB12.out.size; omega)).trans ((HS7.out.mono (by have := HS3.out.size; have := HS4.out.size; have := HS5.out.size; have := HS6.out.size; have := HS7.out.size; have := HS8.out.size; have := HB12.out.size; omega)).trans (HS8.out.mono (by have := HS3.out.size; have := HS4.out.size; have := HS5.out.size; have := HS6.out.size; have := HS7.out.size; have := HS8.out.size; have := HB12.out.size; omega))))))
    have HI1 := hid (HR1.out.ints.below hb18)
    have HI2 := hid (HR2.out.ints.below hb28)
    clear hb18 hb28
    have HSM := hid (by have h := sameI_fn HI1.out HI2.out (by have := HPL.out; omega) (by have := HPL.out; omega); simp only [decide_true] at h; exact h)
    go_wp2_with fail
    (with_reducible refine (HSM.out).mono ?_); rintro e w9 ⟨rfl, hb9⟩
    have HB9 := hid (HB8.out.trans (hb9.mono hz8))
    have hz9 := HB9.out.size
    have HS9 := hid hb9
    clear hb9
    go_wp2_with fail
    (with_reducible refine (HW.out _).mono ?_); rintro e w10 ⟨rfl, hb10⟩
    have HB10 := hid (HB9.out.trans (hb10.mono hz9))
    have hz10 := HB10.out.size
    have HS10 := hid hb10
    clear hb10
    go_wp2_with fail
    (with_reducible refine (HWR.out _ (HU.out.below HB10.out)).mono ?_); rintro e w11 ⟨rfl, hb11⟩
    have HB11 := hid (HB10.out.trans (hb11.mono hz10))
    have hz11 := HB11.out.size
    have HS11 := hid hb11
    clear hb11
    go_wp2_with fail
    (with_reducible refine (HL2.out _).mono ?_); rintro e w12 ⟨rfl, hb12⟩
    have HB12 := hid (HB11.out.trans (hb12.mono hz11))
    have hz12 := HB12.out.size
    have HS12 := hid hb12
    clear hb12
    go_wp2_with fail
    (with_reducible refine (HA.out _ (HT.out.below HB12.out)).mono ?_); rintro e w13 ⟨rfl, hb13⟩
    have HB13 := hid (HB12.out.trans (hb13.mono hz12))
    have hz13 := HB13.out.size
    have HS13 := hid hb13
    clear hb13
    go_wp2
    go_ret
    exact ⟨rfl, HB13.out⟩
  | some L =>
    have HRS := hid (show (ptsRes s).2 = 0 by unfold ptsRes; rw [hpe])
    have HOP := hid (show ofPtsRes (ptsRes s).1 = (s, 0) by rw [show ptsRes s = (intsOf L, 0) by unfold ptsRes; rw [hpe]]; exact of_pts hpe)
    rw [HRS.out] at HP HPR
    obtain ⟨q, hq⟩ : ∃ q, q = (ptsRes s).1 := ⟨_, rfl⟩
    rw [← hq] at HP HPR HPL HOP
    clear hpe hq HRS
    obtain ⟨m, hm⟩ : ∃ m, m = q.length := ⟨_, rfl⟩
    have HM := hid hm
    clear hm
    go_enter Tryz.func6, Tryz.ntmps6
    go_wp2_with fail
    (with_reducible refine (HP.out _).mono ?_); rintro e w1 ⟨v1, rfl, hr1, hb1⟩
    obtain ⟨a1, c1, he⟩ := hr1.shape
    rw [← HM.out] at he
    have HR1 := hid hr1
    have HB1 := hid hb1
    have hz1 := hb1.size
    clear hr1 hb1
    subst he
    go_wp2_with fail
    (with_reducible refine (HPR.out _ (HU.out.below HB1.out)).mono ?_); rintro e w2 ⟨v2, rfl, hr2, hb2⟩
    obtain ⟨a2, c2, he⟩ := hr2.shape
    rw [← HM.out] at he
    have HR2 := hid hr2
    have HB12 := hid hb2
    have HB2 := hid (HB1.out.trans (hb2.mono hz1))
    have hz2 := HB2.out.size
    clear hr2 hb2
    subst he
    go_wp2_with fail
    (with_reducible refine (show Calls Tryz.prog 31 _ _ fun e w' => e = .returned (.tuple #[.string ⟨ot.toArray⟩, .int .i64 oe]) ∧ Below w2.heap.size w2 w' from (by have h := HO.out _ l w2 (HV.out.below HB2.out) (by omega); rw [HORE.out] at h; exact h)).mono ?_); rintro e w3 ⟨rfl, hb3⟩
    have HB3 := hid (HB2.out.trans (hb3.mono hz2))
    have hz3 := HB3.out.size
    have HS3 := hid hb3
    clear hb3
    go_wp2_with fail
    (with_reducible refine (show Calls Tryz.prog 32 _ _ fun e w' => e = .returned (.tuple #[.string ⟨ot.toArray⟩, .int .i64 oe]) ∧ Below w3.heap.size w3 w' from (by have h := HOR.out _ l w3 (HV.out.below HB3.out) (by omega); rw [HORE.out] at h; exact h)).mono ?_); rintro e w4 ⟨rfl, hb4⟩
    have HB4 := hid (HB3.out.trans (hb4.mono hz3))
    have hz4 := HB4.out.size
    have HS4 := hid hb4
    clear hb4
    go_wp2_with fail
    (with_reducible refine (HL.out _).mono ?_); rintro e w5 ⟨rfl, hb5⟩
    have HB5 := hid (HB4.out.trans (hb5.mono hz4))
    have hz5 := HB5.out.size
    have HS5 := hid hb5
    clear hb5
    go_wp2_with fail
    (with_reducible refine (HLR.out _ (HU.out.below HB5.out)).mono ?_); rintro e w6 ⟨rfl, hb6⟩
    have HB6 := hid (HB5.out.trans (hb6.mono hz5))
    have hz6 := HB6.out.size
    have HS6 := hid hb6
    clear hb6
    go_wp2_with fail
    (with_reducible refine (HN.out _).mono ?_); rintro e w7 ⟨rfl, hb7⟩
    have HB7 := hid (HB6.out.trans (hb7.mono hz6))
    have hz7 := HB7.out.size
    have HS7 := hid hb7
    clear hb7
    go_wp2_with fail
    (with_reducible refine (HNR.out _).mono ?_); rintro e w8 ⟨rfl, hb8⟩
    have HB8 := hid (HB7.out.trans (hb8.mono hz7))
    have hz8 := HB8.out.size
    have HS8 := hid hb8
    clear hb8
    have hb18 : Below w1.heap.size w1 w8 := HB12.out.trans ((HS3.out.mono HB12.out.size).trans ((HS4.out.mono (by have := HS3.out.size; have := HS4.out.size; have := HS5.out.size; have := HS6.out.size; have := HS7.out.size; have := HS8.out.size; have := HB12.out.size; omega)).trans ((HS5.out.mono (by have := HS3.out.size; have := HS4.out.size; have := HS5.out.size; have := HS6.out.size; have := HS7.out.size; have := HS8.out.size; have := HB12.out.size; omega)).trans ((HS6.out.mono (by have := HS3.out.size; have := HS4.out.size; have := HS5.out.size; have := HS6.out.size; have := HS7.out.size; have := HS8.out.size; have := HB12.out.size; omega)).trans ((HS7.out.mono (by have := HS3.out.size; have := HS4.out.size; have := HS5.out.size; have := HS6.out.size; have := HS7.out.size; have := HS8.out.size; have := HB12.out.size; omega)).trans (HS8.out.mono (by have := HS3.out.size; have := HS4.out.size; have := HS5.out.size; have := HS6.out.size; have := HS7.out.size; have := HS8.out.size; have := HB12.out.size; omega)))))))
    have hb28 : Below w2.heap.size w2 w8 := HS3.out.trans ((HS4.out.mono (by have := HS3.out.size; have := HS4.out.size; have := HS5.out.size; have := HS6.out.size; have := HS7.out.size; have := HS8.out.size; have := HB12.out.size; omega)).trans ((HS5.out.mono (by have := HS3.out.size; have := HS4.out.size; have := HS5.out.size; have := HS6.out.size; have := HS7.out.size; have := HS8.out.size; have := HB12.out.size; omega)).trans ((HS6.out.mono (by have := HS3.out.size; have := HS4.out.size; have := HS5.out.size; have := HS6.out.size; have := HS7.out.size; have := HS8.out.size; have := HB12.out.size; omega)).trans ((HS7.out.mono (by have := HS3.out.size; have := HS4.out.size; have := HS5.out.size; have := HS6.out.size; have := HS7.out.size; have := HS8.out.size; have := HB12.out.size; omega)).trans (HS8.out.mono (by have := HS3.out.size; have := HS4.out.size; have := HS5.out.size; have := HS6.out.size; have := HS7.out.size; have := HS8.out.size; have := HB12.out.size; omega))))))
    have HI1 := hid (HR1.out.ints.below hb18)
    have HI2 := hid (HR2.out.ints.below hb28)
    clear hb18 hb28
    have HSM := hid (by have h := sameI_fn HI1.out HI2.out (by have := HPL.out; omega) (by have := HPL.out; omega); simp only [decide_true] at h; exact h)
    go_wp2_with fail
    (with_reducible refine (HSM.out).mono ?_); rintro e w9 ⟨rfl, hb9⟩
    have HB9 := hid (HB8.out.trans (hb9.mono hz8))
    have hz9 := HB9.out.size
    have HS9 := hid hb9
    clear hb9
    go_wp2_with fail
    (with_reducible refine (HW.out _).mono ?_); rintro e w10 ⟨rfl, hb10⟩
    have HB10 := hid (HB9.out.trans (hb10.mono hz9))
    have hz10 := HB10.out.size
    have HS10 := hid hb10
    clear hb10
    go_wp2_with fail
    (with_reducible refine (HWR.out _ (HU.out.below HB10.out)).mono ?_); rintro e w11 ⟨rfl, hb11⟩
    have HB11 := hid (HB10.out.trans (hb11.mono hz10))
    have hz11 := HB11.out.size
    have HS11 := hid hb11
    clear hb11
    have HO2 := hid (by have h := HO.out _ q w11 (HI1.out.below (HS9.out.trans ((HS10.out.mono HS9.out.size).trans (HS11.out.mono (Nat.le_trans HS9.out.size HS10.out.size))))) (by have := HPL.out; omega); rw [HOP.out] at h; exact h)
    go_wp2_with fail
    (with_reducible refine (HO2.out).mono ?_); rintro e w12 ⟨rfl, hb12⟩
    have HB12 := hid (HB11.out.trans (hb12.mono hz11))
    have hz12 := HB12.out.size
    have HS12 := hid hb12
    clear hb12
    go_wp2_with fail
    (with_reducible refine (HL2.out _).mono ?_); rintro e w13 ⟨rfl, hb13⟩
    have HB13 := hid (HB12.out.trans (hb13.mono hz12))
    have hz13 := HB13.out.size
    have HS13 := hid hb13
    clear hb13
    go_wp2_with fail
    (with_reducible refine (HA.out _ (HT.out.below HB13.out)).mono ?_); rintro e w14 ⟨rfl, hb14⟩
    have HB14 := hid (HB13.out.trans (hb14.mono hz13))
    have hz14 := HB14.out.size
    have HS14 := hid hb14
    clear hb14
    go_wp2
    go_ret
    exact ⟨rfl, HB14.out⟩
end Go.Proofs.YtihdndaibmgoiaaGreatDoor.Pz
/-
  BinaryPoints: the row and its card. Condition: the listed package-level variables hold what the row lists (the card ties them to the text).
-/
namespace Go.Proofs.YtihdndaibmgoiaaGreatDoor.binaryPoints
open Go.ChangeMaps Go.ChangeShapes Go.WideShapes Go.ChangeAt Go.RowKit
theorem own : ownKnob Tryz.prog.godebug = none := by kernel_rfl
theorem ok_true {P : Program} {W' : World} {f : Func} {t : TypeId} (hr : f.resultTypes = #[t]) (ht : P.underlying t = some .bool) :
    ∀ (j : Nat) (t' : TypeId) (r : Value), f.resultTypes[j]? = some t' → ((Value.bool true).resultList f.resultTypes.size)[j]? = some r → Value.okWide P W' .any 0 t' r := ok_one hr rfl (okWide_bool_mk ht true)
section
variable {H : Type} {enc : TypeId × Value → H}
/-- the row's last step: the arguments' places read as they did, no variable is asked, what lay below is as it was -/
theorem post_rows {f : Func} {s : ChangeSpec} {W W' : World} {args : Array Value} {v : Value} {ds gs : List (DataW H)} {before pa : List MemPlace}
    (hW : DataW.Whole enc Tryz.prog f.params.toList s.vars false W args.toList ds gs before)
    (hres : ∀ (b : Nat) (sp : Nat → Bool) (hd : Bool), DataW.TrodAll enc Tryz.prog W' b sp hd f.resultTypes.toList (v.resultList f.resultTypes.size) (s.fn H (ds ++ gs)).results [])
    (hargs : DataW.TrodAll enc Tryz.prog W' 0 (fun b => decide (b < W.heap.size)) true f.params.toList args.toList (s.fn H (ds ++ gs)).args pa)
    (hvars : ∀ sp : Nat → Bool, DataW.TrodVars enc Tryz.prog W' sp s.vars (s.fn H (ds ++ gs)).vars []) (hb : Below W.heap.size W W') :
    s.post enc Tryz.prog f false true false false W args v W' :=
  ⟨ds, gs, before, [], pa, [], hW, hres _ _ _, hargs, hvars _, hb.frame _, fun h => by cases h⟩
theorem laidOut : laidOutB Tryz.prog = true := by kernel_rfl
end
theorem tab_of {W : World} (hl : laidMetH Tryz.prog Rows.binaryPointsRow.laid W) : Pz.Tab W := by
  rw [MakeChecks.laidMetH_plain _ _ _ (by kernel_rfl)] at hl
  have h3 := hl.tail.tail
  have e : (Rows.laid_internal_strconv_uint64pow10 : DataW Unit) = Lib.tabData .u64 Lib.pow10Tab := by kernel_rfl
  have h4 : laidMet Tryz.prog (("internal/strconv.uint64pow10", Lib.tabData .u64 Lib.pow10Tab) :: [("unicode/utf8.acceptRanges", Rows.laid_unicode_utf8_acceptRanges), ("strconv.ErrRange", Rows.laid_strconv_ErrRange), ("strconv.ErrSyntax", Rows.laid_strconv_ErrSyntax), ("unicode/utf8.first", Rows.laid_unicode_utf8_first)]) W := by
    rw [← e]; exact h3
  exact Lib.tabIs_of_head (g := 4) (t := 195) (e := 44) (n := 20) (by kernel_rfl) (by kernel_rfl) (by kernel_rfl) (by kernel_rfl) (by kernel_rfl) (by kernel_rfl) h4
theorem u8x : U8Extra Tryz.prog Pz.Tryz.l196_ren := { n3 := by kernel_rfl, n4 := by kernel_rfl, y3 := by kernel_rfl, y4 := by kernel_rfl, c5 := by kernel_rfl, c119 := by kernel_rfl, c138 := by kernel_rfl }
theorem u8_of {W : World} (hl : laidMetH Tryz.prog Rows.binaryPointsRow.laid W) : Pz.U8 W := by
  rw [MakeChecks.laidMetH_plain _ _ _ (by kernel_rfl)] at hl
  have h4 : laidMet Tryz.prog [("math/bits.deBruijn32tab", Rows.laid_math_bits_deBruijn32tab), ("math/bits.deBruijn64tab", Rows.laid_math_bits_deBruijn64tab), ("internal/strconv.uint64pow10", Rows.laid_internal_strconv_uint64pow10), ("unicode/utf8.acceptRanges", Rows.laid_unicode_utf8_acceptRanges), ("strconv.ErrRange", Rows.laid_strconv_ErrRange), ("strconv.ErrSyntax", Rows.laid_strconv_ErrSyntax), ("unicode/utf8.first", Rows.laid_unicode_utf8_first)] W := hl
  have e1 : (Rows.laid_unicode_utf8_first : DataW Unit) = Lib.firstData := by kernel_rfl
  have e2 : (Rows.laid_unicode_utf8_acceptRanges : DataW Unit) = Lib.acceptData := by kernel_rfl
  exact utf8Tabs_of_readsT (U8Types.of196 Pz.Tryz.l196) u8x (Lib.laidMet.reads h4 (by rw [← e1]; simp)) (Lib.laidMet.reads h4 (by rw [← e2]; simp))
theorem contract (H : Type) (enc : TypeId × Value → H) (W : World) (base : Nat) (args : Array Value) (ds gs : List (DataW H)) (before : List MemPlace)
    (hval : ∀ (j : Nat) t v, Tryz.f6.params[j]? = some t → args[j]? = some v → Value.okWide Tryz.prog W .any base t v)
    (hW : DataW.Whole enc Tryz.prog Tryz.f6.params.toList Rows.binaryPointsSpec.vars false W args.toList ds gs before) (hl : laidMetH Tryz.prog Rows.binaryPointsRow.laid W) :
    Calls Tryz.prog 6 args W fun e W' => ∃ v, e = .returned v ∧ Rows.binaryPointsSpec.post enc Tryz.prog Tryz.f6 false true false false W args v W' := by
  have hW' := hW
  obtain ⟨p, q, hA0, hV, rfl, hfz, hnd⟩ := hW
  have hA : DataW.TrodAll enc Tryz.prog W 0 (fun _ => true) true Tryz.f6.params.toList args.toList ds p := hA0
  rw [Tryz.params6] at hA hval
  obtain ⟨v0, vs0, d0, ds0, p0, q0, hargs, rfl, rfl, h0, r0⟩ := trodAll_cons hA
  obtain ⟨v1, vs1, d1, ds1, p1, q1, rfl, rfl, rfl, h1, r1⟩ := trodAll_cons r0
  obtain ⟨rfl, rfl, rfl⟩ := trodAll_nil r1
  obtain rfl : args = #[v0, v1] := by cases args; simp_all
  obtain ⟨rfl, rfl⟩ := trodVars_none hV
  obtain ⟨s0, rfl, rfl, rfl, m0⟩ := open_string Tryz.underlying9 (by with_reducible exact hval 0 9 v0 (by simp) (by simp)) h0
  clear hA0
  simp only [List.append_nil, List.nil_append] at hW'
  have hlt1 : ∀ x ∈ p1, x.block < W.heap.size := fun x hx => by simpa using hW'.lt x (by simp [hx])
  obtain ⟨l1, hl1, hn1⟩ := Opn.opened_ints (P := Tryz.prog) Tryz.underlying26 Tryz.underlying3 (by kernel_rfl) (by with_reducible exact hval 1 26 v1 (by simp) (by simp)) h1 hlt1
  have e0 : s0 = ⟨s0.data.toList.toArray⟩ := by cases s0; simp
  have q0 : s0.data.toList.length ≤ 9223372036854775807 := by
    have h1 : s0.data.toList.length = s0.size := by rw [Array.length_toList]; rfl
    have h2 := m0
    unfold maxLen at h2
    omega
  have htab := tab_of hl
  have hu8 := u8_of hl
  have walk := Pz.binaryPoints_fn s0.data.toList l1 _ W q0 hl1 htab hu8
  rw [← e0] at walk
  refine walk.mono fun e W' ⟨he, hg⟩ => ?_
  subst he
  exact ⟨_, rfl, post_rows hW' (fun _ _ _ => trodAll_cons_mk (shut_bool Tryz.underlying4 _) trodAll_mk0) (trodAll_cons_mk (shut_string Tryz.underlying9 m0) (trodAll_cons_mk (Below.trod laidOut (by kernel_rfl) (of_decide_eq_true (by kernel_rfl)) h1 hg hlt1) (trodAll_mk0))) (fun _ => rfl) hg⟩
theorem reads (os : Os) {H : Type} (enc : TypeId × Value → H) : ∃ places, DataW.whole enc Tryz.prog ((World.laidAll Tryz.prog os Rows.binaryPointsRow.laid).forCall (fun _ _ => 0) ⟨#[], #[.string .empty, .slice none 0 0], []⟩).memory Tryz.f6.params.toList Rows.binaryPointsSpec.vars false (#[.string .empty, .slice none 0 0] : Array Value).toList 8 = some ([.lit (.string []), .nil], [], places) :=
  ⟨[], by kernel_rfl⟩
set_option maxRecDepth 100000 in
theorem lifted (os : Os) (started : os.Started) (H : Type) (enc : TypeId × Value → H) (F : Stop.Interp) :
    ReturnsInHanded {} Tryz.checked os 6 .any ((OpenSpec.ofChange Rows.binaryPointsSpec).preRow enc Tryz.prog Tryz.f6 Rows.binaryPointsRow.domain false Rows.binaryPointsRow.laid) (((OpenSpec.ofChange Rows.binaryPointsSpec).at F).post enc Tryz.prog Tryz.f6 false true false false) := by
  obtain ⟨places, hx⟩ := reads os enc
  have hl : laidMetH Tryz.prog Rows.binaryPointsRow.laid ((World.laidAll Tryz.prog os Rows.binaryPointsRow.laid).forCall (fun _ _ => 0) ⟨#[], #[.string .empty, .slice none 0 0], []⟩).memory := by
    rw [MakeChecks.laidMetH_plain _ _ _ (by kernel_rfl)]
    exact laidMet_laidAll _ (by kernel_rfl) (by kernel_rfl)
  refine returnsInHanded_of_row (C := Tryz.checked) (s := (OpenSpec.ofChange Rows.binaryPointsSpec)) own started (by kernel_rfl) Tryz.func6
    (witness_row_at (enc := enc) (C := Tryz.checked) false (World.laidAll Tryz.prog os Rows.binaryPointsRow.laid) #[.string .empty, .slice none 0 0] (World.laidAll_os _ _ _) (by kernel_rfl) (by kernel_rfl) (by kernel_rfl)
      (OpenSpec.preRow_of_cond 8 hx (by kernel_rfl) (fun k hk => by cases hk) (by kernel_rfl) hl)) ?_
  intro W base args ds gs before hval hW _ _ _ hlaid _ _
  exact contract H enc W base args ds gs before hval hW hlaid
theorem said : Rows.BinaryPointsSaid :=
  OpenClaim.holds_of_cond 6 Tryz.f6 rfl rfl rfl rfl rfl rfl rfl ⟨rfl, rfl, rfl, rfl, rfl⟩ rfl rfl rfl rfl rfl (by kernel_rfl) Tryz.func6 (by kernel_rfl)
    (of_decide_eq_true (by kernel_rfl)) (by unfold Func.isWrapper; first | (rw [if_pos (by decide +kernel)]; kernel_rfl) | (rw [if_neg (by decide +kernel)]; exact ⟨rfl, rfl⟩))
    (fun os started H enc _ F => by rw [OpenClaim.pre_eq_preRow]; exact lifted os started H enc F)
theorem plain (f : FuncId) (fn : Func) (hf : Tryz.pinned.checked.prog.funcNamed "threadbare/threadbarelaw10.BinaryPoints" = some f) (hfn : Tryz.pinned.checked.prog.funcs[f]? = some fn) :
    true = Tryz.pinned.checked.prog.looks [] ∧ ∀ (j : Nat) t, fn.params[j]? = some t → Tryz.pinned.checked.prog.wantsStandIn t = false := by
  obtain rfl : f = 6 := Option.some.inj ((show Tryz.prog.funcNamed "threadbare/threadbarelaw10.BinaryPoints" = some 6 by kernel_rfl).symm.trans hf) |>.symm
  obtain rfl : fn = Tryz.f6 := (Option.some.inj (Tryz.func6.symm.trans hfn)).symm
  refine ⟨by kernel_rfl, fun j t ht => ?_⟩
  rw [Tryz.params6] at ht
  have ht := Array.mem_of_getElem? ht
  simp at ht
  rcases ht with rfl | rfl
  · exact (show Tryz.prog.wantsStandIn 9 = false by kernel_rfl)
  · exact (show Tryz.prog.wantsStandIn 26 = false by kernel_rfl)
theorem card : Rows.BinaryPointsCardSaid :=
  Claim7.holds_tied_plain_at .later [] _ _ _ _ said (fun _ h => by cases h) (by kernel_rfl) (fun _ h => by cases h) binaryPoints_row_tie rfl ⟨rfl, rfl⟩ (by kernel_rfl) rfl plain (by kernel_rfl)
end Go.Proofs.YtihdndaibmgoiaaGreatDoor.binaryPoints
