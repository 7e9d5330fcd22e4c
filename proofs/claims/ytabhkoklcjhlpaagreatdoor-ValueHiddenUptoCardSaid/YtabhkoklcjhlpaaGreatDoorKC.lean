/-
  Part KC of the proofs of this seat: contracts of functions and plain facts, merged from 2 texts.
-/
import Derived.Test.YtabhkoklcjhlpaaGreatDoorRows
import Derived.Deep.DeepHandedRow
import Derived.ProofKit
import Derived.OpenShut
import Derived.ChangeMaps5
import Derived.Carry
import Derived.SliceStrings
import Derived.Test.YtabhkoklcjhlpaaGreatDoorK0
import Derived.Test.YtabhkoklcjhlpaaGreatDoorK1
import Derived.Test.YtabhkoklcjhlpaaGreatDoorK2
import Derived.Test.YtabhkoklcjhlpaaGreatDoorK3
import Derived.Test.YtabhkoklcjhlpaaGreatDoorK4
import Derived.Test.YtabhkoklcjhlpaaGreatDoorK5
import Derived.Test.YtabhkoklcjhlpaaGreatDoorK6
import Derived.Test.YtabhkoklcjhlpaaGreatDoorK7
import Derived.Test.YtabhkoklcjhlpaaGreatDoorK8
import Derived.Test.YtabhkoklcjhlpaaGreatDoorK9
import Derived.Test.YtabhkoklcjhlpaaGreatDoorKA
import Derived.Test.YtabhkoklcjhlpaaGreatDoorKB
/-
  The law ValueAsks walked.
-/
namespace Go.Proofs.YtabhkoklcjhlpaaGreatDoor.Pz
open Go.RowKit
/-- a row of bytes that came in -/
def BytesAt (w : World) (v : Value) (l : List Int) : Prop :=
  ∃ a c, v = .slice a l.length c ∧ l.length ≤ 9223372036854775807 ∧ (∀ i (h : i < l.length), ∃ p, a = some p ∧ p.block < w.heap.size ∧ w.cell? (p.add i) = some (.int .u8 l[i])) ∧ ∀ i (h : i < l.length), 0 ≤ l[i] ∧ l[i] ≤ 255
theorem RVal.rows {w w' : World} {b : Nat} {t : Str} {n : Int} {C : Nat} {v : Value} {l : List Str} (h : RVal w b t n) (hr : RowS C w v l) (ho : Only [b] w w') : RowS C w' v l :=
  ownsRow_heap2 hr fun g cur hg hc => ho.cells hc (by
    have := kinds_ne hc h (by decide)
    simpa using this)
theorem ValAt.besideR {vb sb b : Nat} {w w' : World} {fv : Value} {t t2 : Str} {told : Bool} {cnt : Nat} {f : Fc} {n : Int} (h : ValAt vb sb w fv t told cnt f) (h2 : RVal w b t2 n) (ho : Only [b] w w') : ValAt vb sb w' fv t told cnt f := by
  have h3 := kinds_ne h.val h2 (by decide)
  have h4 := kinds_ne h.shr h2 (by decide)
  refine h.other ho (by simp [h3]) (by simp [h4]) fun k hk cur hc => ?_
  simp only [List.mem_cons, List.not_mem_nil, or_false] at hk
  subst hk
  exact kinds_ne hc h2 (by decide) rfl
set_option maxRecDepth 100000 in
set_option maxHeartbeats 4000000 in
theorem valueAsks_fn (s : Str) (l : List Int) (lv : Value) (w : World) (hml : ML w) (hv : BytesAt w lv l) (hsl : s.length ≤ 9223372036854775807) :
    Calls Tryz.prog 5 #[.string ⟨s.toArray⟩, lv] w fun e w' => e = .returned (.bool true) ∧ Below w.heap.size w w' := by
  obtain ⟨a, cap, rfl, hll, hcell, hbd⟩ := hv
  obtain ⟨n, hn⟩ : ∃ n, n = l.length := ⟨_, rfl⟩
  have HN := hid hn
  have HC := hid hcell
  have HBD := hid hbd
  have HM := hid hml
  rw [← hn] at hll ⊢
  have AW := fun u (h : Below w.heap.size w u) => hid (awake_fn u (HM.out.below h))
  have hsz : (⟨s.toArray⟩ : ByteArray).size = s.length := Lib.size_mk _
  clear hcell hbd hml hn
  by_cases hlt : s.length ≤ 500 ∧ n ≤ 30
  case neg =>
    have haw := AW w (Below.refl _ _)
    by_cases h1 : s.length ≤ 500
    · have h2 : ¬ n ≤ 30 := fun h => hlt ⟨h1, h⟩
      have g1 : ¬ ((s.length : Int) > 500) := by omega
      have g2 : (n : Int) > 30 := by omega
      clear hlt
      go_enter Tryz.func5, Tryz.ntmps5
      go_wp2_with fail
      (with_reducible refine haw.out.mono ?_); rintro e w1 ⟨rfl, hb⟩
      have HB := hid hb
      clear hb
      go_wp2
      go_ret
      exact ⟨rfl, HB.out⟩
    · have g1 : (s.length : Int) > 500 := by omega
      clear hlt
      go_enter Tryz.func5, Tryz.ntmps5
      go_wp2_with fail
      (with_reducible refine haw.out.mono ?_); rintro e w1 ⟨rfl, hb⟩
      have HB := hid hb
      clear hb
      go_wp2
      go_ret
      exact ⟨rfl, HB.out⟩
  obtain ⟨h1, h2⟩ := hlt
  have g1 : ¬ ((s.length : Int) > 500) := by omega
  have g2 : ¬ ((n : Int) > 30) := by omega
  have HN1 := hid (new_fn s w)
  go_enter Tryz.func5, Tryz.ntmps5
  go_wp2_with fail
  (with_reducible refine HN1.out.mono ?_); rintro e w1 ⟨vb, sb, rfl, hg1, hg2, hv1, hb1⟩
  have HB1 := hid hb1
  have HV1 := hid hv1
  have HN2 := hid (newR_fn s w1)
  clear hb1 hv1
  go_wp2_with fail
  (with_reducible refine HN2.out.mono ?_); rintro e w2 ⟨rfl, hr2, hb2⟩
  have hz1 := HB1.out.size
  have HB2 := hid (HB1.out.trans (hb2.mono hz1))
  have HV2 := hid (HV1.out.on hb2)
  obtain ⟨b, hb⟩ : ∃ b, b = w1.heap.size := ⟨_, rfl⟩
  have hr3 : RVal w2 b s 0 := by rw [hb]; exact hr2
  have hbw : w.heap.size ≤ b := by omega
  have HR2 := hid hr3
  rw [← hb]
  clear hb2 hr2 hr3 hb
  have hlo : ∀ (u u' : World), Below w.heap.size w u → Only [vb, sb] u u' → Below w.heap.size w u' := fun u u' hu ho => hu.trans (ho.low hu.size (by simp; omega))
  have hlr : ∀ (u u' : World), Below w.heap.size w u → Only [b] u u' → Below w.heap.size w u' := fun u u' hu ho => hu.trans (ho.low hu.size (by simp; omega))
  have HLO := hid hlo
  have HLR := hid hlr
  clear hlo hlr
  go_wp2
  go_loopg [41] n (fun k iv wr => ∃ (i : Nat) (fv : Value) (told : Bool) (f : Fc), iv = .int .i64 (i : Nat) ∧ i ≤ n ∧ ValAt vb sb wr fv s told 1 f ∧ Fit f s ∧ f.small ∧ RVal wr b s f.n ∧ Below w.heap.size w wr ∧ k = n - i)
  case atStart => exact ⟨0, _, _, .text, rfl, Nat.zero_le _, HV2.out, trivial, trivial, HR2.out, HB2.out, by simp⟩
  case round =>
    obtain ⟨i, fv, told, f, rfl, hi, hval, hfit, hsm, hrv, hbl, rfl⟩ := hrel
    rcases Nat.lt_or_ge i n with hlt | hge
    · have hlt' : i < l.length := by rw [← HN.out]; exact hlt
      obtain ⟨p, rfl, hpb, hcw⟩ := HC.out i hlt'
      have hcw1 : wr.cell? (p.add i) = some (.int .u8 l[i]) := by rw [hbl.cell (p := p.add i) (by rw [add_block]; exact hpb)]; exact hcw
      have hbd := HBD.out i hlt'
      generalize l[i] = x at hcw hcw1 hbd
      have HV := hid hval
      have HF := hid hfit
      have HS := hid hsm
      have HR := hid hrv
      have HBL := hid hbl
      have hcw2 : i = 0 → wr.cell? p = some (.int .u8 x) := by
        intro h0
        subst h0
        exact hcw1
      clear hval hfit hsm hrv hbl hcw
      have hm4 : x % 4 = 0 ∨ x % 4 = 1 ∨ x % 4 = 2 ∨ x % 4 = 3 := by omega
      obtain ⟨hx1, hx2⟩ := hbd
      obtain ⟨i0, hi0⟩ : ∃ i0 : Bool, i0 = decide (i = 0) := ⟨_, rfl⟩
      cases i0 with
      | true =>
        have h0 : i = 0 := by simpa using hi0.symm
        subst h0
        replace hcw1 := hcw2 rfl
        clear hcw2 hi0
        rcases hm4 with hm4 | hm4 | hm4 | hm4
        · have hfit := listAns_fit HF.out HS.out (by omega)
          have HP := listV_fn HV.out (HM.out.below HBL.out) (by omega) HS.out
          have HQ := fun (u : World) (hu : RVal u b s f.n) => listR5_fn hu (by omega)
          generalize listAns f s = R at HP hfit
          have hpl := (splitE_out s).1
          generalize splitE s = E at HQ hfit hpl
          obtain ⟨r1, r2, f2⟩ := R
          obtain ⟨e1, e2, e3⟩ := E
          have HPL := hid hpl
          clear hpl
          dsimp only at HP HQ hfit 
          obtain ⟨rfl, rfl, hfn, hft2, hfs2⟩ := hfit
          generalize faceIf r2 1 f.n = nf at HQ hfn
          subst hfn
          have HP := hid HP
          have HQ := hid HQ
          have HFT := hid (And.intro hft2 hfs2)
          clear hft2 hfs2
          go_wp2_with fail
          (with_reducible refine HP.out.mono ?_); rintro e w3 ⟨u, fv', told', rfl, hru, ho3, hv3, _⟩
          have HB3 := hid (HLO.out _ _ HBL.out ho3)
          have HV3 := hid hv3
          have HR3 := hid (HR.out.only ho3 (kind3 HV.out HR.out))
          have HU3 := hid hru
          obtain ⟨au, cu, eu⟩ := hru.shape
          obtain ⟨m, hm⟩ : ∃ m, m = r1.length := ⟨_, rfl⟩
          rw [← hm] at eu
          subst eu
          have HMM := hid hm
          clear hru hm
          have HQ3 := hid (HQ.out _ HR3.out)
          clear ho3 hv3
          go_wp2_with fail
          (with_reducible refine HQ3.out.mono ?_); rintro e w4 ⟨u2, rfl, hru2, ho4, hr4⟩
          have HB4 := hid (HLR.out _ _ HB3.out ho4)
          have HV4 := hid (HV3.out.besideR HR3.out ho4)
          have HR4 := hid hr4
          have HSA := hid (same_fn (HR3.out.rows HU3.out ho4).strs hru2.strs (by have h8 := HPL.out; omega))
          obtain ⟨au2, cu2, eu2⟩ := hru2.shape
          rw [← HMM.out] at eu2
          subst eu2
          clear hru2 ho4 hr4
          go_wp2_with fail
          (with_reducible refine HSA.out.mono ?_); rintro e w5 ⟨rfl, hb5⟩
          have hz4 := HB4.out.size
          have HB5 := hid (HB4.out.trans (hb5.mono hz4))
          have HV5 := hid (HV4.out.on hb5)
          have HR5 := hid (HR4.out.on hb5)
          clear hb5
          have HTX := hid (text_fn HV5.out (HM.out.below HB5.out))
          go_wp2_with fail
          (with_reducible refine HTX.out.mono ?_); rintro e w6 ⟨rfl, ho6, hv6⟩
          have ho6' : Only [vb, sb] w5 w6 := ho6.more (by simp)
          have HB6 := hid (HLO.out _ _ HB5.out ho6')
          have HV6 := hid hv6
          have HR6 := hid (HR5.out.only ho6' (kind3 HV5.out HR5.out))
          have HFA := hid (face_fn HV6.out)
          have HFB := hid (faceR_fn HR6.out)
          clear ho6 ho6' hv6
          go_wp2_with fail
          (with_reducible refine HFA.out.mono ?_); rintro e w7 ⟨rfl, hw⟩; subst hw
          go_wp2_with fail
          (with_reducible refine HFB.out.mono ?_); rintro e w7 ⟨rfl, hw⟩; subst hw
          go_wp2
          go_roundg (n - (0 + 1))
          case measure => omega
          case rel => exact ⟨0 + 1, _, _, f2, by go_num, by omega, HV6.out, HFT.out.1, HFT.out.2, HR6.out, HB6.out, rfl⟩
        · have hfit := numAns_fit HF.out HS.out
          have HP := numV_fn HV.out (HM.out.below HBL.out) (by omega)
          have HQ := fun (u : World) (hu : RVal u b s f.n) => numR5_fn hu (by omega)
          generalize numAns f s = R at HP hfit
          generalize canRes s = E at HQ hfit
          obtain ⟨r1, r2, f2⟩ := R
          obtain ⟨e1, e3⟩ := E
          dsimp only at HP HQ hfit
          obtain ⟨rfl, rfl, hfn, hft2, hfs2⟩ := hfit
          generalize faceIf r2 2 f.n = nf at HQ hfn
          subst hfn
          have HP := hid HP
          have HQ := hid HQ
          have HFT := hid (And.intro hft2 hfs2)
          clear hft2 hfs2
          go_wp2_with fail
          (with_reducible refine HP.out.mono ?_); rintro e w3 ⟨fv', told', rfl, ho3, hv3, _⟩
          have HB3 := hid (HLO.out _ _ HBL.out ho3)
          have HV3 := hid hv3
          have HR3 := hid (HR.out.only ho3 (kind3 HV.out HR.out))
          have HQ3 := hid (HQ.out _ HR3.out)
          clear ho3 hv3
          go_wp2_with fail
          (with_reducible refine HQ3.out.mono ?_); rintro e w4 ⟨rfl, ho4, hr4⟩
          have HB4 := hid (HLR.out _ _ HB3.out ho4)
          have HV4 := hid (HV3.out.besideR HR3.out ho4)
          have HR4 := hid hr4
          clear ho4 hr4
          have HTX := hid (text_fn HV4.out (HM.out.below HB4.out))
          go_wp2_with fail
          (with_reducible refine HTX.out.mono ?_); rintro e w6 ⟨rfl, ho6, hv6⟩
          have ho6' : Only [vb, sb] w4 w6 := ho6.more (by simp)
          have HB6 := hid (HLO.out _ _ HB4.out ho6')
          have HV6 := hid hv6
          have HR6 := hid (HR4.out.only ho6' (kind3 HV4.out HR4.out))
          have HFA := hid (face_fn HV6.out)
          have HFB := hid (faceR_fn HR6.out)
          clear ho6 ho6' hv6
          go_wp2_with fail
          (with_reducible refine HFA.out.mono ?_); rintro e w7 ⟨rfl, hw⟩; subst hw
          go_wp2_with fail
          (with_reducible refine HFB.out.mono ?_); rintro e w7 ⟨rfl, hw⟩; subst hw
          go_wp2
          go_roundg (n - (0 + 1))
          case measure => omega
          case rel => exact ⟨0 + 1, _, _, f2, by go_num, by omega, HV6.out, HFT.out.1, HFT.out.2, HR6.out, HB6.out, rfl⟩
        · have hfit := truth_fit HF.out HS.out
          have HP := truthV_fn HV.out (HM.out.below HBL.out) (by omega) HF.out HS.out
          have HQ := fun (u : World) (hu : RVal u b s f.n) => truthR5_fn hu (by omega)
          generalize truthAns s = R at HP HQ
          generalize truthFace f s = f2 at HP hfit
          generalize truthFaceR s f.n = nf at HQ hfit
          obtain ⟨r1, r2⟩ := R
          dsimp only at HP HQ hfit
          obtain ⟨hfn, hft2, hfs2⟩ := hfit
          subst hfn
          have HP := hid HP
          have HQ := hid HQ
          have HFT := hid (And.intro hft2 hfs2)
          clear hft2 hfs2
          go_wp2_with fail
          (with_reducible refine HP.out.mono ?_); rintro e w3 ⟨fv', told', rfl, ho3, hv3, _⟩
          have HB3 := hid (HLO.out _ _ HBL.out ho3)
          have HV3 := hid hv3
          have HR3 := hid (HR.out.only ho3 (kind3 HV.out HR.out))
          have HQ3 := hid (HQ.out _ HR3.out)
          clear ho3 hv3
          go_wp2_with fail
          (with_reducible refine HQ3.out.mono ?_); rintro e w4 ⟨rfl, ho4, hr4⟩
          have HB4 := hid (HLR.out _ _ HB3.out ho4)
          have HV4 := hid (HV3.out.besideR HR3.out ho4)
          have HR4 := hid hr4
          clear ho4 hr4
          have HTX := hid (text_fn HV4.out (HM.out.below HB4.out))
          go_wp2_with fail
          (with_reducible refine HTX.out.mono ?_); rintro e w6 ⟨rfl, ho6, hv6⟩
          have ho6' : Only [vb, sb] w4 w6 := ho6.more (by simp)
          have HB6 := hid (HLO.out _ _ HB4.out ho6')
          have HV6 := hid hv6
          have HR6 := hid (HR4.out.only ho6' (kind3 HV4.out HR4.out))
          have HFA := hid (face_fn HV6.out)
          have HFB := hid (faceR_fn HR6.out)
          clear ho6 ho6' hv6
          go_wp2_with fail
          (with_reducible refine HFA.out.mono ?_); rintro e w7 ⟨rfl, hw⟩; subst hw
          go_wp2_with fail
          (with_reducible refine HFB.out.mono ?_); rintro e w7 ⟨rfl, hw⟩; subst hw
          go_wp2
          go_roundg (n - (0 + 1))
          case measure => omega
          case rel => exact ⟨0 + 1, _, _, f2, by go_num, by omega, HV6.out, HFT.out.1, HFT.out.2, HR6.out, HB6.out, rfl⟩
        · have hfit := pairsAns_fit HF.out HS.out (by omega)
          have HP := pairsV_fn HV.out (HM.out.below HBL.out) (by omega) HS.out
          have HQ := fun (u : World) (hu : RVal u b s f.n) => pairsR5_fn hu (by omega)
          generalize pairsAns f s = R at HP hfit
          have hpl := pairsE_len s
          generalize pairsE s = E at HQ hfit hpl
          obtain ⟨r1, r2, f2⟩ := R
          obtain ⟨e1, e3⟩ := E
          have HPL := hid hpl
          clear hpl
          dsimp only at HP HQ hfit 
          obtain ⟨rfl, rfl, hfn, hft2, hfs2⟩ := hfit
          generalize faceIf r2 3 f.n = nf at HQ hfn
          subst hfn
          have HP := hid HP
          have HQ := hid HQ
          have HFT := hid (And.intro hft2 hfs2)
          clear hft2 hfs2
          go_wp2_with fail
          (with_reducible refine HP.out.mono ?_); rintro e w3 ⟨u, fv', told', rfl, hru, ho3, hv3, _⟩
          have HB3 := hid (HLO.out _ _ HBL.out ho3)
          have HV3 := hid hv3
          have HR3 := hid (HR.out.only ho3 (kind3 HV.out HR.out))
          have HU3 := hid hru
          obtain ⟨au, cu, eu⟩ := hru.shape
          obtain ⟨m, hm⟩ : ∃ m, m = r1.length := ⟨_, rfl⟩
          rw [← hm] at eu
          subst eu
          have HMM := hid hm
          clear hru hm
          have HQ3 := hid (HQ.out _ HR3.out)
          clear ho3 hv3
          go_wp2_with fail
          (with_reducible refine HQ3.out.mono ?_); rintro e w4 ⟨u2, rfl, hru2, ho4, hr4⟩
          have HB4 := hid (HLR.out _ _ HB3.out ho4)
          have HV4 := hid (HV3.out.besideR HR3.out ho4)
          have HR4 := hid hr4
          have HSA := hid (same_fn (HR3.out.rows HU3.out ho4).strs hru2.strs (by have h8 := HPL.out; omega))
          obtain ⟨au2, cu2, eu2⟩ := hru2.shape
          rw [← HMM.out] at eu2
          subst eu2
          clear hru2 ho4 hr4
          go_wp2_with fail
          (with_reducible refine HSA.out.mono ?_); rintro e w5 ⟨rfl, hb5⟩
          have hz4 := HB4.out.size
          have HB5 := hid (HB4.out.trans (hb5.mono hz4))
          have HV5 := hid (HV4.out.on hb5)
          have HR5 := hid (HR4.out.on hb5)
          clear hb5
          have HTX := hid (text_fn HV5.out (HM.out.below HB5.out))
          go_wp2_with fail
          (with_reducible refine HTX.out.mono ?_); rintro e w6 ⟨rfl, ho6, hv6⟩
          have ho6' : Only [vb, sb] w5 w6 := ho6.more (by simp)
          have HB6 := hid (HLO.out _ _ HB5.out ho6')
          have HV6 := hid hv6
          have HR6 := hid (HR5.out.only ho6' (kind3 HV5.out HR5.out))
          have HFA := hid (face_fn HV6.out)
          have HFB := hid (faceR_fn HR6.out)
          clear ho6 ho6' hv6
          go_wp2_with fail
          (with_reducible refine HFA.out.mono ?_); rintro e w7 ⟨rfl, hw⟩; subst hw
          go_wp2_with fail
          (with_reducible refine HFB.out.mono ?_); rintro e w7 ⟨rfl, hw⟩; subst hw
          go_wp2
          go_roundg (n - (0 + 1))
          case measure => omega
          case rel => exact ⟨0 + 1, _, _, f2, by go_num, by omega, HV6.out, HFT.out.1, HFT.out.2, HR6.out, HB6.out, rfl⟩
      | false =>
        have h0 : i ≠ 0 := by simpa using hi0.symm
        clear hcw2 hi0
        rcases hm4 with hm4 | hm4 | hm4 | hm4
        · have hfit := listAns_fit HF.out HS.out (by omega)
          have HP := listV_fn HV.out (HM.out.below HBL.out) (by omega) HS.out
          have HQ := fun (u : World) (hu : RVal u b s f.n) => listR5_fn hu (by omega)
          generalize listAns f s = R at HP hfit
          have hpl := (splitE_out s).1
          generalize splitE s = E at HQ hfit hpl
          obtain ⟨r1, r2, f2⟩ := R
          obtain ⟨e1, e2, e3⟩ := E
          have HPL := hid hpl
          clear hpl
          dsimp only at HP HQ hfit 
          obtain ⟨rfl, rfl, hfn, hft2, hfs2⟩ := hfit
          generalize faceIf r2 1 f.n = nf at HQ hfn
          subst hfn
          have HP := hid HP
          have HQ := hid HQ
          have HFT := hid (And.intro hft2 hfs2)
          clear hft2 hfs2
          go_wp2_with fail
          (with_reducible refine HP.out.mono ?_); rintro e w3 ⟨u, fv', told', rfl, hru, ho3, hv3, _⟩
          have HB3 := hid (HLO.out _ _ HBL.out ho3)
          have HV3 := hid hv3
          have HR3 := hid (HR.out.only ho3 (kind3 HV.out HR.out))
          have HU3 := hid hru
          obtain ⟨au, cu, eu⟩ := hru.shape
          obtain ⟨m, hm⟩ : ∃ m, m = r1.length := ⟨_, rfl⟩
          rw [← hm] at eu
          subst eu
          have HMM := hid hm
          clear hru hm
          have HQ3 := hid (HQ.out _ HR3.out)
          clear ho3 hv3
          go_wp2_with fail
          (with_reducible refine HQ3.out.mono ?_); rintro e w4 ⟨u2, rfl, hru2, ho4, hr4⟩
          have HB4 := hid (HLR.out _ _ HB3.out ho4)
          have HV4 := hid (HV3.out.besideR HR3.out ho4)
          have HR4 := hid hr4
          have HSA := hid (same_fn (HR3.out.rows HU3.out ho4).strs hru2.strs (by have h8 := HPL.out; omega))
          obtain ⟨au2, cu2, eu2⟩ := hru2.shape
          rw [← HMM.out] at eu2
          subst eu2
          clear hru2 ho4 hr4
          go_wp2_with fail
          (with_reducible refine HSA.out.mono ?_); rintro e w5 ⟨rfl, hb5⟩
          have hz4 := HB4.out.size
          have HB5 := hid (HB4.out.trans (hb5.mono hz4))
          have HV5 := hid (HV4.out.on hb5)
          have HR5 := hid (HR4.out.on hb5)
          clear hb5
          have HTX := hid (text_fn HV5.out (HM.out.below HB5.out))
          go_wp2_with fail
          (with_reducible refine HTX.out.mono ?_); rintro e w6 ⟨rfl, ho6, hv6⟩
          have ho6' : Only [vb, sb] w5 w6 := ho6.more (by simp)
          have HB6 := hid (HLO.out _ _ HB5.out ho6')
          have HV6 := hid hv6
          have HR6 := hid (HR5.out.only ho6' (kind3 HV5.out HR5.out))
          have HFA := hid (face_fn HV6.out)
          have HFB := hid (faceR_fn HR6.out)
          clear ho6 ho6' hv6
          go_wp2_with fail
          (with_reducible refine HFA.out.mono ?_); rintro e w7 ⟨rfl, hw⟩; subst hw
          go_wp2_with fail
          (with_reducible refine HFB.out.mono ?_); rintro e w7 ⟨rfl, hw⟩; subst hw
          go_wp2
          go_roundg (n - (i + 1))
          case measure => omega
          case rel => exact ⟨i + 1, _, _, f2, by go_num, by omega, HV6.out, HFT.out.1, HFT.out.2, HR6.out, HB6.out, rfl⟩
        · have hfit := numAns_fit HF.out HS.out
          have HP := numV_fn HV.out (HM.out.below HBL.out) (by omega)
          have HQ := fun (u : World) (hu : RVal u b s f.n) => numR5_fn hu (by omega)
          generalize numAns f s = R at HP hfit
          generalize canRes s = E at HQ hfit
          obtain ⟨r1, r2, f2⟩ := R
          obtain ⟨e1, e3⟩ := E
          dsimp only at HP HQ hfit
          obtain ⟨rfl, rfl, hfn, hft2, hfs2⟩ := hfit
          generalize faceIf r2 2 f.n = nf at HQ hfn
          subst hfn
          have HP := hid HP
          have HQ := hid HQ
          have HFT := hid (And.intro hft2 hfs2)
          clear hft2 hfs2
          go_wp2_with fail
          (with_reducible refine HP.out.mono ?_); rintro e w3 ⟨fv', told', rfl, ho3, hv3, _⟩
          have HB3 := hid (HLO.out _ _ HBL.out ho3)
          have HV3 := hid hv3
          have HR3 := hid (HR.out.only ho3 (kind3 HV.out HR.out))
          have HQ3 := hid (HQ.out _ HR3.out)
          clear ho3 hv3
          go_wp2_with fail
          (with_reducible refine HQ3.out.mono ?_); rintro e w4 ⟨rfl, ho4, hr4⟩
          have HB4 := hid (HLR.out _ _ HB3.out ho4)
          have HV4 := hid (HV3.out.besideR HR3.out ho4)
          have HR4 := hid hr4
          clear ho4 hr4
          have HTX := hid (text_fn HV4.out (HM.out.below HB4.out))
          go_wp2_with fail
          (with_reducible refine HTX.out.mono ?_); rintro e w6 ⟨rfl, ho6, hv6⟩
          have ho6' : Only [vb, sb] w4 w6 := ho6.more (by simp)
          have HB6 := hid (HLO.out _ _ HB4.out ho6')
          have HV6 := hid hv6
          have HR6 := hid (HR4.out.only ho6' (kind3 HV4.out HR4.out))
          have HFA := hid (face_fn HV6.out)
          have HFB := hid (faceR_fn HR6.out)
          clear ho6 ho6' hv6
          go_wp2_with fail
          (with_reducible refine HFA.out.mono ?_); rintro e w7 ⟨rfl, hw⟩; subst hw
          go_wp2_with fail
          (with_reducible refine HFB.out.mono ?_); rintro e w7 ⟨rfl, hw⟩; subst hw
          go_wp2
          go_roundg (n - (i + 1))
          case measure => omega
          case rel => exact ⟨i + 1, _, _, f2, by go_num, by omega, HV6.out, HFT.out.1, HFT.out.2, HR6.out, HB6.out, rfl⟩
        · have hfit := truth_fit HF.out HS.out
          have HP := truthV_fn HV.out (HM.out.below HBL.out) (by omega) HF.out HS.out
          have HQ := fun (u : World) (hu : RVal u b s f.n) => truthR5_fn hu (by omega)
          generalize truthAns s = R at HP HQ
          generalize truthFace f s = f2 at HP hfit
          generalize truthFaceR s f.n = nf at HQ hfit
          obtain ⟨r1, r2⟩ := R
          dsimp only at HP HQ hfit
          obtain ⟨hfn, hft2, hfs2⟩ := hfit
          subst hfn
          have HP := hid HP
          have HQ := hid HQ
          have HFT := hid (And.intro hft2 hfs2)
          clear hft2 hfs2
          go_wp2_with fail
          (with_reducible refine HP.out.mono ?_); rintro e w3 ⟨fv', told', rfl, ho3, hv3, _⟩
          have HB3 := hid (HLO.out _ _ HBL.out ho3)
          have HV3 := hid hv3
          have HR3 := hid (HR.out.only ho3 (kind3 HV.out HR.out))
          have HQ3 := hid (HQ.out _ HR3.out)
          clear ho3 hv3
          go_wp2_with fail
          (with_reducible refine HQ3.out.mono ?_); rintro e w4 ⟨rfl, ho4, hr4⟩
          have HB4 := hid (HLR.out _ _ HB3.out ho4)
          have HV4 := hid (HV3.out.besideR HR3.out ho4)
          have HR4 := hid hr4
          clear ho4 hr4
          have HTX := hid (text_fn HV4.out (HM.out.below HB4.out))
          go_wp2_with fail
          (with_reducible refine HTX.out.mono ?_); rintro e w6 ⟨rfl, ho6, hv6⟩
          have ho6' : Only [vb, sb] w4 w6 := ho6.more (by simp)
          have HB6 := hid (HLO.out _ _ HB4.out ho6')
          have HV6 := hid hv6
          have HR6 := hid (HR4.out.only ho6' (kind3 HV4.out HR4.out))
          have HFA := hid (face_fn HV6.out)
          have HFB := hid (faceR_fn HR6.out)
          clear ho6 ho6' hv6
          go_wp2_with fail
          (with_reducible refine HFA.out.mono ?_); rintro e w7 ⟨rfl, hw⟩; subst hw
          go_wp2_with fail
          (with_reducible refine HFB.out.mono ?_); rintro e w7 ⟨rfl, hw⟩; subst hw
          go_wp2
          go_roundg (n - (i + 1))
          case measure => omega
          case rel => exact ⟨i + 1, _, _, f2, by go_num, by omega, HV6.out, HFT.out.1, HFT.out.2, HR6.out, HB6.out, rfl⟩
        · have hfit := pairsAns_fit HF.out HS.out (by omega)
          have HP := pairsV_fn HV.out (HM.out.below HBL.out) (by omega) HS.out
          have HQ := fun (u : World) (hu : RVal u b s f.n) => pairsR5_fn hu (by omega)
          generalize pairsAns f s = R at HP hfit
          have hpl := pairsE_len s
          generalize pairsE s = E at HQ hfit hpl
          obtain ⟨r1, r2, f2⟩ := R
          obtain ⟨e1, e3⟩ := E
          have HPL := hid hpl
          clear hpl
          dsimp only at HP HQ hfit 
          obtain ⟨rfl, rfl, hfn, hft2, hfs2⟩ := hfit
          generalize faceIf r2 3 f.n = nf at HQ hfn
          subst hfn
          have HP := hid HP
          have HQ := hid HQ
          have HFT := hid (And.intro hft2 hfs2)
          clear hft2 hfs2
          go_wp2_with fail
          (with_reducible refine HP.out.mono ?_); rintro e w3 ⟨u, fv', told', rfl, hru, ho3, hv3, _⟩
          have HB3 := hid (HLO.out _ _ HBL.out ho3)
          have HV3 := hid hv3
          have HR3 := hid (HR.out.only ho3 (kind3 HV.out HR.out))
          have HU3 := hid hru
          obtain ⟨au, cu, eu⟩ := hru.shape
          obtain ⟨m, hm⟩ : ∃ m, m = r1.length := ⟨_, rfl⟩
          rw [← hm] at eu
          subst eu
          have HMM := hid hm
          clear hru hm
          have HQ3 := hid (HQ.out _ HR3.out)
          clear ho3 hv3
          go_wp2_with fail
          (with_reducible refine HQ3.out.mono ?_); rintro e w4 ⟨u2, rfl, hru2, ho4, hr4⟩
          have HB4 := hid (HLR.out _ _ HB3.out ho4)
          have HV4 := hid (HV3.out.besideR HR3.out ho4)
          have HR4 := hid hr4
          have HSA := hid (same_fn (HR3.out.rows HU3.out ho4).strs hru2.strs (by have h8 := HPL.out; omega))
          obtain ⟨au2, cu2, eu2⟩ := hru2.shape
          rw [← HMM.out] at eu2
          subst eu2
          clear hru2 ho4 hr4
          go_wp2_with fail
          (with_reducible refine HSA.out.mono ?_); rintro e w5 ⟨rfl, hb5⟩
          have hz4 := HB4.out.size
          have HB5 := hid (HB4.out.trans (hb5.mono hz4))
          have HV5 := hid (HV4.out.on hb5)
          have HR5 := hid (HR4.out.on hb5)
          clear hb5
          have HTX := hid (text_fn HV5.out (HM.out.below HB5.out))
          go_wp2_with fail
          (with_reducible refine HTX.out.mono ?_); rintro e w6 ⟨rfl, ho6, hv6⟩
          have ho6' : Only [vb, sb] w5 w6 := ho6.more (by simp)
          have HB6 := hid (HLO.out _ _ HB5.out ho6')
          have HV6 := hid hv6
          have HR6 := hid (HR5.out.only ho6' (kind3 HV5.out HR5.out))
          have HFA := hid (face_fn HV6.out)
          have HFB := hid (faceR_fn HR6.out)
          clear ho6 ho6' hv6
          go_wp2_with fail
          (with_reducible refine HFA.out.mono ?_); rintro e w7 ⟨rfl, hw⟩; subst hw
          go_wp2_with fail
          (with_reducible refine HFB.out.mono ?_); rintro e w7 ⟨rfl, hw⟩; subst hw
          go_wp2
          go_roundg (n - (i + 1))
          case measure => omega
          case rel => exact ⟨i + 1, _, _, f2, by go_num, by omega, HV6.out, HFT.out.1, HFT.out.2, HR6.out, HB6.out, rfl⟩
    · obtain rfl : i = n := by omega
      have haw := AW _ hbl
      have HBB := hid hbl
      clear hval hfit hsm hrv hbl
      go_wp2_with fail
      (with_reducible refine haw.out.mono ?_); rintro e wr3 ⟨rfl, hb3⟩
      have HB9 := hid (HBB.out.trans (hb3.mono HBB.out.size))
      clear hb3
      go_wp2
      go_ret
      exact ⟨rfl, HB9.out⟩
end Go.Proofs.YtabhkoklcjhlpaaGreatDoor.Pz
/-
  Arguments opened: rows of texts, rows of bytes.
-/
namespace Go.Proofs.YtabhkoklcjhlpaaGreatDoor.Opn
open Go.ChangeMaps Go.ChangeShapes Go.WideShapes Go.ChangeAt Go.RowKit
section
variable {P : Program} {H : Type} {enc : TypeId × Value → H} {W : World}
theorem getD_data (ss : List ByteArray) (n i : Nat) (h : i < ((ss.take n).map (fun x : ByteArray => x.data.toList)).length) : (.string (ss.getD i ByteArray.empty) : Value) = .string ⟨(((ss.take n).map (fun x : ByteArray => x.data.toList))[i]).toArray⟩ := by
  simp only [List.length_map, List.length_take] at h
  have h1 : i < ss.length := by omega
  rw [List.getElem_map, List.getElem_take, List.getD_eq_getElem?_getD, List.getElem?_eq_getElem h1]
  cases ss[i]
  simp
theorem bulk_strs (ss : List ByteArray) : Rows.uptoBulkAll (strs (H := H) ss) = Pz.sumS (ss.map (·.data.toList)) := by
  induction ss with
  | nil => rfl
  | cons a ss ih =>
    show a.data.toList.length + 1 + Rows.uptoBulkAll (strs (H := H) ss) = a.data.toList.length + 1 + Pz.sumS (ss.map (·.data.toList))
    rw [ih]
theorem blk_lt {a : Addr} {n : Nat} {v : Value} (hlt : ∀ x ∈ MemPlace.row a n, x.block < W.heap.size) (h0 : 0 < n) (hc : W.cell? (a.add 0) = some v) : a.block < W.heap.size := by
  obtain ⟨b, off, spot⟩ := a
  have hspot : spot = none := by simpa [Addr.add] using World.cell?_spot hc
  subst hspot
  exact hlt (.cell b off) (MemPlace.mem_row.2 ⟨0, h0, by simp⟩)
theorem opened_strs {t e : TypeId} (ht : P.underlying t = some (.slice e)) (he : P.underlying e = some .string) (hce : P.cellsOf e = 1) {r : Reach} {b0 : Nat} {v : Value} {d : DataW H} {p : List MemPlace} (hv : Value.okWide P W r b0 t v) (h : DataW.Trod enc P W 0 (fun _ => true) true t v d p) (hlt : ∀ x ∈ p, x.block < W.heap.size) :
    ∃ l, Pz.StrsAt W v l ∧ Pz.sumS l ≤ Rows.uptoBulk d ∧ l.length ≤ maxLen := by
  obtain ⟨a1, n1, c1, rfl⟩ := okWide_slice ht hv
  obtain ⟨fuel, hf⟩ := h
  rcases open_strings ht he hce hf with ⟨hcs, hx⟩ | ⟨a, len', cap', ss, hcs, _, hl, hm, hz, hx, hcell, hws⟩
  · simp [Value.cells] at hcs
    obtain ⟨rfl, rfl, rfl⟩ := hcs
    exact ⟨[], ⟨none, 0, rfl, Nat.le_refl _, fun i hi => absurd hi (Nat.not_lt_zero _)⟩, (by simp [Pz.sumS]), (by simp)⟩
  · simp [Value.cells] at hcs
    obtain ⟨rfl, rfl, rfl⟩ := hcs
    simp only [Prod.mk.injEq] at hx
    obtain ⟨rfl, rfl⟩ := hx
    simp only [if_true] at hz
    have hln : ((ss.take n1).map (·.data.toList)).length = n1 := by rw [List.length_map, List.length_take]; omega
    refine ⟨(ss.take n1).map (·.data.toList), ⟨some a, c1, by rw [hln], by rw [hln]; exact hl, fun i hi => ⟨a, rfl, ?_, ?_⟩⟩, ?_, by rw [hln]; omega⟩
    · rw [hln] at hi
      exact blk_lt hlt (by omega) (hcell 0 (by omega))
    · rw [hcell i (by rw [hln] at hi; omega), getD_data ss n1 i hi]
    · simp only [Rows.uptoBulk]
      rw [bulk_strs, bulk_strs]
      omega
theorem bulk_lits (k : IntKind) (zs : List Int) : Rows.uptoBulkAll (lits (H := H) k zs) = zs.length := by
  induction zs with
  | nil => rfl
  | cons a zs ih =>
    show 1 + Rows.uptoBulkAll (lits (H := H) k zs) = _
    rw [ih]
    simp
    omega
theorem opened_bytes {t e : TypeId} (ht : P.underlying t = some (.slice e)) (he : P.underlying e = some (.int .u8)) (hce : P.cellsOf e = 1) {r : Reach} {b0 : Nat} {v : Value} {d : DataW H} {p : List MemPlace} (hv : Value.okWide P W r b0 t v) (h : DataW.Trod enc P W 0 (fun _ => true) true t v d p) (hlt : ∀ x ∈ p, x.block < W.heap.size) :
    ∃ l, Pz.BytesAt W v l ∧ l.length ≤ Rows.uptoBulk d ∧ l.length ≤ maxLen := by
  obtain ⟨a1, n1, c1, rfl⟩ := okWide_slice ht hv
  obtain ⟨fuel, hf⟩ := h
  rcases open_ints ht he hce hf with ⟨hcs, hx⟩ | ⟨a, len', cap', zs, hcs, _, hl, hm, hz, hx, hcell, hws⟩
  · simp [Value.cells] at hcs
    obtain ⟨rfl, rfl, rfl⟩ := hcs
    exact ⟨[], ⟨none, 0, rfl, Nat.zero_le _, fun i hi => absurd hi (Nat.not_lt_zero _), fun i hi => absurd hi (Nat.not_lt_zero _)⟩, (by simp), (by simp)⟩
  · simp [Value.cells] at hcs
    obtain ⟨rfl, rfl, rfl⟩ := hcs
    simp only [Prod.mk.injEq] at hx
    obtain ⟨rfl, rfl⟩ := hx
    simp only [if_true] at hz
    have hln : (zs.take n1).length = n1 := by rw [List.length_take]; omega
    have hmx : maxLen ≤ 9223372036854775807 := by unfold maxLen; omega
    refine ⟨zs.take n1, ⟨some a, c1, by rw [hln], by rw [hln]; omega, fun i hi => ⟨a, rfl, ?_, ?_⟩, fun i hi => ?_⟩, ?_, by rw [hln]; omega⟩
    · rw [hln] at hi
      exact blk_lt hlt (by omega) (hcell 0 (by omega))
    · rw [hln] at hi
      rw [hcell i (by omega), List.getElem_take, List.getD_eq_getElem?_getD, List.getElem?_eq_getElem (by omega)]
      rfl
    · exact bounds_u8 (hws _ (List.mem_of_mem_take (List.getElem_mem hi)))
    · simp only [Rows.uptoBulk]
      rw [bulk_lits, bulk_lits]
      omega
end
end Go.Proofs.YtabhkoklcjhlpaaGreatDoor.Opn
