/-
  Part KB of the proofs of this seat: contracts of functions and plain facts, merged from 2 texts.
-/
import Derived.Test.YtabhkoklcjhlpaaGreatDoorK0
import Derived.Test.YtabhkoklcjhlpaaGreatDoorK1
import Derived.Test.YtabhkoklcjhlpaaGreatDoorK2
import Derived.Test.YtabhkoklcjhlpaaGreatDoorK3
import Derived.Test.YtabhkoklcjhlpaaGreatDoorK4
import Derived.Test.YtabhkoklcjhlpaaGreatDoorK5
import Derived.Test.YtabhkoklcjhlpaaGreatDoorK6
import Derived.Test.YtabhkoklcjhlpaaGreatDoorK7
import Derived.Test.YtabhkoklcjhlpaaGreatDoorK8
import Derived.Test.YtabhkoklcjhlpaaGreatDoorK9
import Derived.Test.YtabhkoklcjhlpaaGreatDoorKA
/-
  The law ValueMakes walked.
-/
namespace Go.Proofs.YtabhkoklcjhlpaaGreatDoor.Pz
open Go.RowKit
theorem kind3 {w : World} {vb sb : Nat} {fv : Value} {t : Str} {told : Bool} {cnt : Nat} {f : Fc} (h : ValAt vb sb w fv t told cnt f) {b : Nat} {t2 : Str} {n : Int} (hr : RVal w b t2 n) : b ∉ [vb, sb] := by
  have h1 := kinds_ne hr h.val (by decide)
  have h2 := kinds_ne hr h.shr (by decide)
  simp [h1, h2]
theorem ValAt.beside {vb sb vb2 sb2 : Nat} {w w' : World} {fv fv2 : Value} {t t2 : Str} {told told2 : Bool} {cnt cnt2 : Nat} {f f2 : Fc} (h : ValAt vb sb w fv t told cnt f) (h2 : ValAt vb2 sb2 w fv2 t2 told2 cnt2 f2) (hv : vb ≠ vb2) (hs : sb ≠ sb2) (ho : Only [vb2, sb2] w w') : ValAt vb sb w' fv t told cnt f := by
  have h3 := kinds_ne h.val h2.shr (by decide)
  have h4 := kinds_ne h.shr h2.val (by decide)
  refine h.other ho (by simp [hv, h3]) (by simp [hs, h4]) fun k hk cur hc => ?_
  simp only [List.mem_cons, List.not_mem_nil, or_false] at hk
  rcases hk with rfl | rfl
  · exact kinds_ne hc h2.val (by decide) rfl
  · exact kinds_ne hc h2.shr (by decide) rfl
theorem ValAt.vlt {vb sb : Nat} {w : World} {fv : Value} {t : Str} {told : Bool} {cnt : Nat} {f : Fc} (h : ValAt vb sb w fv t told cnt f) : vb < w.heap.size ∧ sb < w.heap.size :=
  ⟨(Array.getElem?_eq_some_iff.1 h.val).1, (Array.getElem?_eq_some_iff.1 h.shr).1⟩
set_option maxRecDepth 100000 in
set_option maxHeartbeats 4000000 in
theorem valueMakes_fn (l : List Str) (s : Str) (lv : Value) (w : World) (hml : ML w) (hv : StrsAt w lv l) (hb : s.length + 1 + sumS l ≤ 10000000) :
    Calls Tryz.prog 4 #[lv, .string ⟨s.toArray⟩] w fun e w' => e = .returned (.bool true) ∧ Below w.heap.size w w' := by
  have HV := hid hv
  have HM := hid hml
  obtain ⟨a, cap, rfl, hcap, hcell⟩ := hv
  obtain ⟨n, hn⟩ : ∃ n, n = l.length := ⟨_, rfl⟩
  have HN := hid hn
  rw [← hn] at HV hcap ⊢
  obtain ⟨w1, hw1⟩ : ∃ w1, w1 = w.alloc (.cells #[.int .i64 0, .int .i64 0, .int .i64 0, .string ⟨s.toArray⟩, .string ⟨#[]⟩, .slice a n cap] 25) := ⟨_, rfl⟩
  have hb1 : Below w.heap.size w w1 := by rw [hw1]; exact belowA _ _
  have hg1 : w1.heap[w.heap.size]? = some (.cells #[.int .i64 0, .int .i64 0, .int .i64 0, .string ⟨s.toArray⟩, .string ⟨#[]⟩, .slice a n cap] 25 (0, 0)) := by rw [hw1]; exact heap_alloc_new _ _
  have hL := hid (light1_fn hg1 (HV.out.below hb1) hb)
  have HW1 := hid hw1
  have HB1 := hid hb1
  clear hml hcell hw1 hb1 hg1 hn
  have AW := fun u (h : Below w.heap.size w u) => hid (awake_fn u (HM.out.below h))
  by_cases hlt : s.length + 1 + sumS l ≤ 3000
  · rw [decide_eq_true hlt] at hL
    have hok := joinOk_light (l := l) (by omega)
    have hs1 : s.length ≤ 1000000 := by omega
    have hn1 : l.length ≤ 1000000 := by have := sumS_len l; omega
    have hq : (quotedL l).length ≤ 100000 := by have := hok.2.2; omega
    have hsm : (Fc.list l).small := hn1
    have HSM := hid (And.intro hq hsm)
    have HOK := hid hok
    clear hlt hb hok hq hsm
    go_enter Tryz.func4, Tryz.ntmps4
    go_wp2_with fail
    rw [← HW1.out]
    (with_reducible refine hL.out.mono ?_); rintro e w2 ⟨rfl, hb2⟩
    have HB2 := hid (HB1.out.trans (hb2.mono HB1.out.size))
    have HOL := hid (ofList_fn (HV.out.below HB2.out) (HM.out.below HB2.out) HOK.out)
    clear hb2 hL
    go_wp2_with fail
    (with_reducible refine HOL.out.mono ?_); rintro e w3 ⟨vb, sb, fv, rfl, hg1, hg2, hv3, hb3⟩
    have hz2 := HB2.out.size
    have HB3 := hid (HB2.out.trans (hb3.mono hz2))
    have HV3 := hid hv3
    have HOR := hid (ofListR_fn (HV.out.below HB3.out) HOK.out)
    clear hb3 hv3 HOL
    go_wp2_with fail
    (with_reducible refine HOR.out.mono ?_); rintro e w4 ⟨b, rfl, hg3, hr4, hb4⟩
    have hz3 := HB3.out.size
    have HB4 := hid (HB3.out.trans (hb4.mono hz3))
    have HV4 := hid (HV3.out.on hb4)
    have HR4 := hid hr4
    have HON := ofNumber_fn s (by omega) w4
    have HNR := fun u => ofNumberR_fn s (by omega) u
    obtain ⟨c, er, hcr⟩ : ∃ c er, canRes s = (c, er) := ⟨_, _, rfl⟩
    rw [hcr] at HON
    simp only [hcr] at HNR
    dsimp only at HON HNR
    have hz4 := HB4.out.size
    have vl := HV4.out.vlt
    obtain ⟨Q, hQ⟩ : ∃ Q, Q = quotedL l := ⟨_, rfl⟩
    rw [← hQ] at HV3 HV4 HR4 HSM
    have hll : ∀ (u u' : World), Below w.heap.size w u → Only [vb, sb] u u' → Below w.heap.size w u' := fun u u' hu ho => hu.trans (ho.low hu.size (by simp; omega))
    have HLL := hid hll
    clear hb4 hr4 hcr HOR hll
    by_cases he : er = 0
    · subst he
      simp only [if_true] at HON HNR
      have HON := hid HON
      have HNR := hid HNR
      go_wp2_with fail
      (with_reducible refine HON.out.mono ?_); rintro e w5 ⟨hb5, vb2, sb2, fv2, rfl, hg4, hg5, hv5⟩
      have HB5 := hid (HB4.out.trans (hb5.mono hz4))
      have HV5 := hid (HV4.out.on hb5)
      have HR5 := hid (HR4.out.on hb5)
      have HW5 := hid hv5
      have hne := hid (show vb2 ≠ vb ∧ sb2 ≠ sb by omega)
      clear hb5 hv5
      go_wp2_with fail
      (with_reducible refine (HNR.out _).mono ?_); rintro e w6 ⟨hb6, b2, rfl, hg6, hr6⟩
      have hz5 := HB5.out.size
      have HB6 := hid (HB5.out.trans (hb6.mono hz5))
      have HV6 := hid (HV5.out.on hb6)
      have HR6 := hid (HR5.out.on hb6)
      have HW6 := hid (HW5.out.on hb6)
      have HS6 := hid hr6
      have HLV := hid (listV_fn HV6.out (HM.out.below HB6.out) HSM.out.1 HSM.out.2)
      have vl2 := HW6.out.vlt
      clear hb6 hr6
      have HLV := hid (show Calls Tryz.prog 21 #[.pointer (some ⟨vb, 0, none⟩)] w6 fun e w' => ∃ u fv' told', e = .returned (.tuple #[u, .int .i64 0]) ∧ RowS w6.heap.size w' u l ∧ Only [vb, sb] w6 w' ∧ ValAt vb sb w' fv' Q told' 1 (.list l) ∧ (false = true → told' = true) from HLV.out)
      go_wp2_with fail
      (with_reducible refine HLV.out.mono ?_); rintro e w7 ⟨u, fv7, td7, rfl, hr7, ho7, hv7, _⟩
      have HB7 := hid (HLL.out _ _ HB6.out ho7)
      have HV7 := hid hv7
      have HR7 := hid (HR6.out.only ho7 (kind3 HV6.out HR6.out))
      have HS7 := hid (HS6.out.only ho7 (kind3 HV6.out HS6.out))
      have HW7 := hid (HW6.out.beside HV6.out hne.out.1 hne.out.2 ho7)
      have HU7 := hid hr7
      obtain ⟨a7, c7, e7⟩ := hr7.shape
      obtain ⟨n7, hn7⟩ : ∃ n, n = l.length := ⟨_, rfl⟩
      rw [← hn7] at e7
      subst e7
      have HT := hid (text_fn HV7.out (HM.out.below HB7.out))
      clear hr7 ho7 hv7 hn7
      go_wp2_with fail
      (with_reducible refine HT.out.mono ?_); rintro e w8 ⟨rfl, ho8, hv8⟩
      have ho8' : Only [vb, sb] w7 w8 := ho8.more (by simp)
      have HB8 := hid (HLL.out _ _ HB7.out ho8')
      have HV8 := hid hv8
      have HR8 := hid (HR7.out.only ho8' (kind3 HV7.out HR7.out))
      have HS8 := hid (HS7.out.only ho8' (kind3 HV7.out HS7.out))
      have HW8 := hid (HW7.out.beside HV7.out hne.out.1 hne.out.2 ho8')
      have HU8 := hid (show RowS w6.heap.size w8 (.slice a7 n7 c7) l from ownsRow_heap2 HU7.out fun g cur hg hc => ho8.cells hc (by
        have := kinds_ne hc HV7.out.shr (by decide)
        simpa using this))
      have HTR := hid (textR_fn HR8.out)
      clear ho8 ho8' hv8 HT
      go_wp2_with fail
      (with_reducible refine HTR.out.mono ?_); rintro e w8' ⟨rfl, hw⟩; subst hw
      have HF := hid (face_fn HV8.out)
      have HFR := hid (faceR_fn HR8.out)
      have HSA := hid (same_fn HU8.out.strs (HV.out.below HB8.out) (by omega))
      go_wp2_with fail
      (with_reducible refine HF.out.mono ?_); rintro e w8' ⟨rfl, hw⟩; subst hw
      go_wp2_with fail
      (with_reducible refine HFR.out.mono ?_); rintro e w8' ⟨rfl, hw⟩; subst hw
      go_wp2_with fail
      (with_reducible refine HSA.out.mono ?_); rintro e w9 ⟨rfl, hb9⟩
      have hz8 := HB8.out.size
      have HB9 := hid (HB8.out.trans (hb9.mono hz8))
      have HW9 := hid (HW8.out.on hb9)
      have HS9 := hid (HS8.out.on hb9)
      have HT9 := hid (text_fn HW9.out (HM.out.below HB9.out))
      clear hb9
      go_wp2_with fail
      (with_reducible refine HT9.out.mono ?_); rintro e w10 ⟨rfl, ho10, hv10⟩
      have HB10 := hid (HB9.out.trans (ho10.low HB9.out.size (by simp; omega)))
      have HS10 := hid (HS9.out.only ho10 (by
        have := kinds_ne HS9.out HW9.out.shr (by decide)
        simpa using this))
      have HTR2 := hid (textR_fn HS10.out)
      have HF2 := hid (face_fn hv10)
      have HFR2 := hid (faceR_fn HS10.out)
      have haw := AW _ HB10.out
      clear ho10 hv10
      go_wp2_with fail
      (with_reducible refine HTR2.out.mono ?_); rintro e w8' ⟨rfl, hw⟩; subst hw
      go_wp2_with fail
      (with_reducible refine HF2.out.mono ?_); rintro e w8' ⟨rfl, hw⟩; subst hw
      go_wp2_with fail
      (with_reducible refine HFR2.out.mono ?_); rintro e w8' ⟨rfl, hw⟩; subst hw
      go_wp2_with fail
      (with_reducible refine haw.out.mono ?_); rintro e w11 ⟨rfl, hb11⟩
      have HB11 := hid (HB10.out.trans (hb11.mono HB10.out.size))
      clear hb11
      go_wp2
      go_ret
      exact ⟨rfl, HB11.out⟩
    · simp only [if_neg he] at HON HNR
      have hne0 : (er != 0) = true := by rw [bne_iff_ne]; exact he
      have hne1 : (er == 0) = false := by rw [beq_eq_false_iff_ne]; exact he
      have HON := hid HON
      have HNR := hid HNR
      clear he
      go_wp2_with fail
      (with_reducible refine HON.out.mono ?_); rintro e w5 ⟨hb5, rfl⟩
      have HB5 := hid (HB4.out.trans (hb5.mono hz4))
      have HV5 := hid (HV4.out.on hb5)
      have HR5 := hid (HR4.out.on hb5)
      clear hb5
      go_wp2_with fail
      (with_reducible refine (HNR.out _).mono ?_); rintro e w6 ⟨hb6, rfl⟩
      have hz5 := HB5.out.size
      have HB6 := hid (HB5.out.trans (hb6.mono hz5))
      have HV6 := hid (HV5.out.on hb6)
      have HR6 := hid (HR5.out.on hb6)
      have HLV := hid (listV_fn HV6.out (HM.out.below HB6.out) HSM.out.1 HSM.out.2)
      clear hb6
      have HLV := hid (show Calls Tryz.prog 21 #[.pointer (some ⟨vb, 0, none⟩)] w6 fun e w' => ∃ u fv' told', e = .returned (.tuple #[u, .int .i64 0]) ∧ RowS w6.heap.size w' u l ∧ Only [vb, sb] w6 w' ∧ ValAt vb sb w' fv' Q told' 1 (.list l) ∧ (false = true → told' = true) from HLV.out)
      go_wp2_with fail
      (with_reducible refine HLV.out.mono ?_); rintro e w7 ⟨u, fv7, td7, rfl, hr7, ho7, hv7, _⟩
      have HB7 := hid (HLL.out _ _ HB6.out ho7)
      have HV7 := hid hv7
      have HR7 := hid (HR6.out.only ho7 (kind3 HV6.out HR6.out))
      have HU7 := hid hr7
      obtain ⟨a7, c7, e7⟩ := hr7.shape
      obtain ⟨n7, hn7⟩ : ∃ n, n = l.length := ⟨_, rfl⟩
      rw [← hn7] at e7
      subst e7
      have HT := hid (text_fn HV7.out (HM.out.below HB7.out))
      clear hr7 ho7 hv7 hn7
      go_wp2_with fail
      (with_reducible refine HT.out.mono ?_); rintro e w8 ⟨rfl, ho8, hv8⟩
      have ho8' : Only [vb, sb] w7 w8 := ho8.more (by simp)
      have HB8 := hid (HLL.out _ _ HB7.out ho8')
      have HV8 := hid hv8
      have HR8 := hid (HR7.out.only ho8' (kind3 HV7.out HR7.out))
      have HU8 := hid (show RowS w6.heap.size w8 (.slice a7 n7 c7) l from ownsRow_heap2 HU7.out fun g cur hg hc => ho8.cells hc (by
        have := kinds_ne hc HV7.out.shr (by decide)
        simpa using this))
      have HTR := hid (textR_fn HR8.out)
      clear ho8 ho8' hv8 HT
      go_wp2_with fail
      (with_reducible refine HTR.out.mono ?_); rintro e w8' ⟨rfl, hw⟩; subst hw
      have HF := hid (face_fn HV8.out)
      have HFR := hid (faceR_fn HR8.out)
      have HSA := hid (same_fn HU8.out.strs (HV.out.below HB8.out) (by omega))
      go_wp2_with fail
      (with_reducible refine HF.out.mono ?_); rintro e w8' ⟨rfl, hw⟩; subst hw
      go_wp2_with fail
      (with_reducible refine HFR.out.mono ?_); rintro e w8' ⟨rfl, hw⟩; subst hw
      go_wp2_with fail
      (with_reducible refine HSA.out.mono ?_); rintro e w9 ⟨rfl, hb9⟩
      have hz8 := HB8.out.size
      have HB9 := hid (HB8.out.trans (hb9.mono hz8))
      have haw := AW _ HB9.out
      clear hb9
      go_wp2_with fail
      (with_reducible refine haw.out.mono ?_); rintro e w11 ⟨rfl, hb11⟩
      have HB11 := hid (HB9.out.trans (hb11.mono HB9.out.size))
      clear hb11
      go_wp2
      go_ret
      exact ⟨rfl, HB11.out⟩
  · rw [decide_eq_false hlt] at hL
    clear hlt hb
    go_enter Tryz.func4, Tryz.ntmps4
    go_wp2_with fail
    rw [← HW1.out]
    (with_reducible refine hL.out.mono ?_); rintro e w2 ⟨rfl, hb2⟩
    have hbb := HB1.out.trans (hb2.mono HB1.out.size)
    have haw := AW _ hbb
    have HBB := hid hbb
    clear hb2 hbb hL
    go_wp2_with fail
    (with_reducible refine haw.out.mono ?_); rintro e w3 ⟨rfl, hb3⟩
    have HB9 := hid (HBB.out.trans (hb3.mono HBB.out.size))
    clear hb3
    go_wp2
    go_ret
    exact ⟨rfl, HB9.out⟩
end Go.Proofs.YtabhkoklcjhlpaaGreatDoor.Pz
/-
  value: Truth, of the program and of the reference; faces that fit their text.
-/
namespace Go.Proofs.YtabhkoklcjhlpaaGreatDoor.Pz
open Go.RowKit
def yesW (t : Str) : Bool := t == [116, 114, 117, 101] || t == [121, 101, 115] || t == [111, 110]
def noW (t : Str) : Bool := t == [102, 97, 108, 115, 101] || t == [110, 111] || t == [111, 102, 102]
def truthAns (t : Str) : Bool × Int :=
  if yesW t then (true, 0) else if noW t then (false, 0) else if (canRes t).2 = 0 then (!((canRes t).1 == [48]), 0) else (false, 2)
/-- a face is what its text is read as -/
def Fit (f : Fc) (t : Str) : Prop := match f with
  | .text => True
  | .list l => splitE t = (l, 0, 0)
  | .num c => canRes t = (c, 0)
  | .dict l => pairsE t = (l, 0)
theorem splitE_err (t : Str) (h : (splitE t).2.2 ≠ 0) : (splitE t).1 = [] := by
  unfold splitE at h ⊢
  split
  · rfl
  · rename_i xs hx
    rw [hx] at h
    dsimp only at h
    split at h
    · exact absurd rfl h
    · rename_i h2
      rw [if_neg h2]
theorem pairsE_err (t : Str) (h : (pairsE t).2 ≠ 0) : (pairsE t).1 = [] := by
  unfold pairsE at h ⊢
  split
  · rename_i h2
    rw [if_pos h2] at h
    exact absurd rfl h
  · rfl
theorem canRes_err (t : Str) (h : (canRes t).2 ≠ 0) : (canRes t).1 = [] := by
  rw [canRes_eq] at h ⊢
  by_cases hp : pOK t = true
  · rw [if_pos hp] at h ⊢
    unfold resOf at h ⊢
    split
    · rename_i h2
      rw [if_pos h2] at h
      exact absurd rfl h
    · rfl
  · rw [if_neg hp]
theorem listAns_fit {f : Fc} {t : Str} (hf : Fit f t) (hs : f.small) (_ht : t.length ≤ 100000) : (listAns f t).1 = (splitE t).1 ∧ (listAns f t).2.1 = (splitE t).2.2 ∧ (listAns f t).2.2.n = faceIf (splitE t).2.2 1 f.n ∧ Fit (listAns f t).2.2 t ∧ (listAns f t).2.2.small := by
  have key : ∀ g : Fc, Fit g t → g.small → (∀ l, g ≠ .list l) → listAns g t = (if (splitE t).2.2 = 0 then ((splitE t).1, 0, .list (splitE t).1) else ([], (splitE t).2.2, g)) → (listAns g t).1 = (splitE t).1 ∧ (listAns g t).2.1 = (splitE t).2.2 ∧ (listAns g t).2.2.n = faceIf (splitE t).2.2 1 g.n ∧ Fit (listAns g t).2.2 t ∧ (listAns g t).2.2.small := by
    intro g hg hgs _ h
    rw [h]
    unfold faceIf
    by_cases he : (splitE t).2.2 = 0
    · rw [if_pos he, if_pos he]
      have hl := splitE_out t
      refine ⟨rfl, he.symm, rfl, ?_, ?_⟩
      · show splitE t = ((splitE t).1, 0, 0)
        have h1 : (splitE t).2.1 = 0 := by
          unfold splitE at he ⊢
          split
          · rename_i b hb
            rw [hb] at he
            exact absurd he (by simp)
          · rename_i xs hx
            rw [hx] at he
            dsimp only at he
            split at he
            · rename_i h2; rw [if_pos h2]
            · exact absurd he (by simp)
        generalize splitE t = R at he h1
        obtain ⟨a, b, c⟩ := R
        dsimp only at he h1
        subst he
        subst h1
        rfl
      · show (splitE t).1.length ≤ 1000000
        omega
    · rw [if_neg he, if_neg he]
      exact ⟨(splitE_err t he).symm, rfl, rfl, hg, hgs⟩
  cases f with
  | list l =>
    have h : splitE t = (l, 0, 0) := hf
    rw [h]
    exact ⟨rfl, rfl, rfl, h, hs⟩
  | text => exact key _ hf hs (fun l h => by cases h) rfl
  | num c => exact key _ hf hs (fun l h => by cases h) rfl
  | dict l => exact key _ hf hs (fun l h => by cases h) rfl
theorem pairsAns_fit {f : Fc} {t : Str} (hf : Fit f t) (hs : f.small) (ht : t.length ≤ 100000) : (pairsAns f t).1 = (pairsE t).1 ∧ (pairsAns f t).2.1 = (pairsE t).2 ∧ (pairsAns f t).2.2.n = faceIf (pairsE t).2 3 f.n ∧ Fit (pairsAns f t).2.2 t ∧ (pairsAns f t).2.2.small := by
  have key : ∀ g : Fc, Fit g t → g.small → pairsAns g t = (if (pairsE t).2 = 0 then ((pairsE t).1, 0, .dict (pairsE t).1) else ([], (pairsE t).2, g)) → (pairsAns g t).1 = (pairsE t).1 ∧ (pairsAns g t).2.1 = (pairsE t).2 ∧ (pairsAns g t).2.2.n = faceIf (pairsE t).2 3 g.n ∧ Fit (pairsAns g t).2.2 t ∧ (pairsAns g t).2.2.small := by
    intro g hg hgs h
    rw [h]
    unfold faceIf
    by_cases he : (pairsE t).2 = 0
    · rw [if_pos he, if_pos he]
      have hl := pairsE_len t
      refine ⟨rfl, he.symm, rfl, ?_, ?_⟩
      · show pairsE t = ((pairsE t).1, 0)
        generalize pairsE t = R at he
        obtain ⟨a, c⟩ := R
        dsimp only at he
        subst he
        rfl
      · show (pairsE t).1.length ≤ 1000000
        omega
    · rw [if_neg he, if_neg he]
      exact ⟨(pairsE_err t he).symm, rfl, rfl, hg, hgs⟩
  cases f with
  | dict l =>
    have h : pairsE t = (l, 0) := hf
    rw [h]
    exact ⟨rfl, rfl, rfl, h, hs⟩
  | text => exact key _ hf hs rfl
  | num c => exact key _ hf hs rfl
  | list l => exact key _ hf hs rfl
theorem numAns_fit {f : Fc} {t : Str} (hf : Fit f t) (hs : f.small) : (numAns f t).1 = (canRes t).1 ∧ (numAns f t).2.1 = (canRes t).2 ∧ (numAns f t).2.2.n = faceIf (canRes t).2 2 f.n ∧ Fit (numAns f t).2.2 t ∧ (numAns f t).2.2.small := by
  have key : ∀ g : Fc, Fit g t → g.small → numAns g t = (if (canRes t).2 = 0 then ((canRes t).1, 0, .num (canRes t).1) else ([], (canRes t).2, g)) → (numAns g t).1 = (canRes t).1 ∧ (numAns g t).2.1 = (canRes t).2 ∧ (numAns g t).2.2.n = faceIf (canRes t).2 2 g.n ∧ Fit (numAns g t).2.2 t ∧ (numAns g t).2.2.small := by
    intro g hg hgs h
    rw [h]
    unfold faceIf
    by_cases he : (canRes t).2 = 0
    · rw [if_pos he, if_pos he]
      refine ⟨rfl, he.symm, rfl, ?_, trivial⟩
      show canRes t = ((canRes t).1, 0)
      generalize canRes t = R at he
      obtain ⟨a, c⟩ := R
      dsimp only at he
      subst he
      rfl
    · rw [if_neg he, if_neg he]
      exact ⟨(canRes_err t he).symm, rfl, rfl, hg, hgs⟩
  cases f with
  | num c =>
    have h : canRes t = (c, 0) := hf
    rw [h]
    exact ⟨rfl, rfl, rfl, h, trivial⟩
  | text => exact key _ hf hs rfl
  | dict l => exact key _ hf hs rfl
  | list l => exact key _ hf hs rfl
/-- the face that asking for the truth leaves -/
def truthFace (f : Fc) (t : Str) : Fc := if yesW t || noW t then f else (numAns f t).2.2
theorem words_bad (t : Str) (h : (yesW t || noW t) = true) : (canRes t).2 ≠ 0 := by
  have h2 : t = [116, 114, 117, 101] ∨ t = [121, 101, 115] ∨ t = [111, 110] ∨ t = [102, 97, 108, 115, 101] ∨ t = [110, 111] ∨ t = [111, 102, 102] := by
    simp only [yesW, noW, Bool.or_eq_true, beq_iff_eq] at h
    rcases h with ((h | h) | h) | ((h | h) | h) <;> simp [h]
  rcases h2 with rfl | rfl | rfl | rfl | rfl | rfl <;> decide +kernel
set_option maxRecDepth 100000 in
set_option maxHeartbeats 2000000 in
theorem truthV_fn {vb sb : Nat} {w : World} {fv : Value} {t : Str} {told : Bool} {cnt : Nat} {f : Fc} (h : ValAt vb sb w fv t told cnt f) (hml : ML w) (ht : t.length ≤ 100000) (hf : Fit f t) (hs : f.small) :
    Calls Tryz.prog 32 #[.pointer (some ⟨vb, 0, none⟩)] w fun e w' => ∃ fv' told', e = .returned (.tuple #[.bool (truthAns t).1, .int .i64 (truthAns t).2]) ∧ Only [vb, sb] w w' ∧ ValAt vb sb w' fv' t told' cnt (truthFace f t) ∧ (told = true → told' = true) := by
  have HT := hid (text_fn h hml)
  have HNOT := hid (h.only hml)
  have HM := hid hml
  have HFIT := hid hf
  have HS := hid hs
  have H := hid h
  clear h hml hf hs
  by_cases h0 : t = [116, 114, 117, 101]
  · have e0 : (t == [116, 114, 117, 101]) = true := beq_iff_eq.2 h0
    have HA := hid (show truthAns t = (true, 0) by unfold truthAns yesW noW; simp [h0])
    have HF := hid (show (yesW t || noW t) = true by unfold yesW noW; simp [h0])
    clear h0
    rw [HA.out, show truthFace f t = f from if_pos HF.out]
    go_enter Tryz.func32, Tryz.ntmps32
    go_wp2_with fail
    (with_reducible refine HT.out.mono ?_); rintro e w1 ⟨rfl, ho, hv⟩
    have HO := hid (ho.more (C := [vb, sb]) (by simp))
    have HV := hid hv
    clear ho hv
    go_wp2
    go_ret2
    exact ⟨_, _, rfl, HO.out, HV.out, fun _ => rfl⟩
  have e0 : (t == [116, 114, 117, 101]) = false := by rw [beq_eq_false_iff_ne]; exact h0
  by_cases h1 : t = [121, 101, 115]
  · have e1 : (t == [121, 101, 115]) = true := beq_iff_eq.2 h1
    have HA := hid (show truthAns t = (true, 0) by unfold truthAns yesW noW; simp [h1])
    have HF := hid (show (yesW t || noW t) = true by unfold yesW noW; simp [h1])
    clear h0 h1
    rw [HA.out, show truthFace f t = f from if_pos HF.out]
    go_enter Tryz.func32, Tryz.ntmps32
    go_wp2_with fail
    (with_reducible refine HT.out.mono ?_); rintro e w1 ⟨rfl, ho, hv⟩
    have HO := hid (ho.more (C := [vb, sb]) (by simp))
    have HV := hid hv
    clear ho hv
    go_wp2
    go_ret2
    exact ⟨_, _, rfl, HO.out, HV.out, fun _ => rfl⟩
  have e1 : (t == [121, 101, 115]) = false := by rw [beq_eq_false_iff_ne]; exact h1
  by_cases h2 : t = [111, 110]
  · have e2 : (t == [111, 110]) = true := beq_iff_eq.2 h2
    have HA := hid (show truthAns t = (true, 0) by unfold truthAns yesW noW; simp [h2])
    have HF := hid (show (yesW t || noW t) = true by unfold yesW noW; simp [h2])
    clear h0 h1 h2
    rw [HA.out, show truthFace f t = f from if_pos HF.out]
    go_enter Tryz.func32, Tryz.ntmps32
    go_wp2_with fail
    (with_reducible refine HT.out.mono ?_); rintro e w1 ⟨rfl, ho, hv⟩
    have HO := hid (ho.more (C := [vb, sb]) (by simp))
    have HV := hid hv
    clear ho hv
    go_wp2
    go_ret2
    exact ⟨_, _, rfl, HO.out, HV.out, fun _ => rfl⟩
  have e2 : (t == [111, 110]) = false := by rw [beq_eq_false_iff_ne]; exact h2
  by_cases h3 : t = [102, 97, 108, 115, 101]
  · have e3 : (t == [102, 97, 108, 115, 101]) = true := beq_iff_eq.2 h3
    have HA := hid (show truthAns t = (false, 0) by unfold truthAns yesW noW; simp [h3])
    have HF := hid (show (yesW t || noW t) = true by unfold yesW noW; simp [h3])
    clear h0 h1 h2 h3
    rw [HA.out, show truthFace f t = f from if_pos HF.out]
    go_enter Tryz.func32, Tryz.ntmps32
    go_wp2_with fail
    (with_reducible refine HT.out.mono ?_); rintro e w1 ⟨rfl, ho, hv⟩
    have HO := hid (ho.more (C := [vb, sb]) (by simp))
    have HV := hid hv
    clear ho hv
    go_wp2
    go_ret2
    exact ⟨_, _, rfl, HO.out, HV.out, fun _ => rfl⟩
  have e3 : (t == [102, 97, 108, 115, 101]) = false := by rw [beq_eq_false_iff_ne]; exact h3
  by_cases h4 : t = [110, 111]
  · have e4 : (t == [110, 111]) = true := beq_iff_eq.2 h4
    have HA := hid (show truthAns t = (false, 0) by unfold truthAns yesW noW; simp [h4])
    have HF := hid (show (yesW t || noW t) = true by unfold yesW noW; simp [h4])
    clear h0 h1 h2 h3 h4
    rw [HA.out, show truthFace f t = f from if_pos HF.out]
    go_enter Tryz.func32, Tryz.ntmps32
    go_wp2_with fail
    (with_reducible refine HT.out.mono ?_); rintro e w1 ⟨rfl, ho, hv⟩
    have HO := hid (ho.more (C := [vb, sb]) (by simp))
    have HV := hid hv
    clear ho hv
    go_wp2
    go_ret2
    exact ⟨_, _, rfl, HO.out, HV.out, fun _ => rfl⟩
  have e4 : (t == [110, 111]) = false := by rw [beq_eq_false_iff_ne]; exact h4
  by_cases h5 : t = [111, 102, 102]
  · have e5 : (t == [111, 102, 102]) = true := beq_iff_eq.2 h5
    have HA := hid (show truthAns t = (false, 0) by unfold truthAns yesW noW; simp [h5])
    have HF := hid (show (yesW t || noW t) = true by unfold yesW noW; simp [h5])
    clear h0 h1 h2 h3 h4 h5
    rw [HA.out, show truthFace f t = f from if_pos HF.out]
    go_enter Tryz.func32, Tryz.ntmps32
    go_wp2_with fail
    (with_reducible refine HT.out.mono ?_); rintro e w1 ⟨rfl, ho, hv⟩
    have HO := hid (ho.more (C := [vb, sb]) (by simp))
    have HV := hid hv
    clear ho hv
    go_wp2
    go_ret2
    exact ⟨_, _, rfl, HO.out, HV.out, fun _ => rfl⟩
  have e5 : (t == [111, 102, 102]) = false := by rw [beq_eq_false_iff_ne]; exact h5
  have hw : yesW t = false ∧ noW t = false := by unfold yesW noW; simp [h0, h1, h2, h3, h4, h5]
  have hta : truthAns t = if (canRes t).2 = 0 then (!((canRes t).1 == [48]), 0) else (false, 2) := by unfold truthAns; rw [hw.1, hw.2]; rfl
  have htf : truthFace f t = (numAns f t).2.2 := by unfold truthFace; rw [hw.1, hw.2]; rfl
  have hnf := numAns_fit HFIT.out HS.out
  rw [htf]
  have HN := fun (w1 : World) (h1 : ValAt vb sb w1 fv t true cnt f) (h2 : ML w1) => hid (numV_fn h1 h2 ht)
  generalize truthAns t = R at hta ⊢
  generalize numAns f t = A at hnf HN ⊢
  generalize canRes t = C at hnf hta
  obtain ⟨n, er, f'⟩ := A
  obtain ⟨c, er2⟩ := C
  dsimp only at hnf HN hta ⊢
  obtain ⟨rfl, rfl, _⟩ := hnf
  clear hw htf h0 h1 h2 h3 h4 h5
  by_cases he : er = 0
  · subst he
    rw [if_pos rfl] at hta
    subst hta
    go_enter Tryz.func32, Tryz.ntmps32
    go_wp2_with fail
    (with_reducible refine HT.out.mono ?_); rintro e w1 ⟨rfl, ho, hv⟩
    have HO := hid (ho.more (C := [vb, sb]) (by simp))
    have HN1 := HN w1 hv (HM.out.only ho (by simpa using HNOT.out.2))
    clear ho hv HN
    go_wp2_with fail
    (with_reducible refine HN1.out.mono ?_); rintro e w2 ⟨fv', told', rfl, ho2, hv2, htt⟩
    have HO2 := hid (HO.out.trans ho2)
    have HV2 := hid hv2
    have HTT := hid htt
    clear ho2 hv2 htt
    go_wp2
    go_ret2
    exact ⟨_, _, rfl, HO2.out, HV2.out, fun _ => by simpa using HTT.out⟩
  · rw [if_neg he] at hta
    subst hta
    have hne : (er != 0) = true := by rw [bne_iff_ne]; exact he
    go_enter Tryz.func32, Tryz.ntmps32
    go_wp2_with fail
    (with_reducible refine HT.out.mono ?_); rintro e w1 ⟨rfl, ho, hv⟩
    have HO := hid (ho.more (C := [vb, sb]) (by simp))
    have HN1 := HN w1 hv (HM.out.only ho (by simpa using HNOT.out.2))
    clear ho hv HN
    go_wp2_with fail
    (with_reducible refine HN1.out.mono ?_); rintro e w2 ⟨fv', told', rfl, ho2, hv2, htt⟩
    have HO2 := hid (HO.out.trans ho2)
    have HV2 := hid hv2
    have HTT := hid htt
    clear ho2 hv2 htt
    go_wp2
    go_ret2
    exact ⟨_, _, rfl, HO2.out, HV2.out, fun _ => by simpa using HTT.out⟩
set_option maxRecDepth 100000 in
set_option maxHeartbeats 2000000 in
theorem truth5_fn (t : Str) (ht : t.length ≤ 1000000) (w : World) :
    Calls Tryz.prog 59 #[.string ⟨t.toArray⟩] w fun e w' => e = .returned (.tuple #[.bool (truthAns t).1, .int .i64 (truthAns t).2]) ∧ Below w.heap.size w w' := by
  by_cases h0 : t = [116, 114, 117, 101]
  · have e0 : (t == [116, 114, 117, 101]) = true := beq_iff_eq.2 h0
    have HA := hid (show truthAns t = (true, 0) by unfold truthAns yesW noW; simp [h0])
    have HF := hid (show (yesW t || noW t) = true by unfold yesW noW; simp [h0])
    clear h0
    clear HF
    rw [HA.out]
    go_enter Tryz.func59, Tryz.ntmps59
    go_wp2
    go_ret2
    exact ⟨rfl, Below.refl _ _⟩
  have e0 : (t == [116, 114, 117, 101]) = false := by rw [beq_eq_false_iff_ne]; exact h0
  by_cases h1 : t = [121, 101, 115]
  · have e1 : (t == [121, 101, 115]) = true := beq_iff_eq.2 h1
    have HA := hid (show truthAns t = (true, 0) by unfold truthAns yesW noW; simp [h1])
    have HF := hid (show (yesW t || noW t) = true by unfold yesW noW; simp [h1])
    clear h0 h1
    clear HF
    rw [HA.out]
    go_enter Tryz.func59, Tryz.ntmps59
    go_wp2
    go_ret2
    exact ⟨rfl, Below.refl _ _⟩
  have e1 : (t == [121, 101, 115]) = false := by rw [beq_eq_false_iff_ne]; exact h1
  by_cases h2 : t = [111, 110]
  · have e2 : (t == [111, 110]) = true := beq_iff_eq.2 h2
    have HA := hid (show truthAns t = (true, 0) by unfold truthAns yesW noW; simp [h2])
    have HF := hid (show (yesW t || noW t) = true by unfold yesW noW; simp [h2])
    clear h0 h1 h2
    clear HF
    rw [HA.out]
    go_enter Tryz.func59, Tryz.ntmps59
    go_wp2
    go_ret2
    exact ⟨rfl, Below.refl _ _⟩
  have e2 : (t == [111, 110]) = false := by rw [beq_eq_false_iff_ne]; exact h2
  by_cases h3 : t = [102, 97, 108, 115, 101]
  · have e3 : (t == [102, 97, 108, 115, 101]) = true := beq_iff_eq.2 h3
    have HA := hid (show truthAns t = (false, 0) by unfold truthAns yesW noW; simp [h3])
    have HF := hid (show (yesW t || noW t) = true by unfold yesW noW; simp [h3])
    clear h0 h1 h2 h3
    clear HF
    rw [HA.out]
    go_enter Tryz.func59, Tryz.ntmps59
    go_wp2
    go_ret2
    exact ⟨rfl, Below.refl _ _⟩
  have e3 : (t == [102, 97, 108, 115, 101]) = false := by rw [beq_eq_false_iff_ne]; exact h3
  by_cases h4 : t = [110, 111]
  · have e4 : (t == [110, 111]) = true := beq_iff_eq.2 h4
    have HA := hid (show truthAns t = (false, 0) by unfold truthAns yesW noW; simp [h4])
    have HF := hid (show (yesW t || noW t) = true by unfold yesW noW; simp [h4])
    clear h0 h1 h2 h3 h4
    clear HF
    rw [HA.out]
    go_enter Tryz.func59, Tryz.ntmps59
    go_wp2
    go_ret2
    exact ⟨rfl, Below.refl _ _⟩
  have e4 : (t == [110, 111]) = false := by rw [beq_eq_false_iff_ne]; exact h4
  by_cases h5 : t = [111, 102, 102]
  · have e5 : (t == [111, 102, 102]) = true := beq_iff_eq.2 h5
    have HA := hid (show truthAns t = (false, 0) by unfold truthAns yesW noW; simp [h5])
    have HF := hid (show (yesW t || noW t) = true by unfold yesW noW; simp [h5])
    clear h0 h1 h2 h3 h4 h5
    clear HF
    rw [HA.out]
    go_enter Tryz.func59, Tryz.ntmps59
    go_wp2
    go_ret2
    exact ⟨rfl, Below.refl _ _⟩
  have e5 : (t == [111, 102, 102]) = false := by rw [beq_eq_false_iff_ne]; exact h5
  have hw : yesW t = false ∧ noW t = false := by unfold yesW noW; simp [h0, h1, h2, h3, h4, h5]
  have hta : truthAns t = if (canRes t).2 = 0 then (!((canRes t).1 == [48]), 0) else (false, 2) := by unfold truthAns; rw [hw.1, hw.2]; rfl
  have HC := hid (canR_fn t (by omega) w)
  generalize truthAns t = R at hta ⊢
  generalize canRes t = C at HC hta
  obtain ⟨c, er⟩ := C
  dsimp only at HC hta ⊢
  have HC := hid HC.out
  clear hw h0 h1 h2 h3 h4 h5
  by_cases he : er = 0
  · subst he
    rw [if_pos rfl] at hta
    subst hta
    go_enter Tryz.func59, Tryz.ntmps59
    go_wp2_with fail
    (with_reducible refine HC.out.mono ?_); rintro e w1 ⟨rfl, hb⟩
    have HB := hid hb
    clear hb
    go_wp2
    go_ret2
    exact ⟨rfl, HB.out⟩
  · rw [if_neg he] at hta
    subst hta
    have hne : (er != 0) = true := by rw [bne_iff_ne]; exact he
    go_enter Tryz.func59, Tryz.ntmps59
    go_wp2_with fail
    (with_reducible refine HC.out.mono ?_); rintro e w1 ⟨rfl, hb⟩
    have HB := hid hb
    clear hb
    go_wp2
    go_ret2
    exact ⟨rfl, HB.out⟩
/-- the face that the reference's asking for the truth leaves -/
def truthFaceR (t : Str) (n : Int) : Int := if validRes t = true then 2 else n
set_option maxRecDepth 100000 in
theorem truthR5_fn {w : World} {b : Nat} {t : Str} {n : Int} (h : RVal w b t n) (ht : t.length ≤ 1000000) :
    Calls Tryz.prog 33 #[.pointer (some ⟨b, 0, none⟩)] w fun e w' => e = .returned (.tuple #[.bool (truthAns t).1, .int .i64 (truthAns t).2]) ∧ Only [b] w w' ∧ RVal w' b t (truthFaceR t n) := by
  have HT := fun (u : World) (hu : RVal u b t n) => hid (textR_fn hu)
  have HS := hid (truth5_fn t ht w)
  have HVd := fun u => hid (validR_fn t (by omega) u)
  have H := hid h
  generalize truthAns t = R at HS ⊢
  obtain ⟨r1, r2⟩ := R
  dsimp only at HS ⊢
  have HS := hid HS.out
  unfold truthFaceR
  cases hv : validRes t with
  | true =>
    rw [hv] at HVd
    have HT0 := HT w h
    rw [if_pos rfl]
    clear h hv
    go_enter Tryz.func33, Tryz.ntmps33
    go_wp2_with fail
    (with_reducible refine HT0.out.mono ?_); rintro e w1 ⟨rfl, hw⟩; subst hw
    go_wp2_with fail
    (with_reducible refine HS.out.mono ?_); rintro e w2 ⟨rfl, hb⟩
    have H2 := hid (H.out.on hb)
    have HB := hid hb
    have HT2 := HT w2 H2.out
    clear hb
    go_wp2_with fail
    (with_reducible refine HT2.out.mono ?_); rintro e w3 ⟨rfl, hw⟩; subst hw
    go_wp2_with fail
    (with_reducible refine (HVd _).out.mono ?_); rintro e w4 ⟨rfl, hb4⟩
    have H4 := hid (H2.out.on hb4)
    have HB4 := hid (HB.out.trans (hb4.mono HB.out.size))
    have HA := hid (asked_fn H4.out 2 0)
    clear hb4
    go_wp2_with fail
    (with_reducible refine HA.out.mono ?_); rintro e w5 ⟨rfl, hr, ho⟩
    have HR := hid (show RVal w5 b t 2 from hr)
    have HO := hid ((Only.of HB4.out _).trans ho)
    clear hr ho
    go_wp2
    go_ret2
    exact ⟨rfl, HO.out, HR.out⟩
  | false =>
    rw [hv] at HVd
    have HT0 := HT w h
    rw [if_neg (by simp)]
    clear h hv
    go_enter Tryz.func33, Tryz.ntmps33
    go_wp2_with fail
    (with_reducible refine HT0.out.mono ?_); rintro e w1 ⟨rfl, hw⟩; subst hw
    go_wp2_with fail
    (with_reducible refine HS.out.mono ?_); rintro e w2 ⟨rfl, hb⟩
    have H2 := hid (H.out.on hb)
    have HB := hid hb
    have HT2 := HT w2 H2.out
    clear hb
    go_wp2_with fail
    (with_reducible refine HT2.out.mono ?_); rintro e w3 ⟨rfl, hw⟩; subst hw
    go_wp2_with fail
    (with_reducible refine (HVd _).out.mono ?_); rintro e w4 ⟨rfl, hb4⟩
    have H4 := hid (H2.out.on hb4)
    have HO := hid (Only.of (HB.out.trans (hb4.mono HB.out.size)) [b])
    clear hb4
    go_wp2
    go_ret2
    exact ⟨rfl, HO.out, H4.out⟩
theorem truth_fit {f : Fc} {t : Str} (hf : Fit f t) (hs : f.small) : (truthFace f t).n = truthFaceR t f.n ∧ Fit (truthFace f t) t ∧ (truthFace f t).small := by
  unfold truthFace truthFaceR validRes
  cases hw : (yesW t || noW t) with
  | true =>
    have hb := words_bad t hw
    rw [if_pos rfl, if_neg (by simpa using hb)]
    exact ⟨rfl, hf, hs⟩
  | false =>
    obtain ⟨_, _, h3, h4, h5⟩ := numAns_fit hf hs
    rw [if_neg (by simp)]
    refine ⟨?_, h4, h5⟩
    rw [h3]
    unfold faceIf
    by_cases he : (canRes t).2 = 0
    · rw [if_pos he, if_pos (by simpa using he)]
    · rw [if_neg he, if_neg (by simpa using he)]
end Go.Proofs.YtabhkoklcjhlpaaGreatDoor.Pz
