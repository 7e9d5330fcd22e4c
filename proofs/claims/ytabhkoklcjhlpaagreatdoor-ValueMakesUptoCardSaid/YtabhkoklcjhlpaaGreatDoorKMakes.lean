/-
  ValueMakesCard: the law's card and what it alone needs, merged from 2 texts. Conditions: the row's own.
-/
import Derived.Test.YtabhkoklcjhlpaaGreatDoorCards
import Derived.Test.YtabhkoklcjhlpaaGreatDoorTie
import Derived.Deep.DeepHandedRow
import Derived.ProofKit
import Derived.OpenShut
import Derived.Lay
import Derived.MakeChecks
import Derived.ChangeMaps5
import Derived.SliceStrings
import Derived.Carry
import Derived.Shelf.Vars
import Derived.Test.YtabhkoklcjhlpaaGreatDoorK0
import Derived.Test.YtabhkoklcjhlpaaGreatDoorK1
import Derived.Test.YtabhkoklcjhlpaaGreatDoorK2
import Derived.Test.YtabhkoklcjhlpaaGreatDoorK3
import Derived.Test.YtabhkoklcjhlpaaGreatDoorK4
import Derived.Test.YtabhkoklcjhlpaaGreatDoorK5
import Derived.Test.YtabhkoklcjhlpaaGreatDoorK6
import Derived.Test.YtabhkoklcjhlpaaGreatDoorK7
import Derived.Test.YtabhkoklcjhlpaaGreatDoorK8
import Derived.Test.YtabhkoklcjhlpaaGreatDoorK9
import Derived.Test.YtabhkoklcjhlpaaGreatDoorKA
/-
  The law ValueMakes walked.
-/
namespace Go.Proofs.YtabhkoklcjhlpaaGreatDoor.Pz
open Go.RowKit
theorem kind3 {w : World} {vb sb : Nat} {fv : Value} {t : Str} {told : Bool} {cnt : Nat} {f : Fc} (h : ValAt vb sb w fv t told cnt f) {b : Nat} {t2 : Str} {n : Int} (hr : RVal w b t2 n) : b ∉ [vb, sb] := by
  have h1 := kinds_ne hr h.val (by decide)
  have h2 := kinds_ne hr h.shr (by decide)
  simp [h1, h2]
theorem ValAt.beside {vb sb vb2 sb2 : Nat} {w w' : World} {fv fv2 : Value} {t t2 : Str} {told told2 : Bool} {cnt cnt2 : Nat} {f f2 : Fc} (h : ValAt vb sb w fv t told cnt f) (h2 : ValAt vb2 sb2 w fv2 t2 told2 cnt2 f2) (hv : vb ≠ vb2) (hs : sb ≠ sb2) (ho : Only [vb2, sb2] w w') : ValAt vb sb w' fv t told cnt f := by
  have h3 := kinds_ne h.val h2.shr (by decide)
  have h4 := kinds_ne h.shr h2.val (by decide)
  refine h.other ho (by simp [hv, h3]) (by simp [hs, h4]) fun k hk cur hc => ?_
  simp only [List.mem_cons, List.not_mem_nil, or_false] at hk
  rcases hk with rfl | rfl
  · exact kinds_ne hc h2.val (by decide) rfl
  · exact kinds_ne hc h2.shr (by decide) rfl
theorem ValAt.vlt {vb sb : Nat} {w : World} {fv : Value} {t : Str} {told : Bool} {cnt : Nat} {f : Fc} (h : ValAt vb sb w fv t told cnt f) : vb < w.heap.size ∧ sb < w.heap.size :=
  ⟨(Array.getElem?_eq_some_iff.1 h.val).1, (Array.getElem?_eq_some_iff.1 h.shr).1⟩
set_option maxRecDepth 100000 in
set_option maxHeartbeats 4000000 in
theorem valueMakes_fn (l : List Str) (s : Str) (lv : Value) (w : World) (hml : ML w) (hv : StrsAt w lv l) (hb : s.length + 1 + sumS l ≤ 10000000) :
    Calls Tryz.prog 4 #[lv, .string ⟨s.toArray⟩] w fun e w' => e = .returned (.bool true) ∧ Below w.heap.size w w' := by
  have HV := hid hv
  have HM := hid hml
  obtain ⟨a, cap, rfl, hcap, hcell⟩ := hv
  obtain ⟨n, hn⟩ : ∃ n, n = l.length := ⟨_, rfl⟩
  have HN := hid hn
  rw [← hn] at HV hcap ⊢
  obtain ⟨w1, hw1⟩ : ∃ w1, w1 = w.alloc (.cells #[.int .i64 0, .int .i64 0, .int .i64 0, .string ⟨s.toArray⟩, .string ⟨#[]⟩, .slice a n cap] 25) := ⟨_, rfl⟩
  have hb1 : Below w.heap.size w w1 := by rw [hw1]; exact belowA _ _
  have hg1 : w1.heap[w.heap.size]? = some (.cells #[.int .i64 0, .int .i64 0, .int .i64 0, .string ⟨s.toArray⟩, .string ⟨#[]⟩, .slice a n cap] 25 (0, 0)) := by rw [hw1]; exact heap_alloc_new _ _
  have hL := hid (light1_fn hg1 (HV.out.below hb1) hb)
  have HW1 := hid hw1
  have HB1 := hid hb1
  clear hml hcell hw1 hb1 hg1 hn
  have AW := fun u (h : Below w.heap.size w u) => hid (awake_fn u (HM.out.below h))
  by_cases hlt : s.length + 1 + sumS l ≤ 3000
  · rw [decide_eq_true hlt] at hL
    have hok := joinOk_light (l := l) (by omega)
    have hs1 : s.length ≤ 1000000 := by omega
    have hn1 : l.length ≤ 1000000 := by have := sumS_len l; omega
    have hq : (quotedL l).length ≤ 100000 := by have := hok.2.2; omega
    have hsm : (Fc.list l).small := hn1
    have HSM := hid (And.intro hq hsm)
    have HOK := hid hok
    clear hlt hb hok hq hsm
    go_enter Tryz.func4, Tryz.ntmps4
    go_wp2_with fail
    rw [← HW1.out]
    (with_reducible refine hL.out.mono ?_); rintro e w2 ⟨rfl, hb2⟩
    have HB2 := hid (HB1.out.trans (hb2.mono HB1.out.size))
    have HOL := hid (ofList_fn (HV.out.below HB2.out) (HM.out.below HB2.out) HOK.out)
    clear hb2 hL
    go_wp2_with fail
    (with_reducible refine HOL.out.mono ?_); rintro e w3 ⟨vb, sb, fv, rfl, hg1, hg2, hv3, hb3⟩
    have hz2 := HB2.out.size
    have HB3 := hid (HB2.out.trans (hb3.mono hz2))
    have HV3 := hid hv3
    have HOR := hid (ofListR_fn (HV.out.below HB3.out) HOK.out)
    clear hb3 hv3 HOL
    go_wp2_with fail
    (with_reducible refine HOR.out.mono ?_); rintro e w4 ⟨b, rfl, hg3, hr4, hb4⟩
    have hz3 := HB3.out.size
    have HB4 := hid (HB3.out.trans (hb4.mono hz3))
    have HV4 := hid (HV3.out.on hb4)
    have HR4 := hid hr4
    have HON := ofNumber_fn s (by omega) w4
    have HNR := fun u => ofNumberR_fn s (by omega) u
    obtain ⟨c, er, hcr⟩ : ∃ c er, canRes s = (c, er) := ⟨_, _, rfl⟩
    rw [hcr] at HON
    simp only [hcr] at HNR
    dsimp only at HON HNR
    have hz4 := HB4.out.size
    have vl := HV4.out.vlt
    obtain ⟨Q, hQ⟩ : ∃ Q, Q = quotedL l := ⟨_, rfl⟩
    rw [← hQ] at HV3 HV4 HR4 HSM
    have hll : ∀ (u u' : World), Below w.heap.size w u → Only [vb, sb] u u' → Below w.heap.size w u' := fun u u' hu ho => hu.trans (ho.low hu.size (by simp; omega))
    have HLL := hid hll
    clear hb4 hr4 hcr HOR hll
    by_cases he : er = 0
    · subst he
      simp only [if_true] at HON HNR
      have HON := hid HON
      have HNR := hid HNR
      go_wp2_with fail
      (with_reducible refine HON.out.mono ?_); rintro e w5 ⟨hb5, vb2, sb2, fv2, rfl, hg4, hg5, hv5⟩
      have HB5 := hid (HB4.out.trans (hb5.mono hz4))
      have HV5 := hid (HV4.out.on hb5)
      have HR5 := hid (HR4.out.on hb5)
      have HW5 := hid hv5
      have hne := hid (show vb2 ≠ vb ∧ sb2 ≠ sb by omega)
      clear hb5 hv5
      go_wp2_with fail
      (with_reducible refine (HNR.out _).mono ?_); rintro e w6 ⟨hb6, b2, rfl, hg6, hr6⟩
      have hz5 := HB5.out.size
      have HB6 := hid (HB5.out.trans (hb6.mono hz5))
      have HV6 := hid (HV5.out.on hb6)
      have HR6 := hid (HR5.out.on hb6)
      have HW6 := hid (HW5.out.on hb6)
      have HS6 := hid hr6
      have HLV := hid (listV_fn HV6.out (HM.out.below HB6.out) HSM.out.1 HSM.out.2)
      have vl2 := HW6.out.vlt
      clear hb6 hr6
      have HLV := hid (show Calls Tryz.prog 21 #[.pointer (some ⟨vb, 0, none⟩)] w6 fun e w' => ∃ u fv' told', e = .returned (.tuple #[u, .int .i64 0]) ∧ RowS w6.heap.size w' u l ∧ Only [vb, sb] w6 w' ∧ ValAt vb sb w' fv' Q told' 1 (.list l) ∧ (false = true → told' = true) from HLV.out)
      go_wp2_with fail
      (with_reducible refine HLV.out.mono ?_); rintro e w7 ⟨u, fv7, td7, rfl, hr7, ho7, hv7, _⟩
      have HB7 := hid (HLL.out _ _ HB6.out ho7)
      have HV7 := hid hv7
      have HR7 := hid (HR6.out.only ho7 (kind3 HV6.out HR6.out))
      have HS7 := hid (HS6.out.only ho7 (kind3 HV6.out HS6.out))
      have HW7 := hid (HW6.out.beside HV6.out hne.out.1 hne.out.2 ho7)
      have HU7 := hid hr7
      obtain ⟨a7, c7, e7⟩ := hr7.shape
      obtain ⟨n7, hn7⟩ : ∃ n, n = l.length := ⟨_, rfl⟩
      rw [← hn7] at e7
      subst e7
      have HT := hid (text_fn HV7.out (HM.out.below HB7.out))
      clear hr7 ho7 hv7 hn7
      go_wp2_with fail
      (with_reducible refine HT.out.mono ?_); rintro e w8 ⟨rfl, ho8, hv8⟩
      have ho8' : Only [vb, sb] w7 w8 := ho8.more (by simp)
      have HB8 := hid (HLL.out _ _ HB7.out ho8')
      have HV8 := hid hv8
      have HR8 := hid (HR7.out.only ho8' (kind3 HV7.out HR7.out))
      have HS8 := hid (HS7.out.only ho8' (kind3 HV7.out HS7.out))
      have HW8 := hid (HW7.out.beside HV7.out hne.out.1 hne.out.2 ho8')
      have HU8 := hid (show RowS w6.heap.size w8 (.slice a7 n7 c7) l from ownsRow_heap2 HU7.out fun g cur hg hc => ho8.cells hc (by
        have := kinds_ne hc HV7.out.shr (by decide)
        simpa using this))
      have HTR := hid (textR_fn HR8.out)
      clear ho8 ho8' hv8 HT
      go_wp2_with fail
      (with_reducible refine HTR.out.mono ?_); rintro e w8' ⟨rfl, hw⟩; subst hw
      have HF := hid (face_fn HV8.out)
      have HFR := hid (faceR_fn HR8.out)
      have HSA := hid (same_fn HU8.out.strs (HV.out.below HB8.out) (by omega))
      go_wp2_with fail
      (with_reducible refine HF.out.mono ?_); rintro e w8' ⟨rfl, hw⟩; subst hw
      go_wp2_with fail
      (with_reducible refine HFR.out.mono ?_); rintro e w8' ⟨rfl, hw⟩; subst hw
      go_wp2_with fail
      (with_reducible refine HSA.out.mono ?_); rintro e w9 ⟨rfl, hb9⟩
      have hz8 := HB8.out.size
      have HB9 := hid (HB8.out.trans (hb9.mono hz8))
      have HW9 := hid (HW8.out.on hb9)
      have HS9 := hid (HS8.out.on hb9)
      have HT9 := hid (text_fn HW9.out (HM.out.below HB9.out))
      clear hb9
      go_wp2_with fail
      (with_reducible refine HT9.out.mono ?_); rintro e w10 ⟨rfl, ho10, hv10⟩
      have HB10 := hid (HB9.out.trans (ho10.low HB9.out.size (by simp; omega)))
      have HS10 := hid (HS9.out.only ho10 (by
        have := kinds_ne HS9.out HW9.out.shr (by decide)
        simpa using this))
      have HTR2 := hid (textR_fn HS10.out)
      have HF2 := hid (face_fn hv10)
      have HFR2 := hid (faceR_fn HS10.out)
      have haw := AW _ HB10.out
      clear ho10 hv10
      go_wp2_with fail
      (with_reducible refine HTR2.out.mono ?_); rintro e w8' ⟨rfl, hw⟩; subst hw
      go_wp2_with fail
      (with_reducible refine HF2.out.mono ?_); rintro e w8' ⟨rfl, hw⟩; subst hw
      go_wp2_with fail
      (with_reducible refine HFR2.out.mono ?_); rintro e w8' ⟨rfl, hw⟩; subst hw
      go_wp2_with fail
      (with_reducible refine haw.out.mono ?_); rintro e w11 ⟨rfl, hb11⟩
      have HB11 := hid (HB10.out.trans (hb11.mono HB10.out.size))
      clear hb11
      go_wp2
      go_ret
      exact ⟨rfl, HB11.out⟩
    · simp only [if_neg he] at HON HNR
      have hne0 : (er != 0) = true := by rw [bne_iff_ne]; exact he
      have hne1 : (er == 0) = false := by rw [beq_eq_false_iff_ne]; exact he
      have HON := hid HON
      have HNR := hid HNR
      clear he
      go_wp2_with fail
      (with_reducible refine HON.out.mono ?_); rintro e w5 ⟨hb5, rfl⟩
      have HB5 := hid (HB4.out.trans (hb5.mono hz4))
      have HV5 := hid (HV4.out.on hb5)
      have HR5 := hid (HR4.out.on hb5)
      clear hb5
      go_wp2_with fail
      (with_reducible refine (HNR.out _).mono ?_); rintro e w6 ⟨hb6, rfl⟩
      have hz5 := HB5.out.size
      have HB6 := hid (HB5.out.trans (hb6.mono hz5))
      have HV6 := hid (HV5.out.on hb6)
      have HR6 := hid (HR5.out.on hb6)
      have HLV := hid (listV_fn HV6.out (HM.out.below HB6.out) HSM.out.1 HSM.out.2)
      clear hb6
      have HLV := hid (show Calls Tryz.prog 21 #[.pointer (some ⟨vb, 0, none⟩)] w6 fun e w' => ∃ u fv' told', e = .returned (.tuple #[u, .int .i64 0]) ∧ RowS w6.heap.size w' u l ∧ Only [vb, sb] w6 w' ∧ ValAt vb sb w' fv' Q told' 1 (.list l) ∧ (false = true → told' = true) from HLV.out)
      go_wp2_with fail
      (with_reducible refine HLV.out.mono ?_); rintro e w7 ⟨u, fv7, td7, rfl, hr7, ho7, hv7, _⟩
      have HB7 := hid (HLL.out _ _ HB6.out ho7)
      have HV7 := hid hv7
      have HR7 := hid (HR6.out.only ho7 (kind3 HV6.out HR6.out))
      have HU7 := hid hr7
      obtain ⟨a7, c7, e7⟩ := hr7.shape
      obtain ⟨n7, hn7⟩ : ∃ n, n = l.length := ⟨_, rfl⟩
      rw [← hn7] at e7
      subst e7
      have HT := hid (text_fn HV7.out (HM.out.below HB7.out))
      clear hr7 ho7 hv7 hn7
      go_wp2_with fail
      (with_reducible refine HT.out.mono ?_); rintro e w8 ⟨rfl, ho8, hv8⟩
      have ho8' : Only [vb, sb] w7 w8 := ho8.more (by simp)
      have HB8 := hid (HLL.out _ _ HB7.out ho8')
      have HV8 := hid hv8
      have HR8 := hid (HR7.out.only ho8' (kind3 HV7.out HR7.out))
      have HU8 := hid (show RowS w6.heap.size w8 (.slice a7 n7 c7) l from ownsRow_heap2 HU7.out fun g cur hg hc => ho8.cells hc (by
        have := kinds_ne hc HV7.out.shr (by decide)
        simpa using this))
      have HTR := hid (textR_fn HR8.out)
      clear ho8 ho8' hv8 HT
      go_wp2_with fail
      (with_reducible refine HTR.out.mono ?_); rintro e w8' ⟨rfl, hw⟩; subst hw
      have HF := hid (face_fn HV8.out)
      have HFR := hid (faceR_fn HR8.out)
      have HSA := hid (same_fn HU8.out.strs (HV.out.below HB8.out) (by omega))
      go_wp2_with fail
      (with_reducible refine HF.out.mono ?_); rintro e w8' ⟨rfl, hw⟩; subst hw
      go_wp2_with fail
      (with_reducible refine HFR.out.mono ?_); rintro e w8' ⟨rfl, hw⟩; subst hw
      go_wp2_with fail
      (with_reducible refine HSA.out.mono ?_); rintro e w9 ⟨rfl, hb9⟩
      have hz8 := HB8.out.size
      have HB9 := hid (HB8.out.trans (hb9.mono hz8))
      have haw := AW _ HB9.out
      clear hb9
      go_wp2_with fail
      (with_reducible refine haw.out.mono ?_); rintro e w11 ⟨rfl, hb11⟩
      have HB11 := hid (HB9.out.trans (hb11.mono HB9.out.size))
      clear hb11
      go_wp2
      go_ret
      exact ⟨rfl, HB11.out⟩
  · rw [decide_eq_false hlt] at hL
    clear hlt hb
    go_enter Tryz.func4, Tryz.ntmps4
    go_wp2_with fail
    rw [← HW1.out]
    (with_reducible refine hL.out.mono ?_); rintro e w2 ⟨rfl, hb2⟩
    have hbb := HB1.out.trans (hb2.mono HB1.out.size)
    have haw := AW _ hbb
    have HBB := hid hbb
    clear hb2 hbb hL
    go_wp2_with fail
    (with_reducible refine haw.out.mono ?_); rintro e w3 ⟨rfl, hb3⟩
    have HB9 := hid (HBB.out.trans (hb3.mono HBB.out.size))
    clear hb3
    go_wp2
    go_ret
    exact ⟨rfl, HB9.out⟩
end Go.Proofs.YtabhkoklcjhlpaaGreatDoor.Pz
/-
  ValueMakes: the row and its card (the second form: arguments of bulk at most 1048576). Condition: the listed package-level variables hold what the row lists (the card ties them to the text).
-/
namespace Go.Proofs.YtabhkoklcjhlpaaGreatDoor.valueMakes
open Go.ChangeMaps Go.ChangeShapes Go.WideShapes Go.ChangeAt Go.RowKit
theorem own : ownKnob Tryz.prog.godebug = none := by kernel_rfl
theorem ok_true {P : Program} {W' : World} {f : Func} {t : TypeId} (hr : f.resultTypes = #[t]) (ht : P.underlying t = some .bool) :
    ∀ (j : Nat) (t' : TypeId) (r : Value), f.resultTypes[j]? = some t' → ((Value.bool true).resultList f.resultTypes.size)[j]? = some r → Value.okWide P W' .any 0 t' r := ok_one hr rfl (okWide_bool_mk ht true)
section
variable {H : Type} {enc : TypeId × Value → H}
/-- the row's last step: the arguments' places read as they did, no variable is asked, what lay below is as it was -/
theorem post_rows {f : Func} {s : ChangeSpec} {W W' : World} {args : Array Value} {v : Value} {ds gs : List (DataW H)} {before pa : List MemPlace}
    (hW : DataW.Whole enc Tryz.prog f.params.toList s.vars false W args.toList ds gs before)
    (hres : ∀ (b : Nat) (sp : Nat → Bool) (hd : Bool), DataW.TrodAll enc Tryz.prog W' b sp hd f.resultTypes.toList (v.resultList f.resultTypes.size) (s.fn H (ds ++ gs)).results [])
    (hargs : DataW.TrodAll enc Tryz.prog W' 0 (fun b => decide (b < W.heap.size)) true f.params.toList args.toList (s.fn H (ds ++ gs)).args pa)
    (hvars : ∀ sp : Nat → Bool, DataW.TrodVars enc Tryz.prog W' sp s.vars (s.fn H (ds ++ gs)).vars []) (hb : Below W.heap.size W W') :
    s.post enc Tryz.prog f false true false false W args v W' :=
  ⟨ds, gs, before, [], pa, [], hW, hres _ _ _, hargs, hvars _, hb.frame _, fun h => by cases h⟩
theorem laidOut : laidOutB Tryz.prog = true := by kernel_rfl
theorem getD_data (ss : List ByteArray) (n i : Nat) (h : i < ((ss.take n).map (fun x : ByteArray => x.data.toList)).length) : (.string (ss.getD i ByteArray.empty) : Value) = .string ⟨(((ss.take n).map (fun x : ByteArray => x.data.toList))[i]).toArray⟩ := by
  simp only [List.length_map, List.length_take] at h
  have h1 : i < ss.length := by omega
  rw [List.getElem_map, List.getElem_take, List.getD_eq_getElem?_getD, List.getElem?_eq_getElem h1]
  cases ss[i]
  simp
theorem bulk_strs (ss : List ByteArray) : Rows.uptoBulkAll (strs (H := H) ss) = Pz.sumS (ss.map (·.data.toList)) := by
  induction ss with
  | nil => rfl
  | cons a ss ih =>
    show a.data.toList.length + 1 + Rows.uptoBulkAll (strs (H := H) ss) = a.data.toList.length + 1 + Pz.sumS (ss.map (·.data.toList))
    rw [ih]
end
theorem contract (H : Type) (enc : TypeId × Value → H) (W : World) (base : Nat) (args : Array Value) (ds gs : List (DataW H)) (before : List MemPlace)
    (hval : ∀ (j : Nat) t v, Tryz.f4.params[j]? = some t → args[j]? = some v → Value.okWide Tryz.prog W .any base t v)
    (hW : DataW.Whole enc Tryz.prog Tryz.f4.params.toList Rows.valueMakesSpec.vars false W args.toList ds gs before) (hk : Rows.uptoSmall H (ds ++ gs) = true) (hml : Pz.ML W) :
    Calls Tryz.prog 4 args W fun e W' => ∃ v, e = .returned v ∧ Rows.valueMakesSpec.post enc Tryz.prog Tryz.f4 false true false false W args v W' := by
  have hW' := hW
  obtain ⟨p, q, hA0, hV, rfl, hfz, hnd⟩ := hW
  have hA : DataW.TrodAll enc Tryz.prog W 0 (fun _ => true) true Tryz.f4.params.toList args.toList ds p := hA0
  rw [Tryz.params4] at hA hval
  obtain ⟨v0, vs0, d0, ds0, p0, q0, hargs, rfl, rfl, h0, r0⟩ := trodAll_cons hA
  obtain ⟨v1, vs1, d1, ds1, p1, q1, rfl, rfl, rfl, h1, r1⟩ := trodAll_cons r0
  obtain ⟨rfl, rfl, rfl⟩ := trodAll_nil r1
  obtain rfl : args = #[v0, v1] := by cases args; simp_all
  obtain ⟨rfl, rfl⟩ := trodVars_none hV
  obtain ⟨a0, n0, c0, rfl⟩ := okWide_slice Tryz.underlying22 (by with_reducible exact hval 0 22 v0 (by simp) (by simp))
  have h0k := h0
  obtain ⟨fuel, hf⟩ := h0
  obtain ⟨s1, rfl, rfl, rfl, m1⟩ := open_string Tryz.underlying9 (by with_reducible exact hval 1 9 v1 (by simp) (by simp)) h1
  clear hA0
  simp only [List.append_nil, List.nil_append] at hW' hk
  have hlt : ∀ x ∈ p0, x.block < W.heap.size := fun x hx => by simpa using hW'.lt x (by simp [hx])
  have e1 : s1 = ⟨s1.data.toList.toArray⟩ := by cases s1; simp
  have fin : ∀ l : List Pz.Str, Pz.StrsAt W (.slice a0 n0 c0) l → s1.data.toList.length + 1 + Pz.sumS l ≤ 2000000 →
      Calls Tryz.prog 4 #[.slice a0 n0 c0, .string s1] W fun e W' => ∃ v, e = .returned v ∧ Rows.valueMakesSpec.post enc Tryz.prog Tryz.f4 false true false false W #[.slice a0 n0 c0, .string s1] v W' := by
    intro l hl hb
    have walk := Pz.valueMakes_fn l s1.data.toList _ W hml hl (by omega)
    rw [← e1] at walk
    refine walk.mono fun e W' ⟨he, hg⟩ => ?_
    subst he
    exact ⟨_, rfl, post_rows hW' (fun _ _ _ => trodAll_cons_mk (shut_bool Tryz.underlying4 _) trodAll_mk0) (trodAll_cons_mk (Below.trod laidOut (by kernel_rfl) (of_decide_eq_true (by kernel_rfl)) h0k hg hlt) (trodAll_cons_mk (shut_string Tryz.underlying9 m1) (trodAll_mk0))) (fun _ => rfl) hg⟩
  have hb := of_decide_eq_true hk
  rcases open_strings Tryz.underlying22 Tryz.underlying9 (by kernel_rfl) hf with ⟨hcs, hx⟩ | ⟨a, len', cap', ss, hcs, _, hl, hm, hz, hx, hcell, hws⟩
  · simp [Value.cells] at hcs
    obtain ⟨rfl, rfl, rfl⟩ := hcs
    simp only [Prod.mk.injEq] at hx
    obtain ⟨rfl, rfl⟩ := hx
    simp only [Rows.uptoBulkAll, Rows.uptoBulk] at hb
    exact fin [] ⟨none, 0, rfl, Nat.le_refl _, fun i hi => absurd hi (by simp)⟩ (by simp only [Pz.sumS]; omega)
  · simp [Value.cells] at hcs
    obtain ⟨rfl, rfl, rfl⟩ := hcs
    simp only [Prod.mk.injEq] at hx
    obtain ⟨rfl, rfl⟩ := hx
    simp only [if_true] at hz
    have hln : ((ss.take n0).map (·.data.toList)).length = n0 := by rw [List.length_map, List.length_take]; omega
    refine fin ((ss.take n0).map (·.data.toList)) ⟨some a, c0, by rw [hln], by rw [hln]; exact hl, fun i hi => ⟨a, rfl, ?_, ?_⟩⟩ ?_
    · obtain ⟨b, off, spot⟩ := a
      rw [hln] at hi
      have hc0 := hcell 0 (by omega)
      have hspot : spot = none := by simpa [Addr.add] using World.cell?_spot hc0
      subst hspot
      exact hlt (.cell b off) (MemPlace.mem_row.2 ⟨0, by omega, by simp⟩)
    · rw [hcell i (by rw [hln] at hi; omega), getD_data ss n0 i hi]
    · simp only [Rows.uptoBulkAll, Rows.uptoBulk] at hb
      rw [bulk_strs, bulk_strs] at hb
      omega
theorem reads (os : Os) {H : Type} (enc : TypeId × Value → H) : ∃ places, DataW.whole enc Tryz.prog ((World.laidAll Tryz.prog os Rows.valueMakesUptoRow.laid).forCall (fun _ _ => 0) ⟨#[], #[.slice none 0 0, .string .empty], []⟩).memory Tryz.f4.params.toList Rows.valueMakesSpec.vars false (#[.slice none 0 0, .string .empty] : Array Value).toList 8 = some ([.nil, .lit (.string [])], [], places) :=
  ⟨[], by kernel_rfl⟩
set_option maxRecDepth 100000 in
theorem lifted (os : Os) (started : os.Started) (H : Type) (enc : TypeId × Value → H) (F : Stop.Interp) :
    ReturnsInHanded {} Tryz.checked os 4 .any ((Rows.OpenSpec.upto Rows.valueMakesSpec).preRow enc Tryz.prog Tryz.f4 Rows.valueMakesUptoRow.domain false Rows.valueMakesUptoRow.laid) (((Rows.OpenSpec.upto Rows.valueMakesSpec).at F).post enc Tryz.prog Tryz.f4 false true false false) := by
  obtain ⟨places, hx⟩ := reads os enc
  have hl : laidMetH Tryz.prog Rows.valueMakesUptoRow.laid ((World.laidAll Tryz.prog os Rows.valueMakesUptoRow.laid).forCall (fun _ _ => 0) ⟨#[], #[.slice none 0 0, .string .empty], []⟩).memory := by
    rw [MakeChecks.laidMetH_plain _ _ _ (by kernel_rfl)]
    exact laidMet_laidAll _ (by kernel_rfl) (by kernel_rfl)
  refine returnsInHanded_of_row (C := Tryz.checked) (s := (Rows.OpenSpec.upto Rows.valueMakesSpec)) own started (by kernel_rfl) Tryz.func4
    (witness_row_at (enc := enc) (C := Tryz.checked) false (World.laidAll Tryz.prog os Rows.valueMakesUptoRow.laid) #[.slice none 0 0, .string .empty] (World.laidAll_os _ _ _) (by kernel_rfl) (by kernel_rfl) (by kernel_rfl)
      (OpenSpec.preRow_of_cond 8 hx (by kernel_rfl) (fun k hk => by cases hk; kernel_rfl) (by kernel_rfl) hl)) ?_
  intro W base args ds gs before hval hW _ hcond _ _ hsh _
  exact contract H enc W base args ds gs before hval hW (hcond _ rfl) (cell_of_shapedOpen_int (t := 3) (zero := #[.int .i64 0]) hsh (of_decide_eq_true (by kernel_rfl)) (by kernel_rfl) rfl (by kernel_rfl) (by kernel_rfl) Tryz.underlying3)
theorem said : Rows.ValueMakesUptoSaid :=
  OpenClaim.holds_of_cond 4 Tryz.f4 rfl rfl rfl rfl rfl rfl rfl ⟨rfl, rfl, rfl, rfl, rfl⟩ rfl rfl rfl rfl rfl (by kernel_rfl) Tryz.func4 (by kernel_rfl)
    (of_decide_eq_true (by kernel_rfl)) (by unfold Func.isWrapper; first | (rw [if_pos (by decide +kernel)]; kernel_rfl) | (rw [if_neg (by decide +kernel)]; exact ⟨rfl, rfl⟩))
    (fun os started H enc _ F => by rw [OpenClaim.pre_eq_preRow]; exact lifted os started H enc F)
theorem plain (f : FuncId) (fn : Func) (hf : Tryz.pinned.checked.prog.funcNamed "threadbare/threadbarelaw05.ValueMakes" = some f) (hfn : Tryz.pinned.checked.prog.funcs[f]? = some fn) :
    true = Tryz.pinned.checked.prog.looks [] ∧ ∀ (j : Nat) t, fn.params[j]? = some t → Tryz.pinned.checked.prog.wantsStandIn t = false := by
  obtain rfl : f = 4 := Option.some.inj ((show Tryz.prog.funcNamed "threadbare/threadbarelaw05.ValueMakes" = some 4 by kernel_rfl).symm.trans hf) |>.symm
  obtain rfl : fn = Tryz.f4 := (Option.some.inj (Tryz.func4.symm.trans hfn)).symm
  refine ⟨by kernel_rfl, fun j t ht => ?_⟩
  rw [Tryz.params4] at ht
  have ht := Array.mem_of_getElem? ht
  simp at ht
  rcases ht with rfl | rfl
  · exact (show Tryz.prog.wantsStandIn 22 = false by kernel_rfl)
  · exact (show Tryz.prog.wantsStandIn 9 = false by kernel_rfl)
theorem card : Rows.ValueMakesUptoCardSaid :=
  Claim7.holds_tied_plain_at .later [] _ _ _ _ said (fun _ h => by cases h) (by kernel_rfl) (fun _ h => by cases h) valueMakesUpto_row_tie rfl ⟨rfl, rfl⟩ (by kernel_rfl) rfl plain (by kernel_rfl)
end Go.Proofs.YtabhkoklcjhlpaaGreatDoor.valueMakes
