/-
  BinaryUnpacksCard: the law's card and what it alone needs, merged from 2 texts. Conditions: the row's own.
-/
import Derived.Test.YtihdndaibmgoiaaGreatDoorCards
import Derived.Test.YtihdndaibmgoiaaGreatDoorTie
import Derived.Deep.DeepHandedRow
import Derived.ProofKit
import Derived.OpenShut
import Derived.Lay
import Derived.Stop.LaidErr
import Derived.Lib.LaidTab
import Derived.MakeChecks
import Derived.ChangeMaps5
import Derived.Test.YtihdndaibmgoiaaGreatDoorK0
import Derived.Test.YtihdndaibmgoiaaGreatDoorK1
import Derived.Test.YtihdndaibmgoiaaGreatDoorK2
import Derived.Test.YtihdndaibmgoiaaGreatDoorK3
import Derived.Test.YtihdndaibmgoiaaGreatDoorK4
import Derived.Test.YtihdndaibmgoiaaGreatDoorK5
import Derived.Test.YtihdndaibmgoiaaGreatDoorK6
import Derived.Test.YtihdndaibmgoiaaGreatDoorK7
import Derived.Test.YtihdndaibmgoiaaGreatDoorK8
import Derived.Test.YtihdndaibmgoiaaGreatDoorK9
import Derived.Test.YtihdndaibmgoiaaGreatDoorK10
import Derived.Test.YtihdndaibmgoiaaGreatDoorK11
import Derived.Test.YtihdndaibmgoiaaGreatDoorK12
import Derived.Test.YtihdndaibmgoiaaGreatDoorK13
import Derived.Test.YtihdndaibmgoiaaGreatDoorK14
import Derived.Test.YtihdndaibmgoiaaGreatDoorK15
import Derived.Test.YtihdndaibmgoiaaGreatDoorK16
/-
  Laws 10: BinaryUnpacks.
-/
namespace Go.Proofs.YtihdndaibmgoiaaGreatDoor.Pz
open Go.RowKit
attribute [local go_sem] Oper.semAt_some
theorem unpackGo_len : ∀ (fs : List Fld) (s : Str) (a : Nat) (l : List Str), (unpackGo fs s a l).1.length ≤ l.length + fs.length
  | [], s, a, l => by rw [unpackGo]; exact Nat.le_refl _
  | f :: fs, s, a, l => by
    rw [unpackGo]
    dsimp only
    rw [List.length_cons]
    by_cases c1 : (f.letter == 64) = true
    · rw [if_pos c1]
      by_cases c2 : s.length < (if f.count = -2 then s.length else f.count.toNat)
      · rw [if_pos c2]
        show l.length ≤ _
        omega
      · rw [if_neg c2]
        have := unpackGo_len fs s (if f.count = -2 then s.length else f.count.toNat) l
        omega
    · rw [if_neg c1]
      split
      · show l.length ≤ _
        omega
      · refine Nat.le_trans (unpackGo_len fs s _ _) ?_
        split
        · rw [List.length_append]
          show l.length + 1 + fs.length ≤ _
          omega
        · omega
theorem unpackRes_len (y s : Str) : (unpackRes y s).1.length ≤ y.length := by
  unfold unpackRes
  split
  · have h1 := unpackGo_len (fldsE y) s 0 []
    have h2 := flds_len _ y (Nat.le_refl _)
    simp only [List.length_nil] at h1
    dsimp only
    omega
  · simp
set_option maxRecDepth 100000 in
set_option maxHeartbeats 8000000 in
theorem binaryUnpacks_fn (y s : Str) (w : World) (hy : y.length ≤ 4000000) (hs : s.length ≤ 4000000) (htab : Tab w) :
    Calls Tryz.prog 5 #[.string ⟨y.toArray⟩, .string ⟨s.toArray⟩] w fun e w' => e = .returned (.bool true) ∧ Below w.heap.size w w' := by
  obtain ⟨w0, hw0⟩ : ∃ w0, w0 = w.alloc (.cells #[.string ⟨y.toArray⟩, .string ⟨s.toArray⟩] 9) := ⟨_, rfl⟩
  have HB0 := hid (show Below w.heap.size w w0 by rw [hw0]; exact belowA _ _)
  have HW0 := hid hw0
  obtain ⟨b, hb⟩ : ∃ b, b = lightB 2500 [y, s] := ⟨_, rfl⟩
  have HL := hid (show Calls Tryz.prog 10 #[.int .i64 2500, .slice (some ⟨w.heap.size, 0, none⟩) 2 2] w0 fun e w' => e = .returned (.bool b) ∧ w' = w0 by
    rw [hb, hw0]
    exact light_fn 2500 (strs_new w [y, s]) (by simp only [sumT]; omega) (by show 2 ≤ 10000000; omega))
  have HA := hid (fun u (hu : Tab u) => awake_fn u hu)
  have HT := hid htab
  clear htab hw0
  cases b with
  | false =>
    clear hb hy hs
    go_enter Tryz.func5, Tryz.ntmps5
    go_wp2_with (first | (go_at_call 10; rw [← HW0.out]; (with_reducible refine HL.out.mono ?_); rintro e w1 ⟨rfl, rfl⟩) | (go_at_call 11; (with_reducible refine (HA.out _ (HT.out.below HB0.out)).mono ?_); rintro e w1 ⟨rfl, hb1⟩; have HB1 := hid (HB0.out.trans (hb1.mono HB0.out.size)); clear hb1))
    go_ret
    exact ⟨rfl, HB1.out⟩
  | true =>
    have hsum : y.length + s.length ≤ 2500 := by
      have h := hb.symm
      unfold lightB at h
      rw [Bool.and_eq_true] at h
      have h2 : ((sumT [y, s] : Nat) : Int) ≤ 2500 := of_decide_eq_true h.1
      simp only [sumT] at h2
      omega
    have h1 := fun u hu => unpack_fn y s (by omega) (by omega) u hu
    have h2 := fun u hu => unpackR_fn y s (by omega) (by omega) u hu
    have hlen := unpackRes_len y s
    unfold UnpackQ at h1 h2
    obtain ⟨l, hl⟩ : ∃ l, l = (unpackRes y s).1 := ⟨_, rfl⟩
    obtain ⟨d, hd⟩ : ∃ d, d = (unpackRes y s).2.1 := ⟨_, rfl⟩
    obtain ⟨z, hz⟩ : ∃ z, z = (unpackRes y s).2.2 := ⟨_, rfl⟩
    rw [← hl] at hlen
    rw [← hl, ← hd, ← hz] at h1 h2
    have H1 := hid h1
    have H2 := hid h2
    have HLL := hid (show l.length ≤ 10000000 by omega)
    clear hb hy hs hl hd hz hlen h1 h2 hsum
    go_enter Tryz.func5, Tryz.ntmps5
    go_wp2_with (first | (go_at_call 10; rw [← HW0.out]; (with_reducible refine HL.out.mono ?_); rintro e w1 ⟨rfl, rfl⟩) | (go_at_call 22; (with_reducible refine (H1.out _ (HT.out.below HB0.out)).mono ?_); rintro e w1 ⟨v1, rfl, hr1, hb1⟩; have HR1 := hid hr1; have HB1 := hid (HB0.out.trans (hb1.mono HB0.out.size)); clear hr1 hb1) | (go_at_call 28; (with_reducible refine (H2.out _ (HT.out.below HB1.out)).mono ?_); rintro e w2 ⟨v2, rfl, hr2, hb2⟩; have HR2 := hid hr2; have HR12 := hid (HR1.out.on hb2); have HB2 := hid (HB1.out.trans (hb2.mono HB1.out.size)); clear hr2 hb2) | (go_at_call 23; refine (sameG_fn HR12.out.strs HR2.out.strs HLL.out HLL.out).mono ?_; rw [decide_eq_true rfl]; rintro e w3 ⟨rfl, hb3⟩; have HB3 := hid (HB2.out.trans (hb3.mono HB2.out.size)); clear hb3) | (go_at_call 11; (with_reducible refine (HA.out _ (HT.out.below HB3.out)).mono ?_); rintro e w4 ⟨rfl, hb4⟩; have HB4 := hid (HB3.out.trans (hb4.mono HB3.out.size)); clear hb4))
    go_ret
    exact ⟨rfl, HB4.out⟩
end Go.Proofs.YtihdndaibmgoiaaGreatDoor.Pz
/-
  BinaryUnpacks: the row and its card (the second form: arguments of bulk at most 1048576). Condition: the listed package-level variables hold what the row lists (the card ties them to the text).
-/
namespace Go.Proofs.YtihdndaibmgoiaaGreatDoor.binaryUnpacks
open Go.ChangeMaps Go.ChangeShapes Go.WideShapes Go.ChangeAt Go.RowKit
theorem own : ownKnob Tryz.prog.godebug = none := by kernel_rfl
theorem ok_true {P : Program} {W' : World} {f : Func} {t : TypeId} (hr : f.resultTypes = #[t]) (ht : P.underlying t = some .bool) :
    ∀ (j : Nat) (t' : TypeId) (r : Value), f.resultTypes[j]? = some t' → ((Value.bool true).resultList f.resultTypes.size)[j]? = some r → Value.okWide P W' .any 0 t' r := ok_one hr rfl (okWide_bool_mk ht true)
section
variable {H : Type} {enc : TypeId × Value → H}
set_option maxRecDepth 100000 in
/-- the row's last step: no place was read, no variable is asked, what lay below is as it was -/
theorem post_below {f : Func} {s : ChangeSpec} {W W' : World} {args : Array Value} {v : Value} {ds gs : List (DataW H)}
    (hW : DataW.Whole enc Tryz.prog f.params.toList s.vars false W args.toList ds gs [])
    (hres : ∀ (b : Nat) (sp : Nat → Bool) (hd : Bool), DataW.TrodAll enc Tryz.prog W' b sp hd f.resultTypes.toList (v.resultList f.resultTypes.size) (s.fn H (ds ++ gs)).results [])
    (hargs : ∀ sp : Nat → Bool, DataW.TrodAll enc Tryz.prog W' 0 sp true f.params.toList args.toList (s.fn H (ds ++ gs)).args [])
    (hvars : ∀ sp : Nat → Bool, DataW.TrodVars enc Tryz.prog W' sp s.vars (s.fn H (ds ++ gs)).vars []) (hb : Below W.heap.size W W')
    (hok : ∀ (j : Nat) (t : TypeId) (r : Value), f.resultTypes[j]? = some t → (v.resultList f.resultTypes.size)[j]? = some r → Value.okWide Tryz.prog W' .any 0 t r) :
    s.post enc Tryz.prog f false true false false W args v W' := by
  refine ⟨ds, gs, [], [], [], [], hW, hres _ _ _, hargs _, hvars _, World.keptBut_mono (fun p hp => ⟨hp, .inr (.inr hp)⟩) (hb.frame (· ∈ ([] : List MemPlace))), fun _ => ?_⟩
  refine ⟨hok, _, _, ([] ++ []) ++ [], ⟨[] ++ [], [], trodAll_append (hargs _) (hres _ _ _), hvars _, rfl, ?_, ?_⟩, ?_⟩
  · intro b off hp
    simp at hp
  · intro h
    cases h
  · intro p hp _
    simp at hp
end
theorem tab_of {W : World} (hl : laidMetH Tryz.prog Rows.binaryUnpacksUptoRow.laid W) : Lib.TabIs Tryz.prog W "internal/strconv.uint64pow10" .u64 Lib.pow10Tab := by
  rw [MakeChecks.laidMetH_plain _ _ _ (by kernel_rfl)] at hl
  have h3 := hl.tail.tail
  have e : (Rows.laid_internal_strconv_uint64pow10 : DataW Unit) = Lib.tabData .u64 Lib.pow10Tab := by kernel_rfl
  have h4 : laidMet Tryz.prog (("internal/strconv.uint64pow10", Lib.tabData .u64 Lib.pow10Tab) :: [("unicode/utf8.acceptRanges", Rows.laid_unicode_utf8_acceptRanges), ("strconv.ErrRange", Rows.laid_strconv_ErrRange), ("strconv.ErrSyntax", Rows.laid_strconv_ErrSyntax), ("unicode/utf8.first", Rows.laid_unicode_utf8_first)]) W := by
    rw [← e]; exact h3
  exact Lib.tabIs_of_head (g := 4) (t := 195) (e := 44) (n := 20) (by kernel_rfl) (by kernel_rfl) (by kernel_rfl) (by kernel_rfl) (by kernel_rfl) (by kernel_rfl) h4
theorem contract (H : Type) (enc : TypeId × Value → H) (W : World) (base : Nat) (args : Array Value) (ds gs : List (DataW H)) (before : List MemPlace)
    (hval : ∀ (j : Nat) t v, Tryz.f5.params[j]? = some t → args[j]? = some v → Value.okWide Tryz.prog W .any base t v)
    (hW : DataW.Whole enc Tryz.prog Tryz.f5.params.toList Rows.binaryUnpacksSpec.vars false W args.toList ds gs before) (hl : laidMetH Tryz.prog Rows.binaryUnpacksUptoRow.laid W) (hk : Rows.uptoSmall H (ds ++ gs) = true) :
    Calls Tryz.prog 5 args W fun e W' => ∃ v, e = .returned v ∧ Rows.binaryUnpacksSpec.post enc Tryz.prog Tryz.f5 false true false false W args v W' := by
  have hW' := hW
  obtain ⟨p, q, hA0, hV, rfl, hfz, hnd⟩ := hW
  have hA : DataW.TrodAll enc Tryz.prog W 0 (fun _ => true) true Tryz.f5.params.toList args.toList ds p := hA0
  rw [Tryz.params5] at hA hval
  obtain ⟨v0, vs0, d0, ds0, p0, q0, hargs, rfl, rfl, h0, r0⟩ := trodAll_cons hA
  obtain ⟨v1, vs1, d1, ds1, p1, q1, rfl, rfl, rfl, h1, r1⟩ := trodAll_cons r0
  obtain ⟨rfl, rfl, rfl⟩ := trodAll_nil r1
  obtain rfl : args = #[v0, v1] := by cases args; simp_all
  obtain ⟨rfl, rfl⟩ := trodVars_none hV
  obtain ⟨s0, rfl, rfl, rfl, m0⟩ := open_string Tryz.underlying9 (by with_reducible exact hval 0 9 v0 (by simp) (by simp)) h0
  obtain ⟨s1, rfl, rfl, rfl, m1⟩ := open_string Tryz.underlying9 (by with_reducible exact hval 1 9 v1 (by simp) (by simp)) h1
  clear hA0
  simp only [List.append_nil] at hW' hk
  have h := of_decide_eq_true hk
  simp only [Rows.uptoBulkAll, Rows.uptoBulk] at h
  have e0 : s0 = ⟨s0.data.toList.toArray⟩ := by cases s0; simp
  have e1 : s1 = ⟨s1.data.toList.toArray⟩ := by cases s1; simp
  have htab := tab_of hl
  have walk := Pz.binaryUnpacks_fn s0.data.toList s1.data.toList W (by omega) (by omega) htab
  rw [← e0, ← e1] at walk
  refine walk.mono fun e W' ⟨he, hg⟩ => ?_
  subst he
  exact ⟨_, rfl, post_below hW' (fun _ _ _ => trodAll_cons_mk (shut_bool Tryz.underlying4 _) trodAll_mk0) (fun _ => trodAll_cons_mk (shut_string Tryz.underlying9 m0) (trodAll_cons_mk (shut_string Tryz.underlying9 m1) trodAll_mk0)) (fun _ => rfl) hg (@ok_true Tryz.prog W' Tryz.f5 4 (by kernel_rfl) Tryz.underlying4)⟩
theorem reads (os : Os) {H : Type} (enc : TypeId × Value → H) : ∃ places, DataW.whole enc Tryz.prog ((World.laidAll Tryz.prog os Rows.binaryUnpacksUptoRow.laid).forCall (fun _ _ => 0) ⟨#[], #[.string .empty, .string .empty], []⟩).memory Tryz.f5.params.toList Rows.binaryUnpacksSpec.vars false (#[.string .empty, .string .empty] : Array Value).toList 8 = some ([.lit (.string []), .lit (.string [])], [], places) :=
  ⟨[], by kernel_rfl⟩
set_option maxRecDepth 100000 in
theorem lifted (os : Os) (started : os.Started) (H : Type) (enc : TypeId × Value → H) (F : Stop.Interp) :
    ReturnsInHanded {} Tryz.checked os 5 .any ((Rows.OpenSpec.upto Rows.binaryUnpacksSpec).preRow enc Tryz.prog Tryz.f5 Rows.binaryUnpacksUptoRow.domain false Rows.binaryUnpacksUptoRow.laid) (((Rows.OpenSpec.upto Rows.binaryUnpacksSpec).at F).post enc Tryz.prog Tryz.f5 false true false false) := by
  obtain ⟨places, hx⟩ := reads os enc
  have hl : laidMetH Tryz.prog Rows.binaryUnpacksUptoRow.laid ((World.laidAll Tryz.prog os Rows.binaryUnpacksUptoRow.laid).forCall (fun _ _ => 0) ⟨#[], #[.string .empty, .string .empty], []⟩).memory := by
    rw [MakeChecks.laidMetH_plain _ _ _ (by kernel_rfl)]
    exact laidMet_laidAll _ (by kernel_rfl) (by kernel_rfl)
  refine returnsInHanded_of_row (C := Tryz.checked) (s := (Rows.OpenSpec.upto Rows.binaryUnpacksSpec)) own started (by kernel_rfl) Tryz.func5
    (witness_row_at (enc := enc) (C := Tryz.checked) false (World.laidAll Tryz.prog os Rows.binaryUnpacksUptoRow.laid) #[.string .empty, .string .empty] (World.laidAll_os _ _ _) (by kernel_rfl) (by kernel_rfl) (by kernel_rfl)
      (OpenSpec.preRow_of_cond 8 hx (by kernel_rfl) (fun k hk => by cases hk; kernel_rfl) (by kernel_rfl) hl)) ?_
  intro W base args ds gs before hval hW _ hcond _ hlaid _ _
  exact contract H enc W base args ds gs before hval hW hlaid (hcond _ rfl)
theorem said : Rows.BinaryUnpacksUptoSaid :=
  OpenClaim.holds_of_cond 5 Tryz.f5 rfl rfl rfl rfl rfl rfl rfl ⟨rfl, rfl, rfl, rfl, rfl⟩ rfl rfl rfl rfl rfl (by kernel_rfl) Tryz.func5 (by kernel_rfl)
    (of_decide_eq_true (by kernel_rfl)) (by unfold Func.isWrapper; first | (rw [if_pos (by decide +kernel)]; kernel_rfl) | (rw [if_neg (by decide +kernel)]; exact ⟨rfl, rfl⟩))
    (fun os started H enc _ F => by rw [OpenClaim.pre_eq_preRow]; exact lifted os started H enc F)
theorem plain (f : FuncId) (fn : Func) (hf : Tryz.pinned.checked.prog.funcNamed "threadbare/threadbarelaw10.BinaryUnpacks" = some f) (hfn : Tryz.pinned.checked.prog.funcs[f]? = some fn) :
    true = Tryz.pinned.checked.prog.looks [] ∧ ∀ (j : Nat) t, fn.params[j]? = some t → Tryz.pinned.checked.prog.wantsStandIn t = false := by
  obtain rfl : f = 5 := Option.some.inj ((show Tryz.prog.funcNamed "threadbare/threadbarelaw10.BinaryUnpacks" = some 5 by kernel_rfl).symm.trans hf) |>.symm
  obtain rfl : fn = Tryz.f5 := (Option.some.inj (Tryz.func5.symm.trans hfn)).symm
  refine ⟨by kernel_rfl, fun j t ht => ?_⟩
  rw [Tryz.params5] at ht
  have ht := Array.mem_of_getElem? ht
  simp at ht
  subst ht
  exact (show Tryz.prog.wantsStandIn 9 = false by kernel_rfl)
theorem card : Rows.BinaryUnpacksUptoCardSaid :=
  Claim7.holds_tied_plain_at .later [] _ _ _ _ said (fun _ h => by cases h) (by kernel_rfl) (fun _ h => by cases h) binaryUnpacksUpto_row_tie rfl ⟨rfl, rfl⟩ (by kernel_rfl) rfl plain (by kernel_rfl)
end Go.Proofs.YtihdndaibmgoiaaGreatDoor.binaryUnpacks
