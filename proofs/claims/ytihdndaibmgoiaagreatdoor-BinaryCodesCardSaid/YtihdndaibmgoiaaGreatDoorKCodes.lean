/-
  BinaryCodesCard: the law's card and what it alone needs, merged from 2 texts. Conditions: the row's own.
-/
import Derived.Test.YtihdndaibmgoiaaGreatDoorCards
import Derived.Test.YtihdndaibmgoiaaGreatDoorTie
import Derived.Deep.DeepHandedRow
import Derived.ProofKit
import Derived.OpenShut
import Derived.Lay
import Derived.Deep.DeepWitnessRowRef
import Derived.Stop.LaidErr
import Derived.Lib.LaidTab
import Derived.MakeChecks
import Derived.ChangeMaps5
import Derived.Test.YtihdndaibmgoiaaGreatDoorK0
import Derived.Test.YtihdndaibmgoiaaGreatDoorK1
import Derived.Test.YtihdndaibmgoiaaGreatDoorK2
import Derived.Test.YtihdndaibmgoiaaGreatDoorK3
import Derived.Test.YtihdndaibmgoiaaGreatDoorK4
import Derived.Test.YtihdndaibmgoiaaGreatDoorK5
import Derived.Test.YtihdndaibmgoiaaGreatDoorK6
import Derived.Test.YtihdndaibmgoiaaGreatDoorK7
import Derived.Test.YtihdndaibmgoiaaGreatDoorK8
import Derived.Test.YtihdndaibmgoiaaGreatDoorK9
import Derived.Test.YtihdndaibmgoiaaGreatDoorK12
import Derived.Test.YtihdndaibmgoiaaGreatDoorK13
/-
  Laws 10: BinaryCodes.
-/
namespace Go.Proofs.YtihdndaibmgoiaaGreatDoor.Pz
open Go.RowKit
attribute [local go_sem] Oper.semAt_some
theorem percE_len : ∀ (s : Str), (percE s).length ≤ 3 * s.length
  | [] => Nat.le_refl _
  | c :: t => by
    have ih := percE_len t
    rw [percE]
    split <;> simp only [List.length_cons] <;> omega
set_option maxRecDepth 100000 in
set_option maxHeartbeats 8000000 in
theorem binaryCodes_fn (s : Str) (w : World) (hs : s.length ≤ 9223372036854775807) (htab : Tab w) :
    Calls Tryz.prog 7 #[.string ⟨s.toArray⟩] w fun e w' => e = .returned (.bool true) ∧ Below w.heap.size w w' := by
  have hsz : (⟨s.toArray⟩ : ByteArray).size = s.length := Lib.size_mk _
  have HA := hid (fun u (hu : Tab u) => awake_fn u hu)
  have HT := hid htab
  clear htab
  by_cases hbig : 1500 < s.length
  · have hbI : (1500 : Int) < (s.length : Int) := by omega
    go_enter Tryz.func7, Tryz.ntmps7
    go_wp2_with (go_at_call 11; refine (HA.out _ HT.out).mono ?_; rintro e w1 ⟨rfl, hb1⟩; have HB1 := hid hb1; clear hb1)
    go_ret
    exact ⟨rfl, HB1.out⟩
  have hbI : ¬ ((1500 : Int) < (s.length : Int)) := by omega
  have h40 := fun u => hex_fn s (by omega) u
  have h41 := fun u => base64_fn s (by omega) u
  have h42 := fun u => percent_fn s (by omega) u
  have h43 := fun u => hexR_fn s (by omega) u
  have h44 := fun u => base64R_fn s (by omega) u
  have h45 := fun u => percentR_fn s (by omega) u
  have hal := hexE_len s
  have hbl := b64E_len s
  have hcl := percE_len s
  have h46 := fun u => unhex_fn (hexE s) (by omega) u
  have h47 := fun u => unbase64_fn (b64E s) (by omega) u
  have h48 := fun u => unpercent_fn (percE s) (by omega) u
  rw [show unhxRes (hexE s) = (s, 0) by unfold unhxRes; rw [unhex_hex]; rfl] at h46
  rw [unb64Res_yes (s := b64E s) rfl] at h47
  rw [show unpRes (percE s) = (s, 0) by unfold unpRes; rw [unp_perc]; rfl] at h48
  obtain ⟨a, ha⟩ : ∃ a, a = hexE s := ⟨_, rfl⟩
  obtain ⟨b, hb⟩ : ∃ b, b = b64E s := ⟨_, rfl⟩
  obtain ⟨c, hc⟩ : ∃ c, c = percE s := ⟨_, rfl⟩
  rw [← ha] at h40 h43 h46 hal
  rw [← hb] at h41 h44 h47 hbl
  rw [← hc] at h42 h45 h48 hcl
  obtain ⟨n, hn⟩ : ∃ n, n = s.length := ⟨_, rfl⟩
  rw [← hn] at hal hbl hcl hbig hbI hsz
  have hasz : (⟨a.toArray⟩ : ByteArray).size = 2 * n := by rw [Lib.size_mk]; exact hal
  obtain ⟨q, hq⟩ : ∃ q, q = (n + 2) / 3 := ⟨_, rfl⟩
  have hbsz : (⟨b.toArray⟩ : ByteArray).size = q * 4 := by rw [Lib.size_mk, hbl, hq]
  have htd : Int.tdiv ((n : Int) + 2) 3 = (q : Int) := by rw [Int.tdiv_eq_ediv_of_nonneg (by omega)]; omega
  have hed : ((n : Int) + 2) / 3 = (q : Int) := by omega
  have hwq : IntKind.i64.wrap (q : Int) = (q : Int) := IntWalk.i64_in _ (by omega)
  have hq9 : q ≤ 1000 := by omega
  have hn9 : n ≤ 1500 := by omega
  have H40 := hid h40
  have H41 := hid h41
  have H42 := hid h42
  have H43 := hid h43
  have H44 := hid h44
  have H45 := hid h45
  have H46 := hid h46
  have H47 := hid h47
  have H48 := hid h48
  clear h40 h41 h42 h43 h44 h45 h46 h47 h48 ha hb hc hn hal hbl hcl hq hbig hs
  go_enter Tryz.func7, Tryz.ntmps7
  go_wp2_with (first | (go_at_call 40; (with_reducible refine (H40.out _).mono ?_); rintro e w0 ⟨rfl, hb⟩; have HB0 := hid hb; clear hb) | (go_at_call 41; (with_reducible refine (H41.out _).mono ?_); rintro e w1 ⟨rfl, hb⟩; have HB1 := hid (HB0.out.trans (hb.mono HB0.out.size)); clear hb) | (go_at_call 42; (with_reducible refine (H42.out _).mono ?_); rintro e w2 ⟨rfl, hb⟩; have HB2 := hid (HB1.out.trans (hb.mono HB1.out.size)); clear hb) | (go_at_call 43; (with_reducible refine (H43.out _).mono ?_); rintro e w3 ⟨rfl, hb⟩; have HB3 := hid (HB2.out.trans (hb.mono HB2.out.size)); clear hb) | (go_at_call 44; (with_reducible refine (H44.out _).mono ?_); rintro e w4 ⟨rfl, hb⟩; have HB4 := hid (HB3.out.trans (hb.mono HB3.out.size)); clear hb) | (go_at_call 45; (with_reducible refine (H45.out _).mono ?_); rintro e w5 ⟨rfl, hb⟩; have HB5 := hid (HB4.out.trans (hb.mono HB4.out.size)); clear hb) | (go_at_call 46; (with_reducible refine (H46.out _).mono ?_); rintro e w6 ⟨rfl, hb⟩; have HB6 := hid (HB5.out.trans (hb.mono HB5.out.size)); clear hb) | (go_at_call 47; (with_reducible refine (H47.out _).mono ?_); rintro e w7 ⟨rfl, hb⟩; have HB7 := hid (HB6.out.trans (hb.mono HB6.out.size)); clear hb) | (go_at_call 48; (with_reducible refine (H48.out _).mono ?_); rintro e w8 ⟨rfl, hb⟩; have HB8 := hid (HB7.out.trans (hb.mono HB7.out.size)); clear hb) | (go_at_call 11; (with_reducible refine (HA.out _ (HT.out.below HB8.out)).mono ?_); rintro e w9 ⟨rfl, hb⟩; have HB := hid (HB8.out.trans (hb.mono HB8.out.size)); clear hb))
  go_ret
  exact ⟨rfl, HB.out⟩
end Go.Proofs.YtihdndaibmgoiaaGreatDoor.Pz
/-
  BinaryCodes: the row and its card. Condition: the listed package-level variables hold what the row lists (the card ties them to the text).
-/
namespace Go.Proofs.YtihdndaibmgoiaaGreatDoor.binaryCodes
open Go.ChangeMaps Go.ChangeShapes Go.WideShapes Go.ChangeAt Go.RowKit
theorem own : ownKnob Tryz.prog.godebug = none := by kernel_rfl
theorem ok_true {P : Program} {W' : World} {f : Func} {t : TypeId} (hr : f.resultTypes = #[t]) (ht : P.underlying t = some .bool) :
    ∀ (j : Nat) (t' : TypeId) (r : Value), f.resultTypes[j]? = some t' → ((Value.bool true).resultList f.resultTypes.size)[j]? = some r → Value.okWide P W' .any 0 t' r := ok_one hr rfl (okWide_bool_mk ht true)
section
variable {H : Type} {enc : TypeId × Value → H}
set_option maxRecDepth 100000 in
/-- the row's last step: no place was read, no variable is asked, what lay below is as it was -/
theorem post_below {f : Func} {s : ChangeSpec} {W W' : World} {args : Array Value} {v : Value} {ds gs : List (DataW H)}
    (hW : DataW.Whole enc Tryz.prog f.params.toList s.vars false W args.toList ds gs [])
    (hres : ∀ (b : Nat) (sp : Nat → Bool) (hd : Bool), DataW.TrodAll enc Tryz.prog W' b sp hd f.resultTypes.toList (v.resultList f.resultTypes.size) (s.fn H (ds ++ gs)).results [])
    (hargs : ∀ sp : Nat → Bool, DataW.TrodAll enc Tryz.prog W' 0 sp true f.params.toList args.toList (s.fn H (ds ++ gs)).args [])
    (hvars : ∀ sp : Nat → Bool, DataW.TrodVars enc Tryz.prog W' sp s.vars (s.fn H (ds ++ gs)).vars []) (hb : Below W.heap.size W W')
    (hok : ∀ (j : Nat) (t : TypeId) (r : Value), f.resultTypes[j]? = some t → (v.resultList f.resultTypes.size)[j]? = some r → Value.okWide Tryz.prog W' .any 0 t r) :
    s.post enc Tryz.prog f false true false false W args v W' := by
  refine ⟨ds, gs, [], [], [], [], hW, hres _ _ _, hargs _, hvars _, World.keptBut_mono (fun p hp => ⟨hp, .inr (.inr hp)⟩) (hb.frame (· ∈ ([] : List MemPlace))), fun _ => ?_⟩
  refine ⟨hok, _, _, ([] ++ []) ++ [], ⟨[] ++ [], [], trodAll_append (hargs _) (hres _ _ _), hvars _, rfl, ?_, ?_⟩, ?_⟩
  · intro b off hp
    simp at hp
  · intro h
    cases h
  · intro p hp _
    simp at hp
end
theorem tab_of {W : World} (hl : laidMetH Tryz.prog Rows.binaryCodesRow.laid W) : Lib.TabIs Tryz.prog W "internal/strconv.uint64pow10" .u64 Lib.pow10Tab := by
  rw [MakeChecks.laidMetH_plain _ _ _ (by kernel_rfl)] at hl
  have h3 := hl.tail.tail
  have e : (Rows.laid_internal_strconv_uint64pow10 : DataW Unit) = Lib.tabData .u64 Lib.pow10Tab := by kernel_rfl
  have h4 : laidMet Tryz.prog (("internal/strconv.uint64pow10", Lib.tabData .u64 Lib.pow10Tab) :: [("unicode/utf8.acceptRanges", Rows.laid_unicode_utf8_acceptRanges), ("strconv.ErrRange", Rows.laid_strconv_ErrRange), ("strconv.ErrSyntax", Rows.laid_strconv_ErrSyntax), ("unicode.CaseRanges", Rows.laid_unicode_CaseRanges), ("unicode/utf8.first", Rows.laid_unicode_utf8_first)]) W := by
    rw [← e]; exact h3
  exact Lib.tabIs_of_head (g := 4) (t := 195) (e := 44) (n := 20) (by kernel_rfl) (by kernel_rfl) (by kernel_rfl) (by kernel_rfl) (by kernel_rfl) (by kernel_rfl) h4
theorem contract (H : Type) (enc : TypeId × Value → H) (W : World) (base : Nat) (args : Array Value) (ds gs : List (DataW H)) (before : List MemPlace)
    (hval : ∀ (j : Nat) t v, Tryz.f7.params[j]? = some t → args[j]? = some v → Value.okWide Tryz.prog W .any base t v)
    (hW : DataW.Whole enc Tryz.prog Tryz.f7.params.toList Rows.binaryCodesSpec.vars false W args.toList ds gs before) (hl : laidMetH Tryz.prog Rows.binaryCodesRow.laid W) :
    Calls Tryz.prog 7 args W fun e W' => ∃ v, e = .returned v ∧ Rows.binaryCodesSpec.post enc Tryz.prog Tryz.f7 false true false false W args v W' := by
  have hW' := hW
  obtain ⟨p, q, hA0, hV, rfl, hfz, hnd⟩ := hW
  have hA : DataW.TrodAll enc Tryz.prog W 0 (fun _ => true) true Tryz.f7.params.toList args.toList ds p := hA0
  rw [Tryz.params7] at hA hval
  obtain ⟨v0, vs0, d0, ds0, p0, q0, hargs, rfl, rfl, h0, r0⟩ := trodAll_cons hA
  obtain ⟨rfl, rfl, rfl⟩ := trodAll_nil r0
  obtain rfl : args = #[v0] := by cases args; simp_all
  obtain ⟨rfl, rfl⟩ := trodVars_none hV
  obtain ⟨s0, rfl, rfl, rfl, m0⟩ := open_string Tryz.underlying9 (by with_reducible exact hval 0 9 v0 (by simp) (by simp)) h0
  clear hA0
  simp only [List.append_nil] at hW'
  have e0 : s0 = ⟨s0.data.toList.toArray⟩ := by cases s0; simp
  have q0 : s0.data.toList.length ≤ 9223372036854775807 := by
    have h1 : s0.data.toList.length = s0.size := by rw [Array.length_toList]; rfl
    have h2 := m0
    unfold maxLen at h2
    omega
  have htab := tab_of hl
  have walk := Pz.binaryCodes_fn s0.data.toList W q0 htab
  rw [← e0] at walk
  refine walk.mono fun e W' ⟨he, hg⟩ => ?_
  subst he
  exact ⟨_, rfl, post_below hW' (fun _ _ _ => trodAll_cons_mk (shut_bool Tryz.underlying4 _) trodAll_mk0) (fun _ => trodAll_cons_mk (shut_string Tryz.underlying9 m0) trodAll_mk0) (fun _ => rfl) hg (@ok_true Tryz.prog W' Tryz.f7 4 (by kernel_rfl) Tryz.underlying4)⟩
theorem reads (os : Os) {H : Type} (enc : TypeId × Value → H) : ∃ places, DataW.whole enc Tryz.prog ((World.laidAll Tryz.prog os Rows.binaryCodesRow.laid).forCall (fun _ _ => 0) ⟨#[], #[.string .empty], []⟩).memory Tryz.f7.params.toList Rows.binaryCodesSpec.vars false (#[.string .empty] : Array Value).toList 8 = some ([.lit (.string [])], [], places) :=
  ⟨[], by kernel_rfl⟩
set_option maxRecDepth 100000 in
theorem lifted (os : Os) (started : os.Started) (H : Type) (enc : TypeId × Value → H) (F : Stop.Interp) :
    ReturnsInHanded {} Tryz.checked os 7 .any ((OpenSpec.ofChange Rows.binaryCodesSpec).preRow enc Tryz.prog Tryz.f7 Rows.binaryCodesRow.domain false Rows.binaryCodesRow.laid) (((OpenSpec.ofChange Rows.binaryCodesSpec).at F).post enc Tryz.prog Tryz.f7 false true false false) := by
  obtain ⟨places, hx⟩ := reads os enc
  have hl : laidMetH Tryz.prog Rows.binaryCodesRow.laid ((World.laidAll Tryz.prog os Rows.binaryCodesRow.laid).forCall (fun _ _ => 0) ⟨#[], #[.string .empty], []⟩).memory := by
    rw [MakeChecks.laidMetH_plain _ _ _ (by kernel_rfl)]
    exact laidMet_laidAll _ (by kernel_rfl) (by kernel_rfl)
  refine returnsInHanded_of_row (C := Tryz.checked) (s := (OpenSpec.ofChange Rows.binaryCodesSpec)) own started (by kernel_rfl) Tryz.func7
    (witness_row_atRef (enc := enc) (C := Tryz.checked) false (World.laidAll Tryz.prog os Rows.binaryCodesRow.laid) #[.string .empty] (World.laidAll_os _ _ _) (by kernel_rfl) (by kernel_rfl) (by kernel_rfl)
      (OpenSpec.preRow_of_cond 8 hx (by kernel_rfl) (fun k hk => by cases hk) (by kernel_rfl) hl)) ?_
  intro W base args ds gs before hval hW _ _ _ hlaid _ _
  exact contract H enc W base args ds gs before hval hW hlaid
theorem said : Rows.BinaryCodesSaid :=
  OpenClaim.holds_of_cond 7 Tryz.f7 rfl rfl rfl rfl rfl rfl rfl ⟨rfl, rfl, rfl, rfl, rfl⟩ rfl rfl rfl rfl rfl (by kernel_rfl) Tryz.func7 (by kernel_rfl)
    (of_decide_eq_true (by kernel_rfl)) (by unfold Func.isWrapper; first | (rw [if_pos (by decide +kernel)]; kernel_rfl) | (rw [if_neg (by decide +kernel)]; exact ⟨rfl, rfl⟩))
    (fun os started H enc _ F => by rw [OpenClaim.pre_eq_preRow]; exact lifted os started H enc F)
theorem plain (f : FuncId) (fn : Func) (hf : Tryz.pinned.checked.prog.funcNamed "threadbare/threadbarelaw10.BinaryCodes" = some f) (hfn : Tryz.pinned.checked.prog.funcs[f]? = some fn) :
    true = Tryz.pinned.checked.prog.looks [] ∧ ∀ (j : Nat) t, fn.params[j]? = some t → Tryz.pinned.checked.prog.wantsStandIn t = false := by
  obtain rfl : f = 7 := Option.some.inj ((show Tryz.prog.funcNamed "threadbare/threadbarelaw10.BinaryCodes" = some 7 by kernel_rfl).symm.trans hf) |>.symm
  obtain rfl : fn = Tryz.f7 := (Option.some.inj (Tryz.func7.symm.trans hfn)).symm
  refine ⟨by kernel_rfl, fun j t ht => ?_⟩
  rw [Tryz.params7] at ht
  have ht := Array.mem_of_getElem? ht
  simp at ht
  subst ht
  exact (show Tryz.prog.wantsStandIn 9 = false by kernel_rfl)
theorem card : Rows.BinaryCodesCardSaid :=
  Claim7.holds_tied_plain_at .later [] _ _ _ _ said (fun _ h => by cases h) (by kernel_rfl) (fun _ h => by cases h) binaryCodes_row_tie rfl ⟨rfl, rfl⟩ (by kernel_rfl) rfl plain (by kernel_rfl)
end Go.Proofs.YtihdndaibmgoiaaGreatDoor.binaryCodes
