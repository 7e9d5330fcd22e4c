/-
  BitsCard: the law's card and what it alone needs, merged from 2 texts. Conditions: the row's own.
-/
import Derived.Test.YtkhgoeippamobaaGreatDoorCards
import Derived.Test.YtkhgoeippamobaaGreatDoorTie
import Derived.Deep.DeepHandedRow
import Derived.ProofKit
import Derived.OpenShut
import Derived.Lay
import Derived.MakeChecks
import Derived.ChangeMaps5
import Derived.Test.YtkhgoeippamobaaGreatDoorK1
import Derived.Test.YtkhgoeippamobaaGreatDoorK2
import Derived.Test.YtkhgoeippamobaaGreatDoorK3
import Derived.Test.YtkhgoeippamobaaGreatDoorK4
import Derived.Test.YtkhgoeippamobaaGreatDoorK5
import Derived.Test.YtkhgoeippamobaaGreatDoorK6
import Derived.Test.YtkhgoeippamobaaGreatDoorK7a
import Derived.Test.YtkhgoeippamobaaGreatDoorK8
import Derived.Test.YtkhgoeippamobaaGreatDoorK9
/-
  BigBits: the walk.
-/
namespace Go.Proofs.YtkhgoeippamobaaGreatDoor
open Go.RowKit
set_option maxRecDepth 100000 in
set_option maxHeartbeats 8000000 in
theorem bigBits_fn (a : List UInt8) (b : List UInt8) (n : Int) (w : World) (la : a.length ≤ 9223372036854775807) (lb : b.length ≤ 9223372036854775807) (wn : (Lit.int .i64 n).wf = true) :
    Calls Tryz.prog 8 #[.string ⟨a.toArray⟩, .string ⟨b.toArray⟩, .int .i64 n] w fun e w' => e = .returned (.bool true) ∧ Below w.heap.size w w' := by
  have AW := fun w => hid (awake_fn w)
  have hS := Blk.new w #[.string ⟨a.toArray⟩, .string ⟨b.toArray⟩] 9
  have hb0 : Below w.heap.size w (w.alloc (.cells #[.string ⟨a.toArray⟩, .string ⟨b.toArray⟩] 9)) := (Below.refl _ _).alloc (Nat.le_refl _) _
  have HLC := hid (long_any (v := .slice (some ⟨w.heap.size, 0, none⟩) 2 2) 60 (by decide) (Strs.two hS) (by simp) (fun l hl' => by
      simp only [List.mem_cons, List.mem_nil_iff, or_false] at hl'
      rcases hl' with rfl | rfl <;> assumption))
  clear hS
  by_cases hlong : a.length ≤ 60 ∧ b.length ≤ 60
  case neg =>
    have hl : longB 60 [a, b] = true := by
      rw [longB_two]
      simp
      omega
    rw [hl] at HLC
    have HLC : Hid (Calls Tryz.prog 16 #[.int .i64 60, .slice (some ⟨w.heap.size, 0, none⟩) 2 2] (w.alloc (.cells #[.string ⟨a.toArray⟩, .string ⟨b.toArray⟩] 9)) _) := HLC
    clear hl hlong
    go_enter Tryz.func8, Tryz.ntmps8
    go_wp2_with fail
    (with_reducible refine HLC.out.mono ?_); rintro e w0 ⟨rfl, rfl⟩
    go_wp2_with fail
    (with_reducible refine (AW _).out.mono ?_); rintro e w1 ⟨rfl, g1⟩
    have hb := hb0.trans (g1.mono hb0.size)
    clear g1
    go_wp2
    go_ret
    exact ⟨rfl, hb⟩
  case pos =>
    have hl : longB 60 [a, b] = false := by
      rw [longB_two]
      simp
      omega
    rw [hl] at HLC
    have HLC : Hid (Calls Tryz.prog 16 #[.int .i64 60, .slice (some ⟨w.heap.size, 0, none⟩) 2 2] (w.alloc (.cells #[.string ⟨a.toArray⟩, .string ⟨b.toArray⟩] 9)) _) := HLC
    clear hl
    have hb := hb0
    clear hb0
    have hn1 : -9223372036854775808 ≤ n := by have h := wn; simp [Lit.wf, IntKind.min, IntKind.max, IntKind.bits, IntKind.signed] at h; omega
    have hn2 : n ≤ 9223372036854775807 := by have h := wn; simp [Lit.wf, IntKind.min, IntKind.max, IntKind.bits, IntKind.signed] at h; omega
    have C1 := fun w => hid (shift_fn a (by omega) n w)
    have C2 := fun w => hid (shiftR_fn a (by omega) n hn1 hn2 w)
    have AND1 := fun w => hid (and_fn a b (by omega) (by omega) w)
    have AND2 := fun w => hid (andR_fn a b (by omega) (by omega) w)
    have OR1 := fun w => hid (or_fn a b (by omega) (by omega) w)
    have OR2 := fun w => hid (orR_fn a b (by omega) (by omega) w)
    have XOR1 := fun w => hid (xor_fn a b (by omega) (by omega) w)
    have XOR2 := fun w => hid (xorR_fn a b (by omega) (by omega) w)
    generalize (shiftRes a n).1 = x0 at *
    generalize (shiftRes a n).2 = x1 at *
    generalize (andRes a b).1 = x2 at *
    generalize (andRes a b).2 = x3 at *
    generalize (orRes a b).1 = x4 at *
    generalize (orRes a b).2 = x5 at *
    generalize (xorRes a b).1 = x6 at *
    generalize (xorRes a b).2 = x7 at *
    clear hlong hn1 hn2
    go_enter Tryz.func8, Tryz.ntmps8
    go_wp2_with fail
    (with_reducible refine HLC.out.mono ?_); rintro e w0 ⟨rfl, rfl⟩
    go_wp2_with fail
    (with_reducible refine (C1 _).out.mono ?_); rintro e w1 ⟨rfl, gg⟩
    have hb := hb.trans (gg.mono hb.size)
    clear gg
    go_wp2_with fail
    (with_reducible refine (C2 _).out.mono ?_); rintro e w2 ⟨rfl, gg⟩
    have hb := hb.trans (gg.mono hb.size)
    clear gg
    go_wp2_with fail
    (with_reducible refine (AND1 _).out.mono ?_); rintro e w3 ⟨rfl, gg⟩
    have hb := hb.trans (gg.mono hb.size)
    clear gg
    go_wp2_with fail
    (with_reducible refine (AND2 _).out.mono ?_); rintro e w4 ⟨rfl, gg⟩
    have hb := hb.trans (gg.mono hb.size)
    clear gg
    go_wp2_with fail
    (with_reducible refine (OR1 _).out.mono ?_); rintro e w5 ⟨rfl, gg⟩
    have hb := hb.trans (gg.mono hb.size)
    clear gg
    go_wp2_with fail
    (with_reducible refine (OR2 _).out.mono ?_); rintro e w6 ⟨rfl, gg⟩
    have hb := hb.trans (gg.mono hb.size)
    clear gg
    go_wp2_with fail
    (with_reducible refine (XOR1 _).out.mono ?_); rintro e w7 ⟨rfl, gg⟩
    have hb := hb.trans (gg.mono hb.size)
    clear gg
    go_wp2_with fail
    (with_reducible refine (XOR2 _).out.mono ?_); rintro e w8 ⟨rfl, gg⟩
    have hb := hb.trans (gg.mono hb.size)
    clear gg
    go_wp2_with fail
    (with_reducible refine (AW _).out.mono ?_); rintro e w9 ⟨rfl, gg⟩
    have hb := hb.trans (gg.mono hb.size)
    clear gg
    go_wp2
    go_ret
    exact ⟨rfl, hb⟩
end Go.Proofs.YtkhgoeippamobaaGreatDoor
/-
  BigBits: the row and its card. Condition: the listed package-level variables hold what the row lists (the card ties them to the text).
-/
namespace Go.Proofs.YtkhgoeippamobaaGreatDoor.bigBits
open Go.ChangeMaps Go.ChangeShapes Go.WideShapes Go.ChangeAt Go.RowKit
theorem own : ownKnob Tryz.prog.godebug = none := by kernel_rfl
theorem ok_true {P : Program} {W' : World} {f : Func} {t : TypeId} (hr : f.resultTypes = #[t]) (ht : P.underlying t = some .bool) :
    ∀ (j : Nat) (t' : TypeId) (r : Value), f.resultTypes[j]? = some t' → ((Value.bool true).resultList f.resultTypes.size)[j]? = some r → Value.okWide P W' .any 0 t' r := ok_one hr rfl (okWide_bool_mk ht true)
section
variable {H : Type} {enc : TypeId × Value → H}
set_option maxRecDepth 100000 in
/-- the row's last step: no place was read, no variable is asked, what lay below is as it was -/
theorem post_below {f : Func} {s : ChangeSpec} {W W' : World} {args : Array Value} {v : Value} {ds gs : List (DataW H)}
    (hW : DataW.Whole enc Tryz.prog f.params.toList s.vars false W args.toList ds gs [])
    (hres : ∀ (b : Nat) (sp : Nat → Bool) (hd : Bool), DataW.TrodAll enc Tryz.prog W' b sp hd f.resultTypes.toList (v.resultList f.resultTypes.size) (s.fn H (ds ++ gs)).results [])
    (hargs : ∀ sp : Nat → Bool, DataW.TrodAll enc Tryz.prog W' 0 sp true f.params.toList args.toList (s.fn H (ds ++ gs)).args [])
    (hvars : ∀ sp : Nat → Bool, DataW.TrodVars enc Tryz.prog W' sp s.vars (s.fn H (ds ++ gs)).vars []) (hb : Below W.heap.size W W')
    (hok : ∀ (j : Nat) (t : TypeId) (r : Value), f.resultTypes[j]? = some t → (v.resultList f.resultTypes.size)[j]? = some r → Value.okWide Tryz.prog W' .any 0 t r) :
    s.post enc Tryz.prog f false true false false W args v W' := by
  refine ⟨ds, gs, [], [], [], [], hW, hres _ _ _, hargs _, hvars _, World.keptBut_mono (fun p hp => ⟨hp, .inr (.inr hp)⟩) (hb.frame (· ∈ ([] : List MemPlace))), fun _ => ?_⟩
  refine ⟨hok, _, _, ([] ++ []) ++ [], ⟨[] ++ [], [], trodAll_append (hargs _) (hres _ _ _), hvars _, rfl, ?_, ?_⟩, ?_⟩
  · intro b off hp
    simp at hp
  · intro h
    cases h
  · intro p hp _
    simp at hp
end
theorem contract (H : Type) (enc : TypeId × Value → H) (W : World) (base : Nat) (args : Array Value) (ds gs : List (DataW H)) (before : List MemPlace)
    (hval : ∀ (j : Nat) t v, Tryz.f8.params[j]? = some t → args[j]? = some v → Value.okWide Tryz.prog W .any base t v)
    (hW : DataW.Whole enc Tryz.prog Tryz.f8.params.toList Rows.bigBitsSpec.vars false W args.toList ds gs before) :
    Calls Tryz.prog 8 args W fun e W' => ∃ v, e = .returned v ∧ Rows.bigBitsSpec.post enc Tryz.prog Tryz.f8 false true false false W args v W' := by
  have hW' := hW
  obtain ⟨p, q, hA0, hV, rfl, hfz, hnd⟩ := hW
  have hA : DataW.TrodAll enc Tryz.prog W 0 (fun _ => true) true Tryz.f8.params.toList args.toList ds p := hA0
  rw [Tryz.params8] at hA hval
  obtain ⟨v0, vs0, d0, ds0, p0, q0, hargs, rfl, rfl, h0, r0⟩ := trodAll_cons hA
  obtain ⟨v1, vs1, d1, ds1, p1, q1, rfl, rfl, rfl, h1, r1⟩ := trodAll_cons r0
  obtain ⟨v2, vs2, d2, ds2, p2, q2, rfl, rfl, rfl, h2, r2⟩ := trodAll_cons r1
  obtain ⟨rfl, rfl, rfl⟩ := trodAll_nil r2
  obtain rfl : args = #[v0, v1, v2] := by cases args; simp_all
  obtain ⟨rfl, rfl⟩ := trodVars_none hV
  obtain ⟨s0, rfl, rfl, rfl, m0⟩ := open_string Tryz.underlying9 (by with_reducible exact hval 0 9 v0 (by simp) (by simp)) h0
  obtain ⟨s1, rfl, rfl, rfl, m1⟩ := open_string Tryz.underlying9 (by with_reducible exact hval 1 9 v1 (by simp) (by simp)) h1
  obtain ⟨s2, rfl, rfl, rfl, m2⟩ := open_int Tryz.underlying3 (by with_reducible exact hval 2 3 v2 (by simp) (by simp)) h2
  clear hA0
  simp only [List.append_nil] at hW'
  have e0 : s0 = ⟨s0.data.toList.toArray⟩ := by cases s0; simp
  have q0 : s0.data.toList.length ≤ 9223372036854775807 := by
    have h1 : s0.data.toList.length = s0.size := by rw [Array.length_toList]; rfl
    have h2 := m0
    unfold maxLen at h2
    omega
  have e1 : s1 = ⟨s1.data.toList.toArray⟩ := by cases s1; simp
  have q1 : s1.data.toList.length ≤ 9223372036854775807 := by
    have h1 : s1.data.toList.length = s1.size := by rw [Array.length_toList]; rfl
    have h2 := m1
    unfold maxLen at h2
    omega
  have walk := bigBits_fn s0.data.toList s1.data.toList s2 W q0 q1 m2
  rw [← e0, ← e1] at walk
  refine walk.mono fun e W' ⟨he, hg⟩ => ?_
  subst he
  exact ⟨_, rfl, post_below hW' (fun _ _ _ => trodAll_cons_mk (shut_bool Tryz.underlying4 _) trodAll_mk0) (fun _ => trodAll_cons_mk (shut_string Tryz.underlying9 m0) (trodAll_cons_mk (shut_string Tryz.underlying9 m1) (trodAll_cons_mk (shut_int Tryz.underlying3 m2) trodAll_mk0))) (fun _ => rfl) hg (@ok_true Tryz.prog W' Tryz.f8 4 (by kernel_rfl) Tryz.underlying4)⟩
theorem reads (os : Os) {H : Type} (enc : TypeId × Value → H) : ∃ places, DataW.whole enc Tryz.prog ((World.laidAll Tryz.prog os Rows.bigBitsRow.laid).forCall (fun _ _ => 0) ⟨#[], #[.string .empty, .string .empty, .int .i64 0], []⟩).memory Tryz.f8.params.toList Rows.bigBitsSpec.vars false (#[.string .empty, .string .empty, .int .i64 0] : Array Value).toList 8 = some ([.lit (.string []), .lit (.string []), .lit (.int .i64 0)], [], places) :=
  ⟨[], by kernel_rfl⟩
set_option maxRecDepth 100000 in
theorem lifted (os : Os) (started : os.Started) (H : Type) (enc : TypeId × Value → H) (F : Stop.Interp) :
    ReturnsInHanded {} Tryz.checked os 8 .any ((OpenSpec.ofChange Rows.bigBitsSpec).preRow enc Tryz.prog Tryz.f8 Rows.bigBitsRow.domain false Rows.bigBitsRow.laid) (((OpenSpec.ofChange Rows.bigBitsSpec).at F).post enc Tryz.prog Tryz.f8 false true false false) := by
  obtain ⟨places, hx⟩ := reads os enc
  have hl : laidMetH Tryz.prog Rows.bigBitsRow.laid ((World.laidAll Tryz.prog os Rows.bigBitsRow.laid).forCall (fun _ _ => 0) ⟨#[], #[.string .empty, .string .empty, .int .i64 0], []⟩).memory := by
    rw [MakeChecks.laidMetH_plain _ _ _ (by kernel_rfl)]
    exact laidMet_laidAll _ (by kernel_rfl) (by kernel_rfl)
  refine returnsInHanded_of_row (C := Tryz.checked) (s := (OpenSpec.ofChange Rows.bigBitsSpec)) own started (by kernel_rfl) Tryz.func8
    (witness_row_at (enc := enc) (C := Tryz.checked) false (World.laidAll Tryz.prog os Rows.bigBitsRow.laid) #[.string .empty, .string .empty, .int .i64 0] (World.laidAll_os _ _ _) (by kernel_rfl) (by kernel_rfl) (by kernel_rfl)
      (OpenSpec.preRow_of_cond 8 hx (by kernel_rfl) (fun k hk => by cases hk) (by kernel_rfl) hl)) ?_
  intro W base args ds gs before hval hW _ _ _ _ _ _
  exact contract H enc W base args ds gs before hval hW
theorem said : Rows.BigBitsSaid :=
  OpenClaim.holds_of_cond 8 Tryz.f8 rfl rfl rfl rfl rfl rfl rfl ⟨rfl, rfl, rfl, rfl, rfl⟩ rfl rfl rfl rfl rfl (by kernel_rfl) Tryz.func8 (by kernel_rfl)
    (of_decide_eq_true (by kernel_rfl)) (by unfold Func.isWrapper; first | (rw [if_pos (by decide +kernel)]; kernel_rfl) | (rw [if_neg (by decide +kernel)]; exact ⟨rfl, rfl⟩))
    (fun os started H enc _ F => by rw [OpenClaim.pre_eq_preRow]; exact lifted os started H enc F)
theorem plain (f : FuncId) (fn : Func) (hf : Tryz.pinned.checked.prog.funcNamed "threadbare/threadbarelaw03.BigBits" = some f) (hfn : Tryz.pinned.checked.prog.funcs[f]? = some fn) :
    false = Tryz.pinned.checked.prog.looks [] ∧ ∀ (j : Nat) t, fn.params[j]? = some t → Tryz.pinned.checked.prog.wantsStandIn t = false := by
  obtain rfl : f = 8 := Option.some.inj ((show Tryz.prog.funcNamed "threadbare/threadbarelaw03.BigBits" = some 8 by kernel_rfl).symm.trans hf) |>.symm
  obtain rfl : fn = Tryz.f8 := (Option.some.inj (Tryz.func8.symm.trans hfn)).symm
  refine ⟨by kernel_rfl, fun j t ht => ?_⟩
  rw [Tryz.params8] at ht
  have ht := Array.mem_of_getElem? ht
  simp at ht
  rcases ht with rfl | rfl
  · exact (show Tryz.prog.wantsStandIn 9 = false by kernel_rfl)
  · exact (show Tryz.prog.wantsStandIn 3 = false by kernel_rfl)
theorem card : Rows.BigBitsCardSaid :=
  Claim7.holds_tied_plain_at .later [] _ _ _ _ said (fun _ h => by cases h) (by kernel_rfl) (fun _ h => by cases h) bigBits_row_tie rfl ⟨rfl, rfl⟩ (by kernel_rfl) rfl plain (by kernel_rfl)
end Go.Proofs.YtkhgoeippamobaaGreatDoor.bigBits
