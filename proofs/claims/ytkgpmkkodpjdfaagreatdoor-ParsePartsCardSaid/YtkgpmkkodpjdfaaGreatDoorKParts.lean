/-
  ParsePartsCard: the law's card and what it alone needs, merged from 1 texts. Conditions: the row's own.
-/
import Derived.Test.YtkgpmkkodpjdfaaGreatDoorCards
import Derived.Test.YtkgpmkkodpjdfaaGreatDoorTie
import Derived.Deep.DeepHandedRow
import Derived.ProofKit
import Derived.OpenShut
import Derived.Lay
import Derived.MakeChecks
import Derived.ChangeMaps5
import Derived.Test.YtkgpmkkodpjdfaaGreatDoorK0
import Derived.Test.YtkgpmkkodpjdfaaGreatDoorK1
import Derived.Test.YtkgpmkkodpjdfaaGreatDoorK2
import Derived.Test.YtkgpmkkodpjdfaaGreatDoorK3
import Derived.Test.YtkgpmkkodpjdfaaGreatDoorK4
import Derived.Test.YtkgpmkkodpjdfaaGreatDoorK5
import Derived.Test.YtkgpmkkodpjdfaaGreatDoorK6
import Derived.Test.YtkgpmkkodpjdfaaGreatDoorK7
import Derived.Test.YtkgpmkkodpjdfaaGreatDoorK8
import Derived.Test.YtkgpmkkodpjdfaaGreatDoorK9
import Derived.Test.YtkgpmkkodpjdfaaGreatDoorK10
import Derived.Test.YtkgpmkkodpjdfaaGreatDoorK11
import Derived.Test.YtkgpmkkodpjdfaaGreatDoorK12
import Derived.Test.YtkgpmkkodpjdfaaGreatDoorK13
import Derived.Test.YtkgpmkkodpjdfaaGreatDoorK14
import Derived.Test.YtkgpmkkodpjdfaaGreatDoorK15
/-
  ParseParts: the row and its card. Condition: the listed package-level variables hold what the row lists (the card ties them to the text).
-/
namespace Go.Proofs.YtkgpmkkodpjdfaaGreatDoor.parseParts
open Go.ChangeMaps Go.ChangeShapes Go.WideShapes Go.ChangeAt Go.RowKit
theorem own : ownKnob Tryz.prog.godebug = none := by kernel_rfl
theorem ok_true {P : Program} {W' : World} {f : Func} {t : TypeId} (hr : f.resultTypes = #[t]) (ht : P.underlying t = some .bool) :
    ∀ (j : Nat) (t' : TypeId) (r : Value), f.resultTypes[j]? = some t' → ((Value.bool true).resultList f.resultTypes.size)[j]? = some r → Value.okWide P W' .any 0 t' r := ok_one hr rfl (okWide_bool_mk ht true)
section
variable {H : Type} {enc : TypeId × Value → H}
set_option maxRecDepth 100000 in
/-- the row's last step: no place was read, no variable is asked, what lay below is as it was -/
theorem post_below {f : Func} {s : ChangeSpec} {W W' : World} {args : Array Value} {v : Value} {ds gs : List (DataW H)}
    (hW : DataW.Whole enc Tryz.prog f.params.toList s.vars false W args.toList ds gs [])
    (hres : ∀ (b : Nat) (sp : Nat → Bool) (hd : Bool), DataW.TrodAll enc Tryz.prog W' b sp hd f.resultTypes.toList (v.resultList f.resultTypes.size) (s.fn H (ds ++ gs)).results [])
    (hargs : ∀ sp : Nat → Bool, DataW.TrodAll enc Tryz.prog W' 0 sp true f.params.toList args.toList (s.fn H (ds ++ gs)).args [])
    (hvars : ∀ sp : Nat → Bool, DataW.TrodVars enc Tryz.prog W' sp s.vars (s.fn H (ds ++ gs)).vars []) (hb : Below W.heap.size W W')
    (hok : ∀ (j : Nat) (t : TypeId) (r : Value), f.resultTypes[j]? = some t → (v.resultList f.resultTypes.size)[j]? = some r → Value.okWide Tryz.prog W' .any 0 t r) :
    s.post enc Tryz.prog f false true false false W args v W' := by
  refine ⟨ds, gs, [], [], [], [], hW, hres _ _ _, hargs _, hvars _, World.keptBut_mono (fun p hp => ⟨hp, .inr (.inr hp)⟩) (hb.frame (· ∈ ([] : List MemPlace))), fun _ => ?_⟩
  refine ⟨hok, _, _, ([] ++ []) ++ [], ⟨[] ++ [], [], trodAll_append (hargs _) (hres _ _ _), hvars _, rfl, ?_, ?_⟩, ?_⟩
  · intro b off hp
    simp at hp
  · intro h
    cases h
  · intro p hp _
    simp at hp
end
section
variable {P : Program} {H : Type} {enc : TypeId × Value → H} {w : World} {base : Nat} {spare : Nat → Bool} {held : Bool}
theorem open_three {r : Reach} {b0 : Nat} {t e : TypeId} {v : Value} {d : DataW H} {p : List MemPlace} (ht : P.underlying t = some (.array 3 e)) (he : P.underlying e = some .bool) (hc : P.cellsOf t = 3) (hce : P.cellsOf e = 1)
    (hv : Value.okWide P w r b0 t v) (h : DataW.Trod enc P w base spare held t v d p) : ∃ a b c, v = .agg #[.bool a, .bool b, .bool c] ∧ d = .agg [.lit (.bool a), .lit (.bool b), .lit (.bool c)] ∧ p = [] := by
  simp only [Value.okWide, ht] at hv
  obtain ⟨cs, rfl, hs, _⟩ := hv
  obtain ⟨c0, c1, c2, rfl⟩ : ∃ c0 c1 c2, cs = #[c0, c1, c2] := by
    obtain ⟨l⟩ := cs
    match l, hs.trans hc with
    | [c0, c1, c2], _ => exact ⟨c0, c1, c2, rfl⟩
  obtain ⟨fuel, hf⟩ := h
  obtain ⟨xs, m, _, hx, _, hl, hg⟩ := DataW.trod_array ht hf
  match xs, hl with
  | [y0, y1, y2], _ =>
    have g0 := hg 0 (by decide)
    have g1 := hg 1 (by decide)
    have g2 := hg 2 (by decide)
    simp [hce, Value.cells] at g0 g1 g2
    obtain ⟨a, e0, rfl⟩ := DataW.trod_bool he g0
    obtain ⟨b, e1, rfl⟩ := DataW.trod_bool he g1
    obtain ⟨c, e2, rfl⟩ := DataW.trod_bool he g2
    simp only [List.cons.injEq, and_true] at e0 e1 e2
    subst e0 e1 e2
    simp only [Prod.mk.injEq] at hx
    exact ⟨a, b, c, rfl, hx.1, hx.2⟩
theorem shut_three {t e : TypeId} (ht : P.underlying t = some (.array 3 e)) (he : P.underlying e = some .bool) (hc : P.cellsOf t = 3) (hce : P.cellsOf e = 1) (a b c : Bool) :
    DataW.Trod enc P w base spare held t (.agg #[.bool a, .bool b, .bool c]) (.agg [.lit (.bool a), .lit (.bool b), .lit (.bool c)]) [] :=
  ⟨2, by simp [DataW.trod, Value.cells, ht, he, hc, hce, List.range_succ]⟩
end
theorem contract (H : Type) (enc : TypeId × Value → H) (W : World) (base : Nat) (args : Array Value) (ds gs : List (DataW H)) (before : List MemPlace)
    (hval : ∀ (j : Nat) t v, Tryz.f3.params[j]? = some t → args[j]? = some v → Value.okWide Tryz.prog W .any base t v)
    (hW : DataW.Whole enc Tryz.prog Tryz.f3.params.toList Rows.parsePartsSpec.vars false W args.toList ds gs before) :
    Calls Tryz.prog 3 args W fun e W' => ∃ v, e = .returned v ∧ Rows.parsePartsSpec.post enc Tryz.prog Tryz.f3 false true false false W args v W' := by
  have hW' := hW
  obtain ⟨p, q, hA0, hV, rfl, hfz, hnd⟩ := hW
  have hA : DataW.TrodAll enc Tryz.prog W 0 (fun _ => true) true Tryz.f3.params.toList args.toList ds p := hA0
  rw [Tryz.params3] at hA hval
  obtain ⟨v0, vs0, d0, ds0, p0, q0, hargs, rfl, rfl, h0, r0⟩ := trodAll_cons hA
  obtain ⟨v1, vs1, d1, ds1, p1, q1, rfl, rfl, rfl, h1, r1⟩ := trodAll_cons r0
  obtain ⟨rfl, rfl, rfl⟩ := trodAll_nil r1
  obtain rfl : args = #[v0, v1] := by cases args; simp_all
  obtain ⟨rfl, rfl⟩ := trodVars_none hV
  obtain ⟨s0, rfl, rfl, rfl, m0⟩ := open_string Tryz.underlying9 (by with_reducible exact hval 0 9 v0 (by simp) (by simp)) h0
  obtain ⟨a1, b1, c1, rfl, rfl, rfl⟩ := open_three Tryz.underlying22 Tryz.underlying4 (by kernel_rfl) (by kernel_rfl) (by with_reducible exact hval 1 22 v1 (by simp) (by simp)) h1
  clear hA0
  simp only [List.append_nil] at hW'
  have e0 : s0 = ⟨s0.data.toList.toArray⟩ := by cases s0; simp
  have q0 : s0.data.toList.length ≤ 9223372036854775807 := by
    have h1 : s0.data.toList.length = s0.size := by rw [Array.length_toList]; rfl
    have h2 := m0
    unfold maxLen at h2
    omega
  have walk := Pz.parseParts_fn s0.data.toList a1 b1 c1 W q0
  rw [← e0] at walk
  refine walk.mono fun e W' ⟨he, hg⟩ => ?_
  subst he
  exact ⟨_, rfl, post_below hW' (fun _ _ _ => trodAll_cons_mk (shut_bool Tryz.underlying4 _) trodAll_mk0) (fun _ => trodAll_cons_mk (shut_string Tryz.underlying9 m0) (trodAll_cons_mk (shut_three Tryz.underlying22 Tryz.underlying4 (by kernel_rfl) (by kernel_rfl) a1 b1 c1) trodAll_mk0)) (fun _ => rfl) hg (@ok_true Tryz.prog W' Tryz.f3 4 (by kernel_rfl) Tryz.underlying4)⟩
theorem reads (os : Os) {H : Type} (enc : TypeId × Value → H) : ∃ places, DataW.whole enc Tryz.prog ((World.laidAll Tryz.prog os Rows.parsePartsRow.laid).forCall (fun _ _ => 0) ⟨#[], #[.string .empty, .agg #[.bool false, .bool false, .bool false]], []⟩).memory Tryz.f3.params.toList Rows.parsePartsSpec.vars false (#[.string .empty, .agg #[.bool false, .bool false, .bool false]] : Array Value).toList 8 = some ([.lit (.string []), .agg [.lit (.bool false), .lit (.bool false), .lit (.bool false)]], [], places) :=
  ⟨[], by kernel_rfl⟩
set_option maxRecDepth 100000 in
theorem lifted (os : Os) (started : os.Started) (H : Type) (enc : TypeId × Value → H) (F : Stop.Interp) :
    ReturnsInHanded {} Tryz.checked os 3 .any ((OpenSpec.ofChange Rows.parsePartsSpec).preRow enc Tryz.prog Tryz.f3 Rows.parsePartsRow.domain false Rows.parsePartsRow.laid) (((OpenSpec.ofChange Rows.parsePartsSpec).at F).post enc Tryz.prog Tryz.f3 false true false false) := by
  obtain ⟨places, hx⟩ := reads os enc
  have hl : laidMetH Tryz.prog Rows.parsePartsRow.laid ((World.laidAll Tryz.prog os Rows.parsePartsRow.laid).forCall (fun _ _ => 0) ⟨#[], #[.string .empty, .agg #[.bool false, .bool false, .bool false]], []⟩).memory := by
    rw [MakeChecks.laidMetH_plain _ _ _ (by kernel_rfl)]
    exact laidMet_laidAll _ (by kernel_rfl) (by kernel_rfl)
  refine returnsInHanded_of_row (C := Tryz.checked) (s := (OpenSpec.ofChange Rows.parsePartsSpec)) own started (by kernel_rfl) Tryz.func3
    (witness_row_at (enc := enc) (C := Tryz.checked) false (World.laidAll Tryz.prog os Rows.parsePartsRow.laid) #[.string .empty, .agg #[.bool false, .bool false, .bool false]] (World.laidAll_os _ _ _) (by kernel_rfl) (by kernel_rfl) (by kernel_rfl)
      (OpenSpec.preRow_of_cond 8 hx (by kernel_rfl) (fun k hk => by cases hk) (by kernel_rfl) hl)) ?_
  intro W base args ds gs before hval hW _ _ _ _ _ _
  exact contract H enc W base args ds gs before hval hW
theorem said : Rows.ParsePartsSaid :=
  OpenClaim.holds_of_cond 3 Tryz.f3 rfl rfl rfl rfl rfl rfl rfl ⟨rfl, rfl, rfl, rfl, rfl⟩ rfl rfl rfl rfl rfl (by kernel_rfl) Tryz.func3 (by kernel_rfl)
    (of_decide_eq_true (by kernel_rfl)) (by unfold Func.isWrapper; first | (rw [if_pos (by decide +kernel)]; kernel_rfl) | (rw [if_neg (by decide +kernel)]; exact ⟨rfl, rfl⟩))
    (fun os started H enc _ F => by rw [OpenClaim.pre_eq_preRow]; exact lifted os started H enc F)
theorem plain (f : FuncId) (fn : Func) (hf : Tryz.pinned.checked.prog.funcNamed "threadbare/threadbarelaw06.ParseParts" = some f) (hfn : Tryz.pinned.checked.prog.funcs[f]? = some fn) :
    true = Tryz.pinned.checked.prog.looks [] ∧ ∀ (j : Nat) t, fn.params[j]? = some t → Tryz.pinned.checked.prog.wantsStandIn t = false := by
  obtain rfl : f = 3 := Option.some.inj ((show Tryz.prog.funcNamed "threadbare/threadbarelaw06.ParseParts" = some 3 by kernel_rfl).symm.trans hf) |>.symm
  obtain rfl : fn = Tryz.f3 := (Option.some.inj (Tryz.func3.symm.trans hfn)).symm
  refine ⟨by kernel_rfl, fun j t ht => ?_⟩
  rw [Tryz.params3] at ht
  have ht := Array.mem_of_getElem? ht
  simp at ht
  rcases ht with rfl | rfl
  · exact (show Tryz.prog.wantsStandIn 9 = false by kernel_rfl)
  · exact (show Tryz.prog.wantsStandIn 22 = false by kernel_rfl)
theorem card : Rows.ParsePartsCardSaid :=
  Claim7.holds_tied_plain_at .later [] _ _ _ _ said (fun _ h => by cases h) (by kernel_rfl) (fun _ h => by cases h) parseParts_row_tie rfl ⟨rfl, rfl⟩ (by kernel_rfl) rfl plain (by kernel_rfl)
end Go.Proofs.YtkgpmkkodpjdfaaGreatDoor.parseParts
