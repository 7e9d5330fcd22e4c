/-
  Part K15 of the proofs of this seat: contracts of functions and plain facts, merged from 3 texts.
-/
import Derived.Deep.Cut
import Derived.Test.YtkgpmkkodpjdfaaGreatDoorK0
import Derived.Test.YtkgpmkkodpjdfaaGreatDoorK1
import Derived.Test.YtkgpmkkodpjdfaaGreatDoorK2
import Derived.Test.YtkgpmkkodpjdfaaGreatDoorK3
import Derived.Test.YtkgpmkkodpjdfaaGreatDoorK4
import Derived.Test.YtkgpmkkodpjdfaaGreatDoorK5
import Derived.Test.YtkgpmkkodpjdfaaGreatDoorK6
import Derived.Test.YtkgpmkkodpjdfaaGreatDoorK7
import Derived.Test.YtkgpmkkodpjdfaaGreatDoorK8
import Derived.Test.YtkgpmkkodpjdfaaGreatDoorK9
import Derived.Test.YtkgpmkkodpjdfaaGreatDoorK10
import Derived.Test.YtkgpmkkodpjdfaaGreatDoorK11
import Derived.Test.YtkgpmkkodpjdfaaGreatDoorK12
import Derived.Test.YtkgpmkkodpjdfaaGreatDoorK13
import Derived.Test.YtkgpmkkodpjdfaaGreatDoorK14
/-
  The reference 06: all contracts at once.
-/
namespace Go.Proofs.YtkgpmkkodpjdfaaGreatDoor.Pz
theorem all_rc : ∀ (n : Nat), (∀ w d l, l.length * 8 + 5 ≤ n → CmdsRC w d l) ∧ (∀ w d l, l.length * 8 + 3 ≤ n → WordRC w d l) ∧
    (∀ f g d l, l.length * 8 + 2 ≤ n → PartsRC f g d l) ∧ (∀ d l, l.length * 8 + 6 ≤ n → ScriptRC d l) ∧ (∀ g d l, l.length * 8 + 1 ≤ n → VarRC g d l) := by
  intro n
  induction n with
  | zero => refine ⟨?_, ?_, ?_, ?_, ?_⟩ <;> intros <;> omega
  | succ n ih =>
    obtain ⟨i1, i3, i4, i5, i6⟩ := ih
    refine ⟨fun w d l h => ?_, fun w d l h => wordR (fun l' h' => i4 .quote all3 d l' (by omega)) (fun l' h' => i4 (.bare w) all3 d l' (by omega)), fun f g d l h => ?_, fun d l h => bracketR (i1 true (d + 1) l (by omega)), fun g d l h => variableR (fun l' h' => i4 .paren g (d + 1) l' (by omega))⟩
    · cases w with
      | true => exact scriptR_true (fun l' h' => i3 true d l' (by omega))
      | false => exact scriptR_false (fun l' h' => i3 false d l' (by omega))
    · have hv : ∀ l' : Str, l'.length < l.length → VarRC g d l' := fun l' h' => i6 g d l' (by omega)
      have hs : ∀ l' : Str, l'.length < l.length → ScriptRC d l' := fun l' h' => i5 d l' (by omega)
      cases f with
      | bare wi => exact partsR_bare hv hs
      | quote => exact partsR_quote hv hs
      | paren => exact partsR_paren hv hs
      | never => exact partsR_never hv hs
theorem commands_rc (w : Bool) (d : Nat) (l : Str) : CmdsRC w d l := (all_rc (l.length * 8 + 5)).1 w d l (Nat.le_refl _)
theorem parts_rc (f : Upto) (g : Told) (d : Nat) (l : Str) : PartsRC f g d l := (all_rc (l.length * 8 + 2)).2.2.1 f g d l (Nat.le_refl _)
theorem var_rc (g : Told) (d : Nat) (l : Str) : VarRC g d l := (all_rc (l.length * 8 + 1)).2.2.2.2 g d l (Nat.le_refl _)
end Go.Proofs.YtkgpmkkodpjdfaaGreatDoor.Pz
/-
  The reference 06: Subst and Parts.
-/
namespace Go.Proofs.YtkgpmkkodpjdfaaGreatDoor.Pz
open Go.RowKit
def haltA (s : Str) : Halt → Int
  | .lacks b => ((s.length - b : Nat) : Int)
  | .wrong b => ((s.length - b : Nat) : Int)
  | .deep => 0
def haltE : Halt → Int
  | .lacks _ => 2
  | .wrong _ => 2
  | .deep => 4
theorem faultC_ae (s : Str) (h : Halt) : ∃ O, faultC s h = #[.int .i64 (haltE h), .int .i64 (haltA s h), .bool O] := by
  cases h with
  | lacks b => exact ⟨true, rfl⟩
  | wrong b => exact ⟨false, rfl⟩
  | deep => exact ⟨false, rfl⟩
theorem stopOf_ae {s : Str} {h : Halt} {a e' : Int} {o : Bool} (hs : stopOf s h = stopAt a e' o) : a = haltA s h ∧ e' = haltE h := by
  cases h with
  | lacks b => simp only [stopOf, stopAt, List.cons.injEq, PanicEntry.mk.injEq, Value.iface.injEq, Value.agg.injEq, Array.mk.injEq, Value.int.injEq, true_and, and_true] at hs; exact ⟨hs.1.symm, hs.2.1.symm⟩
  | wrong b => simp only [stopOf, stopAt, List.cons.injEq, PanicEntry.mk.injEq, Value.iface.injEq, Value.agg.injEq, Array.mk.injEq, Value.int.injEq, true_and, and_true] at hs; exact ⟨hs.1.symm, hs.2.1.symm⟩
  | deep => simp only [stopOf, stopAt, List.cons.injEq, PanicEntry.mk.injEq, Value.iface.injEq, Value.agg.injEq, Array.mk.injEq, Value.int.injEq, true_and, and_true] at hs; exact ⟨hs.1.symm, hs.2.1.symm⟩
theorem haltE_ne (h : Halt) : haltE h ≠ 0 := by cases h <;> simp [haltE]
/-- what a Subst answers, the reference's or the program's -/
def SubQ (g : Told) (s : Str) (w : World) (e : Ending) (w' : World) : Prop := Below w.heap.size w w' ∧
  match parts .never g 0 s with
  | .ok ts _ => ∃ v, e = .returned (.tuple #[v, .int .i64 0, .int .i64 0]) ∧ ToksIs 33 w' (New w.heap.size) v ts
  | .halt h => e = .returned (.tuple #[.slice none 0 0, .int .i64 (haltA s h), .int .i64 (haltE h)])
theorem glue_ne (p : Str) (ts : List Tok) : glue p ts ≠ [] := by
  cases ts with
  | nil => simp [glue]
  | cons x ts =>
    cases x
    rw [glue]
    split <;> simp
theorem never_ne {g : Told} {d : Nat} {c : UInt8} {t r : Str} {ts : List Tok} (h : parts .never g d (c :: t) = .ok ts r) : ts ≠ [] := by
  rw [parts_cons (f := .never) rfl] at h
  have hg : ∀ (p : Str) (R : Res (List Tok)), R.glue p = .ok ts r → ts ≠ [] := by
    intro p R hR
    cases R with
    | halt h => cases hR
    | ok us q =>
      have e : glue p us = ts := by
        have : Res.ok (glue p us) q = Res.ok ts r := hR
        injection this
      rw [← e]
      exact glue_ne p us
  have hc : ∀ (x : Tok) (R : Res (List Tok)), R.cons x = .ok ts r → ts ≠ [] := by
    intro x R hR
    cases R with
    | halt h => cases hR
    | ok us q =>
      have e : x :: us = ts := by
        have : Res.ok (x :: us) q = Res.ok ts r := hR
        injection this
      rw [← e]
      simp
  split at h
  · exact hg _ _ h
  · split at h
    · split at h
      · cases h
      · exact hg _ _ h
      · exact hc _ _ h
    · split at h
      · split at h
        · cases h
        · exact hc _ _ h
      · exact hg _ _ h
/-- the program's Subst answers so -/
theorem SubstQ.sub {g : Told} {s : Str} {w w' : World} {e : Ending} (h : SubstQ g s w e w') : SubQ g s w e w' := by
  refine ⟨h.1, ?_⟩
  have h2 := h.2
  cases hp : parts .never g 0 s with
  | halt hh =>
    rw [hp] at h2
    obtain ⟨a, e', o, h3, _, h4⟩ := h2
    obtain ⟨rfl, rfl⟩ := stopOf_ae h3
    exact h4
  | ok ts r =>
    rw [hp] at h2
    obtain ⟨v, h3, h4⟩ := h2
    refine ⟨v, h3, ?_⟩
    cases s with
    | nil =>
      rw [parts_end (f := .never) rfl] at hp
      injection hp with hp _
      rw [← hp]
      exact h4
    | cons c t =>
      have hne := never_ne hp
      have e1 : filled ts = ts := by
        cases ts with
        | nil => exact absurd rfl hne
        | cons x xs => rfl
      rw [if_neg (by simp), e1] at h4
      exact h4
set_option maxRecDepth 100000 in
set_option maxHeartbeats 1000000 in
theorem substRef_fn {s : Str} (hs : s.length ≤ 1000000) (g : Told) (w : World) : Calls Tryz.prog 12 #[.string ⟨s.toArray⟩, .bool g.slashes, .bool g.vars, .bool g.scripts] w (SubQ g s w) := by
  obtain ⟨N, hN⟩ : ∃ N, N = w.heap.size := ⟨_, rfl⟩
  obtain ⟨W, hW⟩ : ∃ W, W = w.alloc (.cells #[.string ⟨s.toArray⟩, .int .i64 0, .bool g.slashes, .bool g.vars, .bool g.scripts] 61) := ⟨_, rfl⟩
  have hrd : RrAt W N s 0 g := by rw [hW, hN]; exact heap_alloc_new _ _
  have hbw : Below w.heap.size w W := by rw [hW]; exact below1 _ _
  have hc : Calls Tryz.prog 33 #[.pointer (some ⟨N, 0, none⟩), .int .i64 0, .int .u8 1, .bool false] W _ := parts_rc .never g 0 s W N s 0 false hs (by omega) hrd (At.start s) (by intro wi e; cases e)
  have hWs : W.heap.size = N + 1 := by rw [hW, hN]; simp
  have HC := hid hc
  have HW := hid hW
  have HN := hid hN
  have HB := hid hbw
  obtain ⟨R, hR⟩ : ∃ R, R = parts .never g 0 s := ⟨_, rfl⟩
  have HR := hid hR
  clear hc hW hN hbw hrd hR
  go_enter Tryz.func12, Tryz.ntmps12
  go_wp2_with fail
  rw [← HW.out, ← HN.out]
  (with_reducible refine HC.out.mono ?_); intro e W3 h3
  rw [← HR.out] at h3
  cases R with
  | halt hh =>
    obtain ⟨O, hfc⟩ := faultC_ae s hh
    obtain ⟨rfl, _, hbut⟩ := h3
    rw [hfc]
    have HB3 := hid (HB.out.trans ((hbut.mono (show w.heap.size ≤ W.heap.size by have := HN.out; omega)).below (show w.heap.size ≤ N by rw [HN.out]; exact Nat.le_refl _)))
    clear hbut
    go_upto_region 3 with fail
    refine at_world fun W4 hW4 => ?_
    have hf4 : W4.heap[W3.heap.size]? = some (.cells #[.int .i64 (haltE hh), .int .i64 (haltA s hh), .bool O] 63 (0, 0)) := by rw [hW4]; exact heap_alloc_new _ _
    have HB4 := hid (show Below w.heap.size w W4 by rw [hW4]; exact HB3.out.trans ((below1 _ _).mono HB3.out.size))
    obtain ⟨k0, k1, k2⟩ := flt_cells hf4
    clear hW4 hf4
    go_region
    go_wp2
    refine bodyPost_ret (v := .tuple #[.slice none 0 0, .int .i64 (haltA s hh), .int .i64 (haltE hh)]) (by simp [results, Tryz.results12, go_sem]) rfl ?_
    exact ⟨HB4.out.drew, by rw [← HR.out]⟩
  | ok ts r =>
    obtain ⟨v, rfl, _, htk, hbut⟩ := h3
    obtain ⟨va, vn, vc, rfl⟩ : ∃ a n c, v = .slice a n c := by
      obtain ⟨a, cap, hv, _⟩ := RowIs.cell htk
      exact ⟨a, _, cap, hv⟩
    have HB3 := hid (HB.out.trans ((hbut.mono (show w.heap.size ≤ W.heap.size by have := HN.out; omega)).below (show w.heap.size ≤ N by rw [HN.out]; exact Nat.le_refl _)))
    have HT3 := hid htk
    clear hbut htk
    go_upto_region 3 with fail
    refine at_world fun W4 hW4 => ?_
    have hf4 : W4.heap[W3.heap.size]? = some (.cells #[.int .i64 0, .int .i64 0, .bool false] 63 (0, 0)) := by rw [hW4]; exact heap_alloc_new _ _
    have HB4 := hid (show Below w.heap.size w W4 by rw [hW4]; exact HB3.out.trans ((below1 _ _).mono HB3.out.size))
    have HT4 := hid (show ToksIs 33 W4 (New W.heap.size) (.slice va vn vc) ts by rw [hW4]; exact HT3.out.fwd (below1 _ _))
    obtain ⟨k0, k1, k2⟩ := flt_cells hf4
    clear hW4 hf4
    go_region
    go_wp2
    refine bodyPost_ret (v := .tuple #[.slice va vn vc, .int .i64 0, .int .i64 0]) (by simp [results, Tryz.results12, go_sem]) rfl ?_
    refine ⟨HB4.out.drew, ?_⟩
    rw [← HR.out]
    exact ⟨_, rfl, HT4.out.keep (fun g hg => show w.heap.size ≤ g by have hg2 : W.heap.size ≤ g := hg; have := HN.out; omega) (fun _ _ => rfl)⟩
set_option maxRecDepth 100000 in
theorem partsRef_fn {s : Str} (hs : s.length ≤ 1000000) (w : World) : Calls Tryz.prog 9 #[.string ⟨s.toArray⟩] w (SubQ all3 s w) := by
  have hc : Calls Tryz.prog 12 #[.string ⟨s.toArray⟩, .bool true, .bool true, .bool true] w (SubQ all3 s w) := substRef_fn hs all3 w
  have HC := hid hc
  clear hc
  go_enter Tryz.func9, Tryz.ntmps9
  go_wp2_with fail
  (with_reducible refine HC.out.mono ?_); intro e W h
  obtain ⟨v, a, b, rfl⟩ : ∃ v a b, e = .returned (.tuple #[v, .int .i64 a, .int .i64 b]) := by
    have h2 := h.2
    cases hp : parts .never all3 0 s with
    | halt hh => rw [hp] at h2; exact ⟨_, _, _, h2⟩
    | ok ts r => rw [hp] at h2; obtain ⟨v, e, _⟩ := h2; exact ⟨v, _, _, e⟩
  have H := hid h
  clear h
  go_wp2
  refine bodyPost_ret (v := .tuple #[v, .int .i64 a, .int .i64 b]) (by simp [results, Tryz.results9, go_sem]) rfl ?_
  exact H.out
set_option maxRecDepth 100000 in
theorem partsProg_fn {s : Str} (hs : s.length ≤ 1000000) (w : World) : Calls Tryz.prog 8 #[.string ⟨s.toArray⟩] w (SubQ all3 s w) := by
  have hc : Calls Tryz.prog 11 #[.string ⟨s.toArray⟩, .bool true, .bool true, .bool true] w (SubQ all3 s w) := (subst_fn hs all3 w).mono fun _ _ h => SubstQ.sub h
  have HC := hid hc
  clear hc
  go_enter Tryz.func8, Tryz.ntmps8
  go_wp2_with fail
  (with_reducible refine HC.out.mono ?_); intro e W h
  obtain ⟨v, a, b, rfl⟩ : ∃ v a b, e = .returned (.tuple #[v, .int .i64 a, .int .i64 b]) := by
    have h2 := h.2
    cases hp : parts .never all3 0 s with
    | halt hh => rw [hp] at h2; exact ⟨_, _, _, h2⟩
    | ok ts r => rw [hp] at h2; obtain ⟨v, e, _⟩ := h2; exact ⟨v, _, _, e⟩
  have H := hid h
  clear h
  go_wp2
  refine bodyPost_ret (v := .tuple #[v, .int .i64 a, .int .i64 b]) (by simp [results, Tryz.results8, go_sem]) rfl ?_
  exact H.out
end Go.Proofs.YtkgpmkkodpjdfaaGreatDoor.Pz
/-
  ParseParts: the walk.
-/
namespace Go.Proofs.YtkgpmkkodpjdfaaGreatDoor.Pz
open Go.RowKit
/-- what a Subst tells: the place, the error, the tokens -/
def subV (g : Told) (s : Str) : Int × Int × List Tok :=
  match parts .never g 0 s with
  | .ok ts _ => (0, 0, ts)
  | .halt h => (haltA s h, haltE h, [])
theorem SubQ.shape {g : Told} {s : Str} {w w' : World} {e : Ending} (h : SubQ g s w e w') : ∃ a n c, e = .returned (.tuple #[.slice a n c, .int .i64 (subV g s).1, .int .i64 (subV g s).2.1]) ∧ Below w.heap.size w w' ∧
    ToksIs 33 w' (New w.heap.size) (.slice a n c) (subV g s).2.2 := by
  obtain ⟨hb, h⟩ := h
  unfold subV
  cases hp : parts .never g 0 s with
  | halt hh =>
    rw [hp] at h
    exact ⟨none, 0, 0, h, hb, RowIs.nil⟩
  | ok ts r =>
    rw [hp] at h
    obtain ⟨v, he, ht⟩ := h
    obtain ⟨a, cap, rfl⟩ : ∃ a cap, v = .slice a ts.length cap := by
      obtain ⟨a, cap, hv, _⟩ := RowIs.cell ht
      exact ⟨a, cap, hv⟩
    exact ⟨a, _, cap, he, hb, ht⟩
theorem below_drewN (w : World) (n m : Nat) : Below n w (w.drewN m) := ⟨rfl, rfl, rfl, Nat.le_refl _, fun _ _ => rfl⟩
set_option maxRecDepth 100000 in
set_option maxHeartbeats 4000000 in
theorem parseParts_fn (s : List UInt8) (t0 t1 t2 : Bool) (w : World) (ls : s.length ≤ 9223372036854775807) :
    Calls Tryz.prog 3 #[.string ⟨s.toArray⟩, .agg #[.bool t0, .bool t1, .bool t2]] w fun e w' => e = .returned (.bool true) ∧ Below w.heap.size w w' := by
  have AW := fun w => hid (awake_fn w)
  have LA := fun w => hid (long_fn s w)
  obtain ⟨N, hN⟩ : ∃ N, N = w.heap.size := ⟨_, rfl⟩
  obtain ⟨W, hW⟩ : ∃ W, W = w.alloc (.cells #[.bool t0, .bool t1, .bool t2] 22) := ⟨_, rfl⟩
  have HN := hid hN
  have HW := hid hW
  have hbk : W.heap[N]? = some (.cells #[.bool t0, .bool t1, .bool t2] 22 (0, 0)) := by rw [hW, hN]; exact heap_alloc_new _ _
  have HBK := hid hbk
  have HB := hid (show Below w.heap.size w W by rw [hW]; exact below1 _ _)
  clear hN hW hbk
  by_cases hla : 800 < s.length
  · rw [decide_eq_true hla] at LA
    go_enter Tryz.func3, Tryz.ntmps3
    go_wp2_with fail
    rw [← HW.out]
    (with_reducible refine (LA _).out.mono ?_); rintro e w1 ⟨rfl, hw⟩; subst w1
    go_wp2_with fail
    (with_reducible refine (AW _).out.mono ?_); rintro e w2 ⟨rfl, hb⟩
    go_wp2
    go_ret
    exact ⟨rfl, HB.out.trans (hb.mono HB.out.size)⟩
  rw [decide_eq_false hla] at LA
  have PA := hid (partsProg_fn (s := s) (by omega) W)
  have PB := fun w => hid (partsRef_fn (s := s) (by omega) w)
  have SA : ∀ w, Hid (Calls Tryz.prog 11 #[.string ⟨s.toArray⟩, .bool t0, .bool t1, .bool t2] w (SubQ ⟨t0, t1, t2⟩ s w)) := fun w => hid ((subst_fn (s := s) (by omega) ⟨t0, t1, t2⟩ w).mono fun _ _ h => SubstQ.sub h)
  have SB : ∀ w, Hid (Calls Tryz.prog 12 #[.string ⟨s.toArray⟩, .bool t0, .bool t1, .bool t2] w (SubQ ⟨t0, t1, t2⟩ s w)) := fun w => hid (substRef_fn (s := s) (by omega) ⟨t0, t1, t2⟩ w)
  go_enter Tryz.func3, Tryz.ntmps3
  go_wp2_with fail
  rw [← HW.out, ← HN.out]
  (with_reducible refine (LA _).out.mono ?_); rintro e w1 ⟨rfl, hw⟩; subst w1
  go_wp2_with fail
  (with_reducible refine PA.out.mono ?_); intro e W1 h1
  obtain ⟨a1, n1, c1, rfl, hb1, ht1⟩ := h1.shape
  obtain ⟨V, hV⟩ : ∃ V, V = subV all3 s := ⟨_, rfl⟩
  rw [← hV] at ht1
  rw [← hV]
  have HB1 := hid (HB.out.trans (hb1.mono HB.out.size))
  have HK1 := hid ((hb1.block N (Array.getElem?_eq_some_iff.1 HBK.out).1).trans HBK.out)
  have HT1 := hid ht1
  have HV := hid hV
  clear h1 hb1 ht1 hV
  go_wp2_with fail
  (with_reducible refine (PB _).out.mono ?_); intro e W2 h2
  obtain ⟨a2, n2, c2, rfl, hb2, ht2⟩ := h2.shape
  rw [← HV.out] at ht2
  rw [← HV.out]
  have hst := hid (sameTokens_fn _ V.2.2 (Nat.le_refl _) W2 _ _ _ _ (HT1.out.ahead hb2) ht2)
  have HB2 := hid (HB1.out.trans (hb2.mono HB1.out.size))
  have HK2 := hid ((hb2.block N (Array.getElem?_eq_some_iff.1 HK1.out).1).trans HK1.out)
  clear h2 hb2 ht2
  obtain ⟨A, hA⟩ : ∃ A, A = V.1 := ⟨_, rfl⟩
  obtain ⟨E, hE⟩ : ∃ E, E = V.2.1 := ⟨_, rfl⟩
  rw [← hA, ← hE]
  clear hA hE
  go_wp2_with fail
  (with_reducible refine hst.out.mono ?_); rintro e W3 ⟨rfl, m, hW3⟩
  have HB3 := hid (show Below w.heap.size w W3 by rw [hW3]; exact HB2.out.trans (below_drewN _ _ _))
  have hk3 : W3.heap[N]? = some (.cells #[.bool t0, .bool t1, .bool t2] 22 (0, 0)) := by rw [hW3]; exact HK2.out
  obtain ⟨k0, k1, k2⟩ := flt_cells hk3
  have HK3 := hid hk3
  have SA3 := SA W3
  clear hW3 hk3 hst HT1
  go_wp2_with fail
  (with_reducible refine SA3.out.mono ?_); intro e W4 h4
  obtain ⟨a4, n4, c4, rfl, hb4, ht4⟩ := h4.shape
  obtain ⟨V', hV'⟩ : ∃ V, V = subV ⟨t0, t1, t2⟩ s := ⟨_, rfl⟩
  rw [← hV'] at ht4
  rw [← hV']
  have HB4 := hid (HB3.out.trans (hb4.mono HB3.out.size))
  have hk4 := (hb4.block N (Array.getElem?_eq_some_iff.1 HK3.out).1).trans HK3.out
  have HT4 := hid ht4
  have HV' := hid hV'
  clear h4 hb4 ht4 hV' k0 k1 k2 SA3
  obtain ⟨k0, k1, k2⟩ := flt_cells hk4
  have SB4 := SB W4
  clear hk4
  go_wp2_with fail
  (with_reducible refine SB4.out.mono ?_); intro e W5 h5
  obtain ⟨a5, n5, c5, rfl, hb5, ht5⟩ := h5.shape
  rw [← HV'.out] at ht5
  rw [← HV'.out]
  have hst := hid (sameTokens_fn _ V'.2.2 (Nat.le_refl _) W5 _ _ _ _ (HT4.out.ahead hb5) ht5)
  have HB5 := hid (HB4.out.trans (hb5.mono HB4.out.size))
  clear h5 hb5 ht5 k0 k1 k2 SB4
  obtain ⟨A', hA⟩ : ∃ A, A = V'.1 := ⟨_, rfl⟩
  obtain ⟨E', hE⟩ : ∃ E, E = V'.2.1 := ⟨_, rfl⟩
  rw [← hA, ← hE]
  clear hA hE
  go_wp2_with fail
  (with_reducible refine hst.out.mono ?_); rintro e W6 ⟨rfl, m, hW6⟩
  have HB6 := hid (show Below w.heap.size w W6 by rw [hW6]; exact HB5.out.trans (below_drewN _ _ _))
  clear hW6 hst HT4
  go_wp2_with fail
  (with_reducible refine (AW _).out.mono ?_); rintro e W7 ⟨rfl, hb7⟩
  go_wp2
  go_ret
  exact ⟨rfl, HB6.out.trans (hb7.mono HB6.out.size)⟩
end Go.Proofs.YtkgpmkkodpjdfaaGreatDoor.Pz
