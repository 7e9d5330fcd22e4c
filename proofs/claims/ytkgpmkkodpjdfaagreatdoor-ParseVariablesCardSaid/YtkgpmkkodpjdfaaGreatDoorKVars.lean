/-
  ParseVariablesCard: the law's card and what it alone needs, merged from 6 texts. Conditions: the row's own.
-/
import Derived.Deep.Cut
import Derived.Test.YtkgpmkkodpjdfaaGreatDoorCards
import Derived.Test.YtkgpmkkodpjdfaaGreatDoorTie
import Derived.Deep.DeepHandedRow
import Derived.ProofKit
import Derived.OpenShut
import Derived.Lay
import Derived.MakeChecks
import Derived.ChangeMaps5
import Derived.Test.YtkgpmkkodpjdfaaGreatDoorK0
import Derived.Test.YtkgpmkkodpjdfaaGreatDoorK1
import Derived.Test.YtkgpmkkodpjdfaaGreatDoorK2
import Derived.Test.YtkgpmkkodpjdfaaGreatDoorK3
import Derived.Test.YtkgpmkkodpjdfaaGreatDoorK4
import Derived.Test.YtkgpmkkodpjdfaaGreatDoorK5
import Derived.Test.YtkgpmkkodpjdfaaGreatDoorK6
import Derived.Test.YtkgpmkkodpjdfaaGreatDoorK7
import Derived.Test.YtkgpmkkodpjdfaaGreatDoorK8
import Derived.Test.YtkgpmkkodpjdfaaGreatDoorK9
import Derived.Test.YtkgpmkkodpjdfaaGreatDoorK10
import Derived.Test.YtkgpmkkodpjdfaaGreatDoorK11
import Derived.Test.YtkgpmkkodpjdfaaGreatDoorK12
import Derived.Test.YtkgpmkkodpjdfaaGreatDoorK13
import Derived.Test.YtkgpmkkodpjdfaaGreatDoorK14
import Derived.Test.YtkgpmkkodpjdfaaGreatDoorK15
/-
  The reference 06: Variable.
-/
namespace Go.Proofs.YtkgpmkkodpjdfaaGreatDoor.Pz
open Go.RowKit
/-- what Variable tells: the error, or the token and what is left -/
def varAns (s : Str) (at' : Int) : Int ⊕ (Tok × Nat) :=
  if 0 ≤ at' ∧ at' < s.length then
    match s.drop at'.toNat with
    | c :: l =>
      if c == 36 then
        match varOf all3 0 l with
        | .halt h => .inl (haltE h)
        | .ok none _ => .inl 8
        | .ok (some t) r => .inr (t, s.length - r.length)
      else .inl 8
    | [] => .inl 8
  else .inl 8
def VarQ (s : Str) (at' : Int) (w : World) (e : Ending) (w' : World) : Prop := Below w.heap.size w w' ∧
  match varAns s at' with
  | .inl E => E ≠ 0 ∧ e = .returned (.tuple #[.agg #[.int .i64 0, .string ⟨#[]⟩, .bool false, .slice none 0 0], .int .i64 0, .int .i64 E])
  | .inr (.mk k x hh ix, p) => ∃ v, e = .returned (.tuple #[.agg #[.int .i64 (k : Nat), .string ⟨x.toArray⟩, .bool hh, v], .int .i64 (p : Nat), .int .i64 0]) ∧ ToksIs 33 w' (New w.heap.size) v ix
theorem varAns_bad {s : Str} {at' : Int} (h : at' < 0 ∨ (s.length : Int) ≤ at') : varAns s at' = .inl 8 := by
  unfold varAns
  rw [if_neg (by omega)]
theorem varAns_at {s l : Str} {c : UInt8} {i : Nat} (h : At s (c :: l) i) : varAns s (i : Int) = if c == 36 then (match varOf all3 0 l with | .halt h => .inl (haltE h) | .ok none _ => .inl 8 | .ok (some t) r => .inr (t, s.length - r.length)) else .inl 8 := by
  unfold varAns
  have h1 := h.lt
  have h2 : s.drop (i : Int).toNat = c :: l := h.rest
  rw [if_pos (by omega), h2]
/-- one token in a block, stored anew -/
structure TB (N : Nat) (w W : World) (a b c d : Value) : Prop where
  tok : W.heap[N]? = some (.cells #[a, b, c, d] 33 (0, 0))
  low : Below N w W
theorem TB.ltN {N : Nat} {w W : World} {a b c d : Value} (h : TB N w W a b c d) : N < W.heap.size := (Array.getElem?_eq_some_iff.1 h.tok).1
theorem TB.fwd {N : Nat} {w W W' : World} {a b c d : Value} (h : TB N w W a b c d) (hb : Below (N + 1) W W') : TB N w W' a b c d :=
  ⟨(hb.block N (by omega)).trans h.tok, h.low.trans (hb.mono (by omega))⟩
theorem TB.put {N : Nat} {w W : World} {a b c d : Value} (h : TB N w W a b c d) (x y z u : Value) : TB N w ((((W.setCell ⟨N, 0, none⟩ x).setCell ⟨N, 1, none⟩ y).setCell ⟨N, 2, none⟩ z).setCell ⟨N, 3, none⟩ u) x y z u :=
  ⟨set4h h.tok _ _ _ _, ((((((but_of_below h.low N).setCell (.inl rfl) x).setCell (.inl rfl) y).setCell (.inl rfl) z).setCell (.inl rfl) u)).below (Nat.le_refl _)⟩
theorem TB.keep {N : Nat} {W : World} {x y z u : Value} (k : Nat) (hk : k ≠ N) : ((((W.setCell ⟨N, 0, none⟩ x).setCell ⟨N, 1, none⟩ y).setCell ⟨N, 2, none⟩ z).setCell ⟨N, 3, none⟩ u).heap[k]? = W.heap[k]? := by
  rw [Below.heap_setCell _ _ _ _ (fun e => hk e), Below.heap_setCell _ _ _ _ (fun e => hk e), Below.heap_setCell _ _ _ _ (fun e => hk e), Below.heap_setCell _ _ _ _ (fun e => hk e)]
theorem TB.facts {N : Nat} {w W : World} {a b c d : Value} (h : TB N w W a b c d) : (W.cell? ⟨N, 0, none⟩ = some a ∧ W.cell? ⟨N, 1, none⟩ = some b ∧ W.cell? ⟨N, 2, none⟩ = some c ∧ W.cell? ⟨N, 3, none⟩ = some d) ∧ ∀ o, W.frozen? ⟨N, o, none⟩ = false :=
  ⟨⟨by rw [Lib.cell_of_heap h.tok]; rfl, by rw [Lib.cell_of_heap h.tok]; rfl, by rw [Lib.cell_of_heap h.tok]; rfl, by rw [Lib.cell_of_heap h.tok]; rfl⟩, fun o => Lib.frozen_of_heap h.tok o⟩
end Go.Proofs.YtkgpmkkodpjdfaaGreatDoor.Pz
/-
  The program's Variable: its function, called by 'reads'.
-/
namespace Go.Proofs.YtkgpmkkodpjdfaaGreatDoor.Pz
open Go.RowKit
theorem var_c (g : Told) (d : Nat) (l : Str) : VarC g d l := (all_c (l.length * 8 + 1)).2.2.2.2.2 g d l (Nat.le_refl _)
/-- all but three blocks stay -/
structure TriF (a b c : Nat) (w w' : World) : Prop where
  os : w'.os = w.os
  tape : w'.tape = w.tape
  output : w'.output = w.output
  size : w.heap.size ≤ w'.heap.size
  block : ∀ k, k < w.heap.size → k ≠ a → k ≠ b → k ≠ c → w'.heap[k]? = w.heap[k]?
theorem TriF.start {a b c : Nat} {w w1 : World} (h : But a w.heap.size w w1) : TriF a b c w w1 := ⟨h.os, h.tape, h.output, h.size, fun k h1 h2 _ _ => h.block k h1 h2⟩
theorem TriF.set {a b c : Nat} {w w1 : World} (h : TriF a b c w w1) {p : Addr} (hp : p.block = b ∨ p.block = c) (v : Value) : TriF a b c w (w1.setCell p v) :=
  ⟨h.os, h.tape, h.output, by have := h.size; simp [World.setCell]; omega, fun k h1 h2 h3 h4 => by
    rw [Below.heap_setCell _ _ _ _ (fun e => by rcases hp with hp | hp <;> omega)]
    exact h.block k h1 h2 h3 h4⟩
theorem TriF.of {a b c : Nat} {w w1 : World} (h : But a w.heap.size w w1) {x y z u v : Value} :
    TriF a b c w (((((w1.setCell ⟨b, 0, none⟩ x).setCell ⟨b, 1, none⟩ y).setCell ⟨b, 2, none⟩ z).setCell ⟨b, 3, none⟩ u).setCell ⟨c, 0, none⟩ v) :=
  (((((TriF.start (b := b) (c := c) h).set (p := ⟨b, 0, none⟩) (.inl rfl) x).set (p := ⟨b, 1, none⟩) (.inl rfl) y).set (p := ⟨b, 2, none⟩) (.inl rfl) z).set (p := ⟨b, 3, none⟩) (.inl rfl) u).set (p := ⟨c, 0, none⟩) (.inr rfl) v
set_option maxRecDepth 100000 in
set_option maxHeartbeats 1000000 in
/-- what Variable's function does -/
theorem variable1_fn {w : World} {rb p N q i : Nat} {s l : Str} (hs : s.length ≤ 1000000) (hp : Box w p 52 (.pointer (some ⟨rb, 0, none⟩)))
    (ht : w.heap[N]? = some (.cells #[.int .i64 0, .string ⟨#[]⟩, .bool false, .slice none 0 0] 33 (0, 0))) (hq : Box w q 4 (.bool false)) (h : RdAt w rb s i 0 all3) (hat : At s (36 :: l) i) (hNq : N ≠ q) :
    Calls Tryz.prog 35 #[.pointer (some ⟨p, 0, none⟩), .pointer (some ⟨N, 0, none⟩), .pointer (some ⟨q, 0, none⟩)] w fun e w' => TriF rb N q w w' ∧
      match varOf all3 0 l with
      | .halt hh => e = .panicked (stopOf s hh) ∧ w'.heap[N]? = some (.cells #[.int .i64 0, .string ⟨#[]⟩, .bool false, .slice none 0 0] 33 (0, 0))
      | .ok none _ => e = .returned (.tuple #[]) ∧ w'.heap[N]? = some (.cells #[.int .i64 0, .string ⟨#[]⟩, .bool false, .slice none 0 0] 33 (0, 0)) ∧ Box w' q 4 (.bool false) ∧ RdAt w' rb s i 0 all3
      | .ok (some (.mk k x hx ix)) r => e = .returned (.tuple #[]) ∧ Box w' q 4 (.bool true) ∧ RdAt w' rb s (s.length - r.length) 0 all3 ∧
          ∃ v, w'.heap[N]? = some (.cells #[.int .i64 (k : Nat), .string ⟨x.toArray⟩, .bool hx, v] 33 (0, 0)) ∧ ToksIs 33 w' (New w.heap.size) v ix := by
  have c0 := hp.cell
  have hc := hid (var_c all3 0 l w rb s i hs (by omega) h hat)
  have HT := hid ht
  have HQ := hid hq
  have hNrb : N ≠ rb := cells_ne ht h (by decide)
  have hqrb : q ≠ rb := cells_ne hq h (by decide)
  have hltN : N < w.heap.size := (Array.getElem?_eq_some_iff.1 ht).1
  have hltq : q < w.heap.size := hq.lt
  obtain ⟨R, hR⟩ : ∃ R, R = varOf all3 0 l := ⟨_, rfl⟩
  rw [← hR] at hc ⊢
  clear hR ht hq h hp
  have post : ∀ w1, But rb w.heap.size w w1 → w1.heap[N]? = some (.cells #[.int .i64 0, .string ⟨#[]⟩, .bool false, .slice none 0 0] 33 (0, 0)) ∧ Box w1 q 4 (.bool false) := fun w1 hb => ⟨hb.heap hltN hNrb HT.out, hb.heap hltq hqrb HQ.out⟩
  have HPO := hid post
  clear post
  go_enter Tryz.func35, Tryz.ntmps35
  go_wp2_with fail
  (with_reducible refine hc.out.mono ?_); intro e w1 h1
  cases R with
  | halt hh =>
    obtain ⟨rfl, hb⟩ := h1
    exact ⟨rfl, ⟨hb.os, hb.tape, hb.output, hb.size, fun k h1 h2 _ _ => hb.block k h1 h2⟩, rfl, (HPO.out w1 hb).1⟩
  | ok o r =>
    cases o with
    | none =>
      obtain ⟨rfl, hrd, hb⟩ := h1
      obtain ⟨ht1, hq1⟩ := HPO.out w1 hb
      have HB := hid hb
      have HRD := hid hrd
      have T := TB.mk (w := w1) (N := N) ht1 (Below.refl _ _)
      obtain ⟨⟨t0, t1, t2, t3⟩, hfz⟩ := T.facts
      have f0 := hfz 0
      have f1 := hfz 1
      have f2 := hfz 2
      have f3 := hfz 3
      have k0 := hq1.cell
      have z0 := hq1.free
      have HT1 := hid T
      have HQ1 := hid hq1
      have hl1 : N < w1.heap.size := T.ltN
      have hl2 : q < w1.heap.size := hq1.lt
      clear hfz T hb hrd hq1 ht1
      go_wp2
      go_end0
      have hp := HT1.out.put (.int .i64 0) (.string ⟨#[]⟩) (.bool false) (.slice none 0 0)
      refine ⟨TriF.of HB.out, rfl, ?_, ?_, ?_⟩
      · exact (Below.heap_setCell _ _ _ _ (fun e => hNq e)).trans hp.tok
      · have hq2 : Box _ q 4 (.bool false) := (TB.keep (x := .int .i64 0) (y := .string ⟨#[]⟩) (z := .bool false) (u := .slice none 0 0) q (Ne.symm hNq)).trans HQ1.out
        exact hq2.set (.bool false)
      · exact (Below.heap_setCell _ _ _ _ (fun e => hqrb e.symm)).trans ((TB.keep rb (Ne.symm hNrb)).trans HRD.out)
    | some y =>
      obtain ⟨k, x, hx, ix⟩ := y
      obtain ⟨v, rfl, hrd, htk, hb⟩ := h1
      obtain ⟨va, vn, vc, rfl⟩ : ∃ a n c, v = .slice a n c := by
        obtain ⟨a, cap, hv, _⟩ := RowIs.cell htk
        exact ⟨a, _, cap, hv⟩
      obtain ⟨ht1, hq1⟩ := HPO.out w1 hb
      have HB := hid hb
      have HRD := hid hrd
      have HTK := hid htk
      have T := TB.mk (w := w1) (N := N) ht1 (Below.refl _ _)
      obtain ⟨⟨t0, t1, t2, t3⟩, hfz⟩ := T.facts
      have f0 := hfz 0
      have f1 := hfz 1
      have f2 := hfz 2
      have f3 := hfz 3
      have k0 := hq1.cell
      have z0 := hq1.free
      have HT1 := hid T
      have HQ1 := hid hq1
      have hl1 : N < w1.heap.size := T.ltN
      have hl2 : q < w1.heap.size := hq1.lt
      clear hfz T hb hrd hq1 ht1 htk
      go_wp2
      go_end0
      have hp := HT1.out.put (.int .i64 (k : Nat)) (.string ⟨x.toArray⟩) (.bool hx) (.slice va vn vc)
      refine ⟨TriF.of HB.out, rfl, ?_, ?_, .slice va vn vc, ?_, ?_⟩
      · have hq2 : Box _ q 4 (.bool false) := (TB.keep (x := .int .i64 (k : Nat)) (y := .string ⟨x.toArray⟩) (z := .bool hx) (u := .slice va vn vc) q (Ne.symm hNq)).trans HQ1.out
        exact hq2.set (.bool true)
      · exact (Below.heap_setCell _ _ _ _ (fun e => hqrb e.symm)).trans ((TB.keep rb (Ne.symm hNrb)).trans HRD.out)
      · exact (Below.heap_setCell _ _ _ _ (fun e => hNq e)).trans hp.tok
      · exact HTK.out.keep (fun _ h => h) (fun g hg => by
          have hg2 : w.heap.size ≤ g := hg
          have e1 : g ≠ q := by omega
          have e2 : g ≠ N := by omega
          exact (Below.heap_setCell _ _ _ _ (fun e => e1 e)).trans (TB.keep g e2))
end Go.Proofs.YtkgpmkkodpjdfaaGreatDoor.Pz
/-
  The program's Variable.
-/
namespace Go.Proofs.YtkgpmkkodpjdfaaGreatDoor.Pz
open Go.RowKit
set_option maxRecDepth 100000 in
set_option maxHeartbeats 600000 in
theorem progVariable_fn {s : Str} (hs : s.length ≤ 1000000) (at' : Int) (w : World) : Calls Tryz.prog 13 #[.string ⟨s.toArray⟩, .int .i64 at'] w (VarQ s at' w) := by
  have hmf : ∀ (fn : Fn) (first cap : Array Value) (w : World), (Instr.makeFunc fn first cap).run Tryz.prog w = .ok (.func fn first cap) w := fun _ _ _ _ => rfl
  have eg : ∀ args w, (callFunc 35 args).run Tryz.prog w = .ok (.enter 35 args) w := enters_of Tryz.func35 (by kernel_rfl) rfl
  have EG := hid eg
  clear eg
  have hsz : (⟨s.toArray⟩ : ByteArray).size = s.length := Lib.size_mk _
  obtain ⟨N, hN⟩ : ∃ N, N = w.heap.size := ⟨_, rfl⟩
  obtain ⟨W, hW⟩ : ∃ W, W = w.alloc (.cells #[.int .i64 0, .string ⟨#[]⟩, .bool false, .slice none 0 0] 33) := ⟨_, rfl⟩
  have hT : TB N w W (.int .i64 0) (.string ⟨#[]⟩) (.bool false) (.slice none 0 0) := by rw [hW, hN]; exact ⟨heap_alloc_new _ _, below1 _ _⟩
  have hWs : W.heap.size = N + 1 := by rw [hW, hN]; simp
  have HT0 := hid hT
  have HN := hid hN
  have HW := hid hW
  have HS := hid hWs
  clear hT hN hW hWs
  by_cases h1 : at' < 0
  · have h1' : decide (at' < 0) = true := decide_eq_true h1
    have hans : varAns s at' = .inl 8 := varAns_bad (.inl h1)
    have HANS := hid hans
    clear hans
    go_enter Tryz.func13, Tryz.ntmps13
    go_wp2_with fail
    rw [← HW.out, ← HN.out]
    have hp := HT0.out
    have p1 := hp.tok
    refine bodyPost_ret (results_ctt rfl _ rfl p1 Tryz.underlying33 rfl Tryz.infoT) rfl ?_
    unfold VarQ
    rw [HANS.out]
    refine ⟨by rw [← HN.out]; exact hp.low, by decide, rfl⟩
  · by_cases h2 : (s.length : Int) ≤ at'
    · have h1' : decide (at' < 0) = false := decide_eq_false h1
      have h2' : decide ((s.length : Int) ≤ at') = true := decide_eq_true h2
      have hans : varAns s at' = .inl 8 := varAns_bad (.inr h2)
      have HANS := hid hans
      clear hans
      go_enter Tryz.func13, Tryz.ntmps13
      go_wp2_with fail
      rw [← HW.out, ← HN.out]
      have hp := HT0.out
      have p1 := hp.tok
      refine bodyPost_ret (results_ctt rfl _ rfl p1 Tryz.underlying33 rfl Tryz.infoT) rfl ?_
      unfold VarQ
      rw [HANS.out]
      refine ⟨by rw [← HN.out]; exact hp.low, by decide, rfl⟩
    · obtain ⟨i, rfl⟩ : ∃ i : Nat, at' = (i : Int) := ⟨at'.toNat, by omega⟩
      have hil : i < s.length := by omega
      have h2' : decide (s.length ≤ i) = false := by rw [decide_eq_false]; omega
      clear h1 h2
      obtain ⟨c, l, hcl⟩ : ∃ c l, s.drop i = c :: l := ⟨_, _, List.drop_eq_getElem_cons hil⟩
      have hat : At s (c :: l) i := ⟨by have := congrArg List.length hcl; rw [List.length_drop] at this; rw [← this]; omega, hcl⟩
      clear hcl
      by_cases hc : c = 36
      · subst hc
        have hbyte := hat.byte
        have hlt := hat.lt
        have hans := varAns_at hat
        rw [if_pos (by decide)] at hans
        have HAT := hid hat
        have HANS0 := hid hans
        have hwf := hid (whole_fn s W)
        clear hat hans
        go_enter Tryz.func13, Tryz.ntmps13
        go_wp2_with fail
        rw [← HW.out, ← HN.out]
        (with_reducible refine hwf.out.mono ?_); rintro e W1 ⟨rfl, hW1⟩
        rw [HS.out]
        have hrd1 : RdAt W1 (N + 1) s 0 0 all3 := by rw [hW1, ← HS.out]; exact heap_alloc_new _ _
        have hs1 : W1.heap.size = N + 1 + 1 := by rw [hW1]; simp; exact HS.out
        have HT1 := hid (HT0.out.fwd (show Below (N + 1) W W1 by rw [← HS.out, hW1]; exact below1 _ _))
        have HS1 := hid hs1
        have HR1 := hid hrd1
        clear hW1 hrd1 hs1
        obtain ⟨c0, c1, _⟩ := HR1.out.cells
        have z1 := HR1.out.free 1
        have hlr : N + 1 < W1.heap.size := HR1.out.lt
        -- behind the two boxes
        obtain ⟨W2, hW2⟩ : ∃ W2, W2 = ((W1.setCell ⟨N + 1, 1, none⟩ (.int .i64 (i : Nat))).alloc (.cells #[.pointer (some ⟨N + 1, 0, none⟩)] 52)).alloc (.cells #[.bool false] 4) := ⟨_, rfl⟩
        have HW2 := hid hW2
        clear hW2
        have hs1' := HS1.out
        have b12 : Below W1.heap.size (W1.setCell ⟨N + 1, 1, none⟩ (.int .i64 (i : Nat))) W2 := by
          rw [HW2.out]
          exact ((Below.refl _ _).alloc (by simp [World.setCell]) _).alloc (by simp [World.setCell]) _
        have hs2 : W2.heap.size = N + 1 + 1 + 1 + 1 := by rw [HW2.out]; simp [World.setCell]; exact hs1'
        obtain ⟨W3, hW3⟩ : ∃ W3, W3 = W2.alloc (.cells #[.int .i64 0, .int .i64 0, .bool false] 56) := ⟨_, rfl⟩
        have b23 : Below W2.heap.size W2 W3 := by rw [hW3]; exact below1 _ _
        have hk1 : ∀ k, k < N + 1 + 1 → k ≠ N + 1 → W3.heap[k]? = W1.heap[k]? := fun k h1 h2 => (b23.block k (by omega)).trans ((b12.block k (by omega)).trans (Below.heap_setCell _ _ _ _ (fun e => h2 e)))
        have m0 : W3.heap[N]? = some (.cells #[.int .i64 0, .string ⟨#[]⟩, .bool false, .slice none 0 0] 33 (0, 0)) := (hk1 N (by omega) (by omega)).trans HT1.out.tok
        have m1 : RdAt W3 (N + 1) s i 0 all3 := by
          have h0 : (W1.setCell ⟨N + 1, 1, none⟩ (.int .i64 (i : Nat))).heap[N + 1]? = some (.cells #[.string ⟨s.toArray⟩, .int .i64 (i : Nat), .int .i64 0, .bool true, .bool true, .bool true] 54 (0, 0)) := HR1.out.go rfl
          exact (b23.block _ (by omega)).trans ((b12.block _ (by omega)).trans h0)
        have hsx : (W1.setCell ⟨N + 1, 1, none⟩ (.int .i64 (i : Nat))).heap.size = N + 1 + 1 := by simp [World.setCell]; exact hs1'
        have n23 := new2 (W1.setCell ⟨N + 1, 1, none⟩ (.int .i64 (i : Nat))) (.cells #[.pointer (some ⟨N + 1, 0, none⟩)] 52) (.cells #[.bool false] 4)
        rw [← HW2.out, hsx] at n23
        obtain ⟨n2, n3⟩ := n23
        have m2 : Box W3 (N + 1 + 1) 52 (.pointer (some ⟨N + 1, 0, none⟩)) := (b23.block _ (by omega)).trans n2
        have m3 : Box W3 (N + 1 + 1 + 1) 4 (.bool false) := (b23.block _ (by omega)).trans n3
        have hs3 : W3.heap.size = N + 1 + 1 + 1 + 1 + 1 := by rw [hW3]; simp; exact hs2
        have n4 : W3.heap[N + 1 + 1 + 1 + 1]? = some (.cells #[.int .i64 0, .int .i64 0, .bool false] 56 (0, 0)) := by rw [hW3, ← hs2]; exact new1 W2 _
        have hbw3 : Below N w W3 := HT1.out.low.trans ⟨(b23.os.trans b12.os).trans rfl, (b23.tape.trans b12.tape).trans rfl, (b23.output.trans b12.output).trans rfl, by omega, fun k hk => hk1 k (by omega) (by omega)⟩
        have hsc := variable1_fn hs m2 m0 m3 m1 HAT.out (by omega)
        rw [hW3] at hsc
        have hap : (#[] : Array Value) ++ #[Value.pointer (some ⟨N + 1 + 1, 0, none⟩), Value.pointer (some ⟨N, 0, none⟩), Value.pointer (some ⟨N + 1 + 1 + 1, 0, none⟩)] = #[Value.pointer (some ⟨N + 1 + 1, 0, none⟩), Value.pointer (some ⟨N, 0, none⟩), Value.pointer (some ⟨N + 1 + 1 + 1, 0, none⟩)] := by simp
        rw [← hap] at hsc
        have hrd := hid (reads_fn (k := 35) (fst := #[]) (cap := #[Value.pointer (some ⟨N + 1 + 1, 0, none⟩), Value.pointer (some ⟨N, 0, none⟩), Value.pointer (some ⟨N + 1 + 1 + 1, 0, none⟩)]) (w := W2) EG.out hsc (fun e1 w1 hq => by
          obtain ⟨ht, hm⟩ := hq
          refine ⟨?_, ?_⟩
          · rw [hs2, ht.block _ (by simp; omega) (by omega) (by omega) (by omega), ← hW3]
            exact n4
          · cases hR : varOf all3 0 l with
            | halt hh =>
              rw [hR] at hm
              refine .inr ?_
              rw [hm.1]
              cases hh with
              | lacks b => exact ⟨_, _, _, rfl⟩
              | wrong b => exact ⟨_, _, _, rfl⟩
              | deep => exact ⟨_, _, _, rfl⟩
            | ok o r =>
              rw [hR] at hm
              cases o with
              | none => exact .inl hm.1
              | some y => obtain ⟨k, x, hx, ix⟩ := y; exact .inl hm.1))
        rw [← hW3] at hrd
        have HS2 := hid hs2
        have HS3 := hid hs3
        have HBW3 := hid hbw3
        have HN4 := hid n4
        have HM2 := hid m2
        clear n2 n3 b12 b23 hsc hW3 m0 m1 m2 m3 hk1 hap hs1' hs2 hs3 hbw3 n4 hsx
        go_wp2_with fail
        rw [HS1.out, ← HW2.out]
        (with_reducible refine hrd.out.mono ?_); rintro e w4 ⟨e1, w3, ⟨ht, hm⟩, hb, hcase⟩
        clear hrd c0 c1 z1 hlr
        rw [HS2.out] at hb
        have hsz3 := ht.size
        rw [HS3.out] at hsz3
        have hsz4 := hb.size
        have hbw4 : Below N w w4 := HBW3.out.trans ⟨hb.os.trans ht.os, hb.tape.trans ht.tape, hb.output.trans ht.output, by rw [HS3.out]; omega, fun k hk => (hb.block k (by omega) (by omega)).trans (ht.block k (by rw [HS3.out]; omega) (by omega) (by omega) (by omega))⟩
        have HB4 := hid hbw4
        clear hbw4
        cases hv : varOf all3 0 l with
        | halt hh =>
          rw [hv] at hm
          have hans := HANS0.out
          rw [hv] at hans
          have HANS := hid hans
          clear hans
          obtain ⟨he1, hm0⟩ := hm
          rcases hcase with ⟨e, _⟩ | ⟨a, e', o, he, rfl⟩
          · rw [he1] at e; cases e
          have hso : stopOf s hh = stopAt a e' o := by rw [he1] at he; simpa using he
          obtain ⟨rfl, rfl⟩ := stopOf_ae hso
          have hne : (haltE hh != 0) = true := by simpa using haltE_ne hh
          have HT4 := hid (TB.mk (w := w) ((hb.block N (by omega) (by omega)).trans hm0) HB4.out)
          have hltN : N < w4.heap.size := HT4.out.ltN
          clear hso he he1 hb ht hm0
          obtain ⟨⟨t0, t1, t2, t3⟩, hfz⟩ := HT4.out.facts
          have f0 := hfz 0
          have f1 := hfz 1
          have f2 := hfz 2
          have f3 := hfz 3
          clear hfz
          go_upto_region 8 with fail
          refine at_world fun W4 hW4 => ?_
          clear t0 t1 t2 t3 f0 f1 f2 f3
          have hf4 : W4.heap[w4.heap.size]? = some (.cells #[.int .i64 (haltA s hh), .int .i64 (haltE hh), .bool o] 56 (0, 0)) := by rw [hW4]; exact heap_alloc_new _ _
          have HT5 := hid (HT4.out.fwd (show Below (N + 1) w4 W4 by rw [hW4]; exact (below1 w4 _).mono HT4.out.ltN))
          obtain ⟨⟨t0, t1, t2, t3⟩, hfz⟩ := HT5.out.facts
          have f0 := hfz 0
          have f1 := hfz 1
          have f2 := hfz 2
          have f3 := hfz 3
          have hlt5 : N < W4.heap.size := HT5.out.ltN
          have hlt6 : w4.heap.size < W4.heap.size := (Array.getElem?_eq_some_iff.1 hf4).1
          obtain ⟨k0, k1, k2⟩ := flt_cells hf4
          clear hfz hW4 hf4
          go_region
          go_wp2
          have hp := HT5.out.put (.int .i64 0) (.string ⟨#[]⟩) (.bool false) (.slice none 0 0)
          have p1 := drew_heap hp.tok
          refine bodyPost_ret (results_ctt rfl _ rfl p1 Tryz.underlying33 rfl Tryz.infoT) rfl ?_
          unfold VarQ
          rw [HANS.out]
          refine ⟨by rw [← HN.out]; exact hp.low.drew, haltE_ne hh, rfl⟩
        | ok o r =>
          cases o with
          | none =>
            rw [hv] at hm
            have hans := HANS0.out
            rw [hv] at hans
            have HANS := hid hans
            clear hans
            obtain ⟨rfl, hm0, hmq, hmr⟩ := hm
            rcases hcase with ⟨_, rfl⟩ | ⟨_, _, _, e, _⟩
            · have HT4 := hid (TB.mk (w := w) ((hb.block N (by omega) (by omega)).trans hm0) HB4.out)
              have hmq4 : Box w4 (N + 1 + 1 + 1) 4 (.bool false) := (hb.block _ (by omega) (by omega)).trans hmq
              have hltN : N < w4.heap.size := HT4.out.ltN
              have hltq : N + 1 + 1 + 1 < w4.heap.size := hmq4.lt
              have q0 := hmq4.cell
              clear hb ht hm0 hmq hmr hmq4
              obtain ⟨⟨t0, t1, t2, t3⟩, hfz⟩ := HT4.out.facts
              have f0 := hfz 0
              have f1 := hfz 1
              have f2 := hfz 2
              have f3 := hfz 3
              clear hfz
              go_upto_region 9 with fail
              refine at_world fun W4 hW4 => ?_
              clear t0 t1 t2 t3 f0 f1 f2 f3
              have hf4 : W4.heap[w4.heap.size]? = some (.cells #[.int .i64 0, .int .i64 0, .bool false] 56 (0, 0)) := by rw [hW4]; exact heap_alloc_new _ _
              have HT5 := hid (HT4.out.fwd (show Below (N + 1) w4 W4 by rw [hW4]; exact (below1 w4 _).mono HT4.out.ltN))
              have q1 : W4.cell? ⟨N + 1 + 1 + 1, 0, none⟩ = some (.bool false) := by rw [hW4]; exact ((below1 w4 _).cell (p := ⟨N + 1 + 1 + 1, 0, none⟩) hltq).trans q0
              clear q0
              obtain ⟨⟨t0, t1, t2, t3⟩, hfz⟩ := HT5.out.facts
              have f0 := hfz 0
              have f1 := hfz 1
              have f2 := hfz 2
              have f3 := hfz 3
              have hlt5 : N < W4.heap.size := HT5.out.ltN
              have hlt6 : w4.heap.size < W4.heap.size := (Array.getElem?_eq_some_iff.1 hf4).1
              obtain ⟨k0, k1, k2⟩ := flt_cells hf4
              clear hfz hW4 hf4
              go_wp2
              have hp := HT5.out.put (.int .i64 0) (.string ⟨#[]⟩) (.bool false) (.slice none 0 0)
              have p1 := hp.tok
              refine bodyPost_ret (results_ctt rfl _ rfl p1 Tryz.underlying33 rfl Tryz.infoT) rfl ?_
              unfold VarQ
              rw [HANS.out]
              refine ⟨by rw [← HN.out]; exact hp.low, by decide, rfl⟩
            · cases e
          | some y =>
            obtain ⟨k, x, hx', ix⟩ := y
            rw [hv] at hm
            have hans := HANS0.out
            rw [hv] at hans
            have HANS := hid hans
            clear hans
            obtain ⟨rfl, hmq, hmr, v, hmt, hmx⟩ := hm
            rcases hcase with ⟨_, rfl⟩ | ⟨_, _, _, e, _⟩
            · obtain ⟨va, vn, vc, rfl⟩ : ∃ a n c, v = .slice a n c := by
                obtain ⟨a, cap, hv, _⟩ := RowIs.cell hmx
                exact ⟨a, _, cap, hv⟩
              have HT4 := hid (TB.mk (w := w) ((hb.block N (by omega) (by omega)).trans hmt) HB4.out)
              have hmq4 : Box w4 (N + 1 + 1 + 1) 4 (.bool true) := (hb.block _ (by omega) (by omega)).trans hmq
              have hltN : N < w4.heap.size := HT4.out.ltN
              have hltq : N + 1 + 1 + 1 < w4.heap.size := hmq4.lt
              have q0 := hmq4.cell
              have HP4 := hid (show Box w4 (N + 1 + 1) 52 (.pointer (some ⟨N + 1, 0, none⟩)) from (hb.block _ (by omega) (by omega)).trans ((ht.block _ (by rw [HS3.out]; omega) (by omega) (by omega) (by omega)).trans HM2.out))
              have HR4 := hid (show RdAt w4 (N + 1) s (s.length - r.length) 0 all3 from (hb.block _ (by omega) (by omega)).trans hmr)
              have HX4 := hid (hmx.keep2 (ok' := New W3.heap.size) (w' := w4) (fun _ h _ => h) (fun g cur hg hc => (hb.block g (Array.getElem?_eq_some_iff.1 hc).1 (by
                rintro rfl
                have h3 := HN4.out
                have h4 := (ht.block (N + 1 + 1 + 1 + 1) (by rw [HS3.out]; omega) (by omega) (by omega) (by omega)).trans h3
                rw [hc] at h4
                simp at h4)).trans hc))
              clear hb ht hmt hmq hmr hmq4 hmx
              obtain ⟨⟨t0, t1, t2, t3⟩, hfz⟩ := HT4.out.facts
              have f0 := hfz 0
              have f1 := hfz 1
              have f2 := hfz 2
              have f3 := hfz 3
              clear hfz
              go_upto_region 9 with fail
              refine at_world fun W4 hW4 => ?_
              clear t0 t1 t2 t3 f0 f1 f2 f3
              have hf4 : W4.heap[w4.heap.size]? = some (.cells #[.int .i64 0, .int .i64 0, .bool false] 56 (0, 0)) := by rw [hW4]; exact heap_alloc_new _ _
              have hb5 : Below w4.heap.size w4 W4 := by rw [hW4]; exact below1 w4 _
              have HT5 := hid (HT4.out.fwd (hb5.mono HT4.out.ltN))
              have q1 : W4.cell? ⟨N + 1 + 1 + 1, 0, none⟩ = some (.bool true) := (hb5.cell (p := ⟨N + 1 + 1 + 1, 0, none⟩) hltq).trans q0
              have r1 : W4.cell? ⟨N + 1 + 1, 0, none⟩ = some (.pointer (some ⟨N + 1, 0, none⟩)) := (hb5.cell (p := ⟨N + 1 + 1, 0, none⟩) HP4.out.lt).trans HP4.out.cell
              have r2 : W4.cell? ⟨N + 1, 1, none⟩ = some (.int .i64 (s.length - r.length : Nat)) := (hb5.cell (p := ⟨N + 1, 1, none⟩) HR4.out.lt).trans HR4.out.cells.2.1
              have HX5 := hid (HX4.out.fwd hb5)
              have hlr : N + 1 < W4.heap.size := Nat.lt_of_lt_of_le HR4.out.lt hb5.size
              have hlp : N + 1 + 1 < W4.heap.size := Nat.lt_of_lt_of_le HP4.out.lt hb5.size
              clear q0 hb5
              obtain ⟨⟨t0, t1, t2, t3⟩, hfz⟩ := HT5.out.facts
              have f0 := hfz 0
              have f1 := hfz 1
              have f2 := hfz 2
              have f3 := hfz 3
              have hlt5 : N < W4.heap.size := HT5.out.ltN
              have hlt6 : w4.heap.size < W4.heap.size := (Array.getElem?_eq_some_iff.1 hf4).1
              obtain ⟨k0, k1, k2⟩ := flt_cells hf4
              clear hfz hW4 hf4
              go_upto_region 11 with fail
              generalize s.length - r.length = P at *
              go_region
              go_wp2
              have hp := HT5.out.put (.int .i64 (k : Nat)) (.string ⟨x.toArray⟩) (.bool hx') (.slice va vn vc)
              have p1 := drew_heap hp.tok
              refine bodyPost_ret (results_ctt rfl _ rfl p1 Tryz.underlying33 rfl Tryz.infoT) rfl ?_
              unfold VarQ
              rw [HANS.out]
              refine ⟨by rw [← HN.out]; exact hp.low.drew, .slice va vn vc, rfl, ?_⟩
              rw [← HN.out]
              exact HX5.out.keep (fun g hg => show N ≤ g by have hg2 : W3.heap.size ≤ g := hg; have := HS3.out; omega) (fun g hg => drew_heap (TB.keep g (by have hg2 : W3.heap.size ≤ g := hg; have := HS3.out; omega)))
            · cases e
      · have hbyte := hat.byte
        have n36 := byte_ne' 36 hc rfl
        have hlt := hat.lt
        have hans : varAns s (i : Int) = .inl 8 := by rw [varAns_at hat, if_neg (by simpa using hc)]
        have HANS := hid hans
        clear hans
        go_enter Tryz.func13, Tryz.ntmps13
        go_wp2_with fail
        rw [← HW.out, ← HN.out]
        have hp := HT0.out
        have p1 := hp.tok
        refine bodyPost_ret (results_ctt rfl _ rfl p1 Tryz.underlying33 rfl Tryz.infoT) rfl ?_
        unfold VarQ
        rw [HANS.out]
        refine ⟨by rw [← HN.out]; exact hp.low, by decide, rfl⟩
end Go.Proofs.YtkgpmkkodpjdfaaGreatDoor.Pz
/-
  The reference 06: Variable: the walk.
-/
namespace Go.Proofs.YtkgpmkkodpjdfaaGreatDoor.Pz
open Go.RowKit
set_option maxRecDepth 100000 in
set_option maxHeartbeats 600000 in
theorem refVariable_fn {s : Str} (hs : s.length ≤ 1000000) (at' : Int) (w : World) : Calls Tryz.prog 14 #[.string ⟨s.toArray⟩, .int .i64 at'] w (VarQ s at' w) := by
  have hsz : (⟨s.toArray⟩ : ByteArray).size = s.length := Lib.size_mk _
  obtain ⟨N, hN⟩ : ∃ N, N = w.heap.size := ⟨_, rfl⟩
  obtain ⟨W, hW⟩ : ∃ W, W = w.alloc (.cells #[.int .i64 0, .string ⟨#[]⟩, .bool false, .slice none 0 0] 33) := ⟨_, rfl⟩
  have hT : TB N w W (.int .i64 0) (.string ⟨#[]⟩) (.bool false) (.slice none 0 0) := by rw [hW, hN]; exact ⟨heap_alloc_new _ _, below1 _ _⟩
  have hWs : W.heap.size = N + 1 := by rw [hW, hN]; simp
  have HT0 := hid hT
  have HN := hid hN
  have HW := hid hW
  have HS := hid hWs
  clear hT hN hW hWs
  by_cases h1 : at' < 0
  · have h1' : decide (at' < 0) = true := decide_eq_true h1
    have hans : varAns s at' = .inl 8 := varAns_bad (.inl h1)
    have HANS := hid hans
    clear hans
    go_enter Tryz.func14, Tryz.ntmps14
    go_wp2_with fail
    rw [← HW.out, ← HN.out]
    have hp := HT0.out
    have p1 := hp.tok
    refine bodyPost_ret (results_ctt rfl _ rfl p1 Tryz.underlying33 rfl Tryz.infoT) rfl ?_
    unfold VarQ
    rw [HANS.out]
    refine ⟨by rw [← HN.out]; exact hp.low, by decide, rfl⟩
  · by_cases h2 : (s.length : Int) ≤ at'
    · have h1' : decide (at' < 0) = false := decide_eq_false h1
      have h2' : decide ((s.length : Int) ≤ at') = true := decide_eq_true h2
      have hans : varAns s at' = .inl 8 := varAns_bad (.inr h2)
      have HANS := hid hans
      clear hans
      go_enter Tryz.func14, Tryz.ntmps14
      go_wp2_with fail
      rw [← HW.out, ← HN.out]
      have hp := HT0.out
      have p1 := hp.tok
      refine bodyPost_ret (results_ctt rfl _ rfl p1 Tryz.underlying33 rfl Tryz.infoT) rfl ?_
      unfold VarQ
      rw [HANS.out]
      refine ⟨by rw [← HN.out]; exact hp.low, by decide, rfl⟩
    · obtain ⟨i, rfl⟩ : ∃ i : Nat, at' = (i : Int) := ⟨at'.toNat, by omega⟩
      have hil : i < s.length := by omega
      have h2' : decide (s.length ≤ i) = false := by rw [decide_eq_false]; omega
      clear h1 h2
      obtain ⟨c, l, hcl⟩ : ∃ c l, s.drop i = c :: l := ⟨_, _, List.drop_eq_getElem_cons hil⟩
      have hat : At s (c :: l) i := ⟨by have := congrArg List.length hcl; rw [List.length_drop] at this; rw [← this]; omega, hcl⟩
      clear hcl
      by_cases hc : c = 36
      · subst hc
        have hbyte := hat.byte
        have hlt := hat.lt
        have hans := varAns_at hat
        rw [if_pos (by decide)] at hans
        have hal := hid (all6_fn s W)
        have HAT := hid hat
        have HANS0 := hid hans
        clear hat hans
        obtain ⟨⟨t0, t1, t2, t3⟩, hfz⟩ := HT0.out.facts
        have f0 := hfz 0
        have f1 := hfz 1
        have f2 := hfz 2
        have f3 := hfz 3
        clear hfz
        go_enter Tryz.func14, Tryz.ntmps14
        go_wp2_with fail
        rw [← HW.out, ← HN.out]
        (with_reducible refine hal.out.mono ?_); rintro e W1 ⟨rfl, hrd1, hb1⟩
        rw [HS.out] at hrd1 hb1 ⊢
        have HT1 := hid (HT0.out.fwd hb1)
        have HS1 := hid (show N + 1 < W1.heap.size from hrd1.lt)
        have hvc := hid (var_rc all3 0 l W1 (N + 1) s i hs (by omega) hrd1 HAT.out)
        clear hrd1 hb1 t0 t1 t2 t3 f0 f1 f2 f3
        go_wp2_with fail
        (with_reducible refine hvc.out.mono ?_); intro e W3 h3
        cases hv : varOf all3 0 l with
        | halt hh =>
          rw [hv] at h3
          have hans := HANS0.out
          rw [hv] at hans
          have HANS := hid hans
          obtain ⟨O, hfc⟩ := faultC_ae s hh
          obtain ⟨rfl, _, hbut⟩ := h3
          rw [hfc]
          have HT3 := hid (HT1.out.fwd (show Below (N + 1) W1 W3 from (hbut.mono (show N + 1 ≤ W1.heap.size by have := HS1.out; omega)).below (Nat.le_refl _)))
          clear hbut hans
          have hltN : N < W3.heap.size := HT3.out.ltN
          obtain ⟨⟨t0, t1, t2, t3⟩, hfz⟩ := HT3.out.facts
          have f0 := hfz 0
          have f1 := hfz 1
          have f2 := hfz 2
          have f3 := hfz 3
          clear hfz
          go_upto_region 5 with fail
          refine at_world fun W4 hW4 => ?_
          have HP := hid (HT3.out.put (.int .i64 0) (.string ⟨#[]⟩) (.bool false) (.slice none 0 0))
          obtain ⟨W5, hW5⟩ : ∃ W5, W5 = (((W3.setCell ⟨N, 0, none⟩ (.int .i64 0)).setCell ⟨N, 1, none⟩ (.string ⟨#[]⟩)).setCell ⟨N, 2, none⟩ (.bool false)).setCell ⟨N, 3, none⟩ (.slice none 0 0) := ⟨_, rfl⟩
          have hsz5 : W5.heap.size = W3.heap.size := by rw [hW5]; simp [World.setCell]
          have hT5 : TB N w W5 (.int .i64 0) (.string ⟨#[]⟩) (.bool false) (.slice none 0 0) := by rw [hW5]; exact HP.out
          have hf4 : W4.heap[W3.heap.size]? = some (.cells #[.int .i64 (haltE hh), .int .i64 (haltA s hh), .bool O] 63 (0, 0)) := by rw [hW4, ← hW5, ← hsz5]; exact heap_alloc_new _ _
          have hb5 : Below W5.heap.size W5 W4 := by rw [hW4, ← hW5]; exact below1 _ _
          have HT4 := hid (hT5.fwd (hb5.mono hT5.ltN))
          obtain ⟨k0, k1, k2⟩ := flt_cells hf4
          clear hW4 hf4 hb5 hT5 hsz5 HP t0 t1 t2 t3 f0 f1 f2 f3
          obtain ⟨⟨t0, t1, t2, t3⟩, hfz⟩ := HT4.out.facts
          have f0 := hfz 0
          have f1 := hfz 1
          have f2 := hfz 2
          have f3 := hfz 3
          clear hfz
          go_region
          go_wp2
          have hp := HT4.out.put (.int .i64 0) (.string ⟨#[]⟩) (.bool false) (.slice none 0 0)
          have p1 := drew_heap hp.tok
          refine bodyPost_ret (results_ctt rfl _ rfl p1 Tryz.underlying33 rfl Tryz.infoT) rfl ?_
          unfold VarQ
          rw [HANS.out]
          refine ⟨by rw [← HN.out]; exact hp.low.drew, haltE_ne hh, rfl⟩
        | ok o r =>
          cases o with
          | none =>
            rw [hv] at h3
            have hans := HANS0.out
            rw [hv] at hans
            have HANS := hid hans
            obtain ⟨rfl, _, hbut⟩ := h3
            have HT3 := hid (HT1.out.fwd (show Below (N + 1) W1 W3 from (hbut.mono (show N + 1 ≤ W1.heap.size by have := HS1.out; omega)).below (Nat.le_refl _)))
            clear hbut hans
            have hltN : N < W3.heap.size := HT3.out.ltN
            obtain ⟨⟨t0, t1, t2, t3⟩, hfz⟩ := HT3.out.facts
            have f0 := hfz 0
            have f1 := hfz 1
            have f2 := hfz 2
            have f3 := hfz 3
            clear hfz
            go_upto_region 5 with fail
            refine at_world fun W4 hW4 => ?_
            have HP := hid (HT3.out.put (.int .i64 0) (.string ⟨#[]⟩) (.bool false) (.slice none 0 0))
            obtain ⟨W5, hW5⟩ : ∃ W5, W5 = (((W3.setCell ⟨N, 0, none⟩ (.int .i64 0)).setCell ⟨N, 1, none⟩ (.string ⟨#[]⟩)).setCell ⟨N, 2, none⟩ (.bool false)).setCell ⟨N, 3, none⟩ (.slice none 0 0) := ⟨_, rfl⟩
            have hsz5 : W5.heap.size = W3.heap.size := by rw [hW5]; simp [World.setCell]
            have hT5 : TB N w W5 (.int .i64 0) (.string ⟨#[]⟩) (.bool false) (.slice none 0 0) := by rw [hW5]; exact HP.out
            have hf4 : W4.heap[W3.heap.size]? = some (.cells #[.int .i64 8, .int .i64 0, .bool false] 63 (0, 0)) := by rw [hW4, ← hW5, ← hsz5]; exact heap_alloc_new _ _
            have hb5 : Below W5.heap.size W5 W4 := by rw [hW4, ← hW5]; exact below1 _ _
            have HT4 := hid (hT5.fwd (hb5.mono hT5.ltN))
            obtain ⟨k0, k1, k2⟩ := flt_cells hf4
            clear hW4 hf4 hb5 hT5 hsz5 HP t0 t1 t2 t3 f0 f1 f2 f3
            obtain ⟨⟨t0, t1, t2, t3⟩, hfz⟩ := HT4.out.facts
            have f0 := hfz 0
            have f1 := hfz 1
            have f2 := hfz 2
            have f3 := hfz 3
            clear hfz
            go_region
            go_wp2
            have hp := HT4.out.put (.int .i64 0) (.string ⟨#[]⟩) (.bool false) (.slice none 0 0)
            have p1 := drew_heap hp.tok
            refine bodyPost_ret (results_ctt rfl _ rfl p1 Tryz.underlying33 rfl Tryz.infoT) rfl ?_
            unfold VarQ
            rw [HANS.out]
            refine ⟨by rw [← HN.out]; exact hp.low.drew, by decide, rfl⟩
          | some y =>
            obtain ⟨k, x, hx', ix⟩ := y
            rw [hv] at h3
            have hans := HANS0.out
            rw [hv] at hans
            have HANS := hid hans
            obtain ⟨v, rfl, _, htk, hbut⟩ := h3
            obtain ⟨va, vn, vc, rfl⟩ : ∃ a n c, v = .slice a n c := by
              obtain ⟨a, cap, hv, _⟩ := RowIs.cell htk
              exact ⟨a, _, cap, hv⟩
            have HTK := hid htk
            have HT3 := hid (HT1.out.fwd (show Below (N + 1) W1 W3 from (hbut.mono (show N + 1 ≤ W1.heap.size by have := HS1.out; omega)).below (Nat.le_refl _)))
            clear hbut hans htk
            have hltN : N < W3.heap.size := HT3.out.ltN
            obtain ⟨⟨t0, t1, t2, t3⟩, hfz⟩ := HT3.out.facts
            have f0 := hfz 0
            have f1 := hfz 1
            have f2 := hfz 2
            have f3 := hfz 3
            clear hfz
            go_upto_region 5 with fail
            refine at_world fun W4 hW4 => ?_
            have HP := hid (HT3.out.put (.int .i64 (k : Nat)) (.string ⟨x.toArray⟩) (.bool hx') (.slice va vn vc))
            obtain ⟨W5, hW5⟩ : ∃ W5, W5 = (((W3.setCell ⟨N, 0, none⟩ (.int .i64 (k : Nat))).setCell ⟨N, 1, none⟩ (.string ⟨x.toArray⟩)).setCell ⟨N, 2, none⟩ (.bool hx')).setCell ⟨N, 3, none⟩ (.slice va vn vc) := ⟨_, rfl⟩
            have hsz5 : W5.heap.size = W3.heap.size := by rw [hW5]; simp [World.setCell]
            have hT5 : TB N w W5 (.int .i64 (k : Nat)) (.string ⟨x.toArray⟩) (.bool hx') (.slice va vn vc) := by rw [hW5]; exact HP.out
            have hf4 : W4.heap[W3.heap.size]? = some (.cells #[.int .i64 0, .int .i64 0, .bool false] 63 (0, 0)) := by rw [hW4, ← hW5, ← hsz5]; exact heap_alloc_new _ _
            have hb5 : Below W5.heap.size W5 W4 := by rw [hW4, ← hW5]; exact below1 _ _
            have HT4 := hid (hT5.fwd (hb5.mono hT5.ltN))
            have HTK4 := hid (show ToksIs 33 W4 (New W1.heap.size) (.slice va vn vc) ix from by
              have h5 : ToksIs 33 W5 (New W1.heap.size) (.slice va vn vc) ix := by
                rw [hW5]
                exact HTK.out.keep (fun _ h => h) (fun g hg => TB.keep g (by have hg2 : W1.heap.size ≤ g := hg; have := HS1.out; omega))
              exact h5.fwd hb5)
            obtain ⟨k0, k1, k2⟩ := flt_cells hf4
            clear hW4 hf4 hb5 hT5 hsz5 HP t0 t1 t2 t3 f0 f1 f2 f3
            obtain ⟨⟨t0, t1, t2, t3⟩, hfz⟩ := HT4.out.facts
            have f0 := hfz 0
            have f1 := hfz 1
            have f2 := hfz 2
            have f3 := hfz 3
            clear hfz
            go_region
            go_wp2
            have hp := HT4.out.put (.int .i64 (k : Nat)) (.string ⟨x.toArray⟩) (.bool hx') (.slice va vn vc)
            have p1 := drew_heap hp.tok
            refine bodyPost_ret (results_ctt rfl _ rfl p1 Tryz.underlying33 rfl Tryz.infoT) rfl ?_
            unfold VarQ
            rw [HANS.out]
            refine ⟨by rw [← HN.out]; exact hp.low.drew, .slice va vn vc, rfl, ?_⟩
            rw [← HN.out]
            exact HTK4.out.keep (fun g hg => show N ≤ g by have hg2 : W1.heap.size ≤ g := hg; have := HS1.out; omega) (fun g hg => drew_heap (TB.keep g (by have hg2 : W1.heap.size ≤ g := hg; have := HS1.out; omega)))
      · have hbyte := hat.byte
        have n36 := byte_ne' 36 hc rfl
        have hlt := hat.lt
        have hans : varAns s (i : Int) = .inl 8 := by rw [varAns_at hat, if_neg (by simpa using hc)]
        have HANS := hid hans
        clear hans
        go_enter Tryz.func14, Tryz.ntmps14
        go_wp2_with fail
        rw [← HW.out, ← HN.out]
        have hp := HT0.out
        have p1 := hp.tok
        refine bodyPost_ret (results_ctt rfl _ rfl p1 Tryz.underlying33 rfl Tryz.infoT) rfl ?_
        unfold VarQ
        rw [HANS.out]
        refine ⟨by rw [← HN.out]; exact hp.low, by decide, rfl⟩
end Go.Proofs.YtkgpmkkodpjdfaaGreatDoor.Pz
/-
  ParseVariables: the walk.
-/
namespace Go.Proofs.YtkgpmkkodpjdfaaGreatDoor.Pz
open Go.RowKit
/-- what Variable tells: its error, its place, its token -/
def varV (s : Str) (at' : Int) : Int × Int × Nat × Str × Bool × List Tok :=
  match varAns s at' with
  | .inl E => (E, 0, 0, [], false, [])
  | .inr (.mk k x hh ix, p) => (0, (p : Nat), k, x, hh, ix)
theorem VarQ.shape {s : Str} {at' : Int} {w w' : World} {e : Ending} (h : VarQ s at' w e w') : ∃ a n c, e = .returned (.tuple #[.agg #[.int .i64 ((varV s at').2.2.1 : Nat), .string ⟨(varV s at').2.2.2.1.toArray⟩, .bool (varV s at').2.2.2.2.1, .slice a n c], .int .i64 (varV s at').2.1, .int .i64 (varV s at').1]) ∧
    Below w.heap.size w w' ∧ ToksIs 33 w' (New w.heap.size) (.slice a n c) (varV s at').2.2.2.2.2 := by
  obtain ⟨hb, h⟩ := h
  unfold varV
  revert h
  cases hp : varAns s at' with
  | inl E =>
    rintro ⟨_, rfl⟩
    exact ⟨none, 0, 0, rfl, hb, RowIs.nil⟩
  | inr y =>
    obtain ⟨⟨k, x, hh, ix⟩, p⟩ := y
    rintro ⟨v, he, ht⟩
    obtain ⟨a, cap, rfl⟩ : ∃ a cap, v = .slice a ix.length cap := by
      obtain ⟨a, cap, hv, _⟩ := RowIs.cell ht
      exact ⟨a, cap, hv⟩
    exact ⟨a, _, cap, he, hb, ht⟩
/-- one token in a row of its own -/
theorem toks_single {W : World} {k : Nat} {x : Str} {hh : Bool} {v : Value} {ix : List Tok} {ok : Nat → Prop} (h : ToksIs 33 W ok v ix) :
    ToksIs 33 (W.alloc (.cells #[.int .i64 (k : Nat), .string ⟨x.toArray⟩, .bool hh, v] 33)) (fun g => ok g ∨ g = W.heap.size) (.slice (some ⟨W.heap.size, 0, none⟩) 1 1) [.mk k x hh ix] := by
  have hown := World.ownsRow_lit (base := 0) (e := 33) (size := 4) W #[.int .i64 (k : Nat), .string ⟨x.toArray⟩, .bool hh, v] 1 (Nat.zero_le _) (by unfold maxLen; omega) rfl
  have h1 : ToksIs 33 (W.alloc (.cells #[.int .i64 (k : Nat), .string ⟨x.toArray⟩, .bool hh, v] 33)) (fun g => ok g ∨ g = W.heap.size) v ix :=
    h.keep2 (fun _ h _ => .inl h) (fun g cur _ hc => ((below1 W _).block g (Array.getElem?_eq_some_iff.1 hc).1).trans hc)
  refine ⟨[[.int .i64 (k : Nat), .string ⟨x.toArray⟩, .bool hh, v]], by simpa using hown, ?_, rfl, ?_⟩
  · intro g hg
    simp [Value.ownBlock] at hg
    exact .inr hg.symm
  · intro i a b
    obtain rfl : i = 0 := by simp at a; exact a
    exact ⟨TokIs.of h1 _ _ _, rfl⟩
set_option maxRecDepth 100000 in
set_option maxHeartbeats 4000000 in
theorem parseVariables_fn (s : List UInt8) (at' : Int) (w : World) (ls : s.length ≤ 9223372036854775807) :
    Calls Tryz.prog 4 #[.string ⟨s.toArray⟩, .int .i64 at'] w fun e w' => e = .returned (.bool true) ∧ Below w.heap.size w w' := by
  have AW := fun w => hid (awake_fn w)
  have LA := fun w => hid (long_fn s w)
  by_cases hla : 800 < s.length
  · rw [decide_eq_true hla] at LA
    go_enter Tryz.func4, Tryz.ntmps4
    go_wp2_with fail
    (with_reducible refine (LA _).out.mono ?_); rintro e w1 ⟨rfl, hw⟩; subst w1
    go_wp2_with fail
    (with_reducible refine (AW _).out.mono ?_); rintro e w2 ⟨rfl, hb⟩
    go_wp2
    go_ret
    exact ⟨rfl, hb⟩
  rw [decide_eq_false hla] at LA
  have PA := hid (progVariable_fn (s := s) (by omega) at' w)
  have PB := fun w => hid (refVariable_fn (s := s) (by omega) at' w)
  have HS := hid hla
  clear hla
  go_enter Tryz.func4, Tryz.ntmps4
  go_wp2_with fail
  (with_reducible refine (LA _).out.mono ?_); rintro e w1 ⟨rfl, hw⟩; subst w1
  go_wp2_with fail
  (with_reducible refine PA.out.mono ?_); intro e W1 h1
  obtain ⟨a1, n1, c1, rfl, hb1, ht1⟩ := h1.shape
  obtain ⟨⟨E, p, k, x, hh, ix⟩, hV⟩ : ∃ V, V = varV s at' := ⟨_, rfl⟩
  rw [← hV] at ht1
  rw [← hV]
  have HB1 := hid hb1
  have HT1 := hid ht1
  have HV := hid hV
  clear h1 hb1 ht1 hV
  simp only
  obtain ⟨X1, hX1⟩ : ∃ X, X = W1.alloc (.cells #[.int .i64 (k : Nat), .string ⟨x.toArray⟩, .bool hh, .slice a1 n1 c1] 33) := ⟨_, rfl⟩
  have HX1 := hid hX1
  have hbk1 : X1.heap[W1.heap.size]? = some (.cells #[.int .i64 (k : Nat), .string ⟨x.toArray⟩, .bool hh, .slice a1 n1 c1] 33 (0, 0)) := by rw [hX1]; exact heap_alloc_new _ _
  have HBK1 := hid hbk1
  have hbx1 : Below W1.heap.size W1 X1 := by rw [hX1]; exact below1 _ _
  have HBX1 := hid (HB1.out.trans (hbx1.mono HB1.out.size))
  have HTX1 := hid (HT1.out.fwd hbx1)
  clear hX1 hbk1 hbx1
  go_wp2_with fail
  rw [← HX1.out]
  (with_reducible refine (PB _).out.mono ?_); intro e W2 h2
  obtain ⟨a2, n2, c2, rfl, hb2, ht2⟩ := h2.shape
  rw [← HV.out] at ht2
  rw [← HV.out]
  simp only at ht2 ⊢
  obtain ⟨X2, hX2⟩ : ∃ X, X = W2.alloc (.cells #[.int .i64 (k : Nat), .string ⟨x.toArray⟩, .bool hh, .slice a2 n2 c2] 33) := ⟨_, rfl⟩
  have HX2 := hid hX2
  have hbx2 : Below W2.heap.size W2 X2 := by rw [hX2]; exact below1 _ _
  have hb12 : Below X1.heap.size X1 X2 := hb2.trans (hbx2.mono hb2.size)
  have hbk2 : X2.heap[W2.heap.size]? = some (.cells #[.int .i64 (k : Nat), .string ⟨x.toArray⟩, .bool hh, .slice a2 n2 c2] 33 (0, 0)) := by rw [hX2]; exact heap_alloc_new _ _
  have hbk1 : X2.heap[W1.heap.size]? = some (.cells #[.int .i64 (k : Nat), .string ⟨x.toArray⟩, .bool hh, .slice a1 n1 c1] 33 (0, 0)) := (hb12.block _ (Array.getElem?_eq_some_iff.1 HBK1.out).1).trans HBK1.out
  have HBX2 := hid (HBX1.out.trans (hb12.mono HBX1.out.size))
  have HTA := hid (HTX1.out.fwd hb12)
  have HTB := hid (ht2.fwd hbx2)
  obtain ⟨⟨t0, t1, t2, t3⟩, _⟩ := (TB.mk (w := X2) hbk1 (Below.refl _ X2)).facts
  obtain ⟨⟨u0, u1, u2, u3⟩, _⟩ := (TB.mk (w := X2) hbk2 (Below.refl _ X2)).facts
  have l1 : W1.heap.size < X2.heap.size := (Array.getElem?_eq_some_iff.1 hbk1).1
  have l2 : W2.heap.size < X2.heap.size := (Array.getElem?_eq_some_iff.1 hbk2).1
  clear h2 hb2 ht2 hX2 hbx2 hb12 hbk1 hbk2
  obtain ⟨Y1, hY1⟩ : ∃ Y, Y = X2.alloc (.cells #[.int .i64 (k : Nat), .string ⟨x.toArray⟩, .bool hh, .slice a1 n1 c1] 33) := ⟨_, rfl⟩
  obtain ⟨Y2, hY2⟩ : ∃ Y, Y = Y1.alloc (.cells #[.int .i64 (k : Nat), .string ⟨x.toArray⟩, .bool hh, .slice a2 n2 c2] 33) := ⟨_, rfl⟩
  have hy1 : Below X2.heap.size X2 Y1 := by rw [hY1]; exact below1 _ _
  have hy2 : Below Y1.heap.size Y1 Y2 := by rw [hY2]; exact below1 _ _
  have hs1 : Y1.heap.size = X2.heap.size + 1 := by rw [hY1]; simp
  have hr1 := toks_single (k := k) (x := x) (hh := hh) HTA.out
  rw [← hY1] at hr1
  have hr2 := toks_single (k := k) (x := x) (hh := hh) (HTB.out.fwd hy1)
  rw [← hY2, hs1] at hr2
  have hst := hid (sameTokens_fn _ [.mk k x hh ix] (Nat.le_refl _) Y2 _ _ _ _ (hr1.fwd hy2) hr2)
  have HBY := hid (HBX2.out.trans ((hy1.trans (hy2.mono hy1.size)).mono HBX2.out.size))
  have HY : Hid (Y2 = (X2.alloc (.cells #[.int .i64 (k : Nat), .string ⟨x.toArray⟩, .bool hh, .slice a1 n1 c1] 33)).alloc (.cells #[.int .i64 (k : Nat), .string ⟨x.toArray⟩, .bool hh, .slice a2 n2 c2] 33)) := hid (by rw [hY2, hY1])
  clear hY1 hY2 hy1 hy2 hs1 hr1 hr2
  go_upto_region 5 with fail
  rw [← HX2.out]
  have hpp : (p != p) = false := by simp
  have hee : (E != E) = false := by simp
  by_cases hE : E = 0
  · have hE1 : (E == 0) = true := by simpa using hE
    have HE := hid hE
    clear hE
    go_wp2_with fail
    rw [← HY.out]
    (with_reducible refine hst.out.mono ?_); rintro e W3 ⟨rfl, m, hW3⟩
    have HB3 := hid (show Below w.heap.size w W3 by rw [hW3]; exact HBY.out.trans (below_drewN _ _ _))
    clear hW3 t0 t1 t2 t3 u0 u1 u2 u3 l1 l2
    go_wp2_with fail
    (with_reducible refine (AW _).out.mono ?_); rintro e W7 ⟨rfl, hb7⟩
    go_wp2
    go_ret
    exact ⟨rfl, HB3.out.trans (hb7.mono HB3.out.size)⟩
  · have hE1 : (E == 0) = false := by simpa using hE
    have HE := hid hE
    clear hE
    go_wp2_with fail
    (with_reducible refine (AW _).out.mono ?_); rintro e W7 ⟨rfl, hb7⟩
    go_wp2
    go_ret
    exact ⟨rfl, HBX2.out.trans (hb7.mono HBX2.out.size)⟩
end Go.Proofs.YtkgpmkkodpjdfaaGreatDoor.Pz
/-
  ParseVariables: the row and its card. Condition: the listed package-level variables hold what the row lists (the card ties them to the text).
-/
namespace Go.Proofs.YtkgpmkkodpjdfaaGreatDoor.parseVariables
open Go.ChangeMaps Go.ChangeShapes Go.WideShapes Go.ChangeAt Go.RowKit
theorem own : ownKnob Tryz.prog.godebug = none := by kernel_rfl
theorem ok_true {P : Program} {W' : World} {f : Func} {t : TypeId} (hr : f.resultTypes = #[t]) (ht : P.underlying t = some .bool) :
    ∀ (j : Nat) (t' : TypeId) (r : Value), f.resultTypes[j]? = some t' → ((Value.bool true).resultList f.resultTypes.size)[j]? = some r → Value.okWide P W' .any 0 t' r := ok_one hr rfl (okWide_bool_mk ht true)
section
variable {H : Type} {enc : TypeId × Value → H}
set_option maxRecDepth 100000 in
/-- the row's last step: no place was read, no variable is asked, what lay below is as it was -/
theorem post_below {f : Func} {s : ChangeSpec} {W W' : World} {args : Array Value} {v : Value} {ds gs : List (DataW H)}
    (hW : DataW.Whole enc Tryz.prog f.params.toList s.vars false W args.toList ds gs [])
    (hres : ∀ (b : Nat) (sp : Nat → Bool) (hd : Bool), DataW.TrodAll enc Tryz.prog W' b sp hd f.resultTypes.toList (v.resultList f.resultTypes.size) (s.fn H (ds ++ gs)).results [])
    (hargs : ∀ sp : Nat → Bool, DataW.TrodAll enc Tryz.prog W' 0 sp true f.params.toList args.toList (s.fn H (ds ++ gs)).args [])
    (hvars : ∀ sp : Nat → Bool, DataW.TrodVars enc Tryz.prog W' sp s.vars (s.fn H (ds ++ gs)).vars []) (hb : Below W.heap.size W W')
    (hok : ∀ (j : Nat) (t : TypeId) (r : Value), f.resultTypes[j]? = some t → (v.resultList f.resultTypes.size)[j]? = some r → Value.okWide Tryz.prog W' .any 0 t r) :
    s.post enc Tryz.prog f false true false false W args v W' := by
  refine ⟨ds, gs, [], [], [], [], hW, hres _ _ _, hargs _, hvars _, World.keptBut_mono (fun p hp => ⟨hp, .inr (.inr hp)⟩) (hb.frame (· ∈ ([] : List MemPlace))), fun _ => ?_⟩
  refine ⟨hok, _, _, ([] ++ []) ++ [], ⟨[] ++ [], [], trodAll_append (hargs _) (hres _ _ _), hvars _, rfl, ?_, ?_⟩, ?_⟩
  · intro b off hp
    simp at hp
  · intro h
    cases h
  · intro p hp _
    simp at hp
end
theorem contract (H : Type) (enc : TypeId × Value → H) (W : World) (base : Nat) (args : Array Value) (ds gs : List (DataW H)) (before : List MemPlace)
    (hval : ∀ (j : Nat) t v, Tryz.f4.params[j]? = some t → args[j]? = some v → Value.okWide Tryz.prog W .any base t v)
    (hW : DataW.Whole enc Tryz.prog Tryz.f4.params.toList Rows.parseVariablesSpec.vars false W args.toList ds gs before) :
    Calls Tryz.prog 4 args W fun e W' => ∃ v, e = .returned v ∧ Rows.parseVariablesSpec.post enc Tryz.prog Tryz.f4 false true false false W args v W' := by
  have hW' := hW
  obtain ⟨p, q, hA0, hV, rfl, hfz, hnd⟩ := hW
  have hA : DataW.TrodAll enc Tryz.prog W 0 (fun _ => true) true Tryz.f4.params.toList args.toList ds p := hA0
  rw [Tryz.params4] at hA hval
  obtain ⟨v0, vs0, d0, ds0, p0, q0, hargs, rfl, rfl, h0, r0⟩ := trodAll_cons hA
  obtain ⟨v1, vs1, d1, ds1, p1, q1, rfl, rfl, rfl, h1, r1⟩ := trodAll_cons r0
  obtain ⟨rfl, rfl, rfl⟩ := trodAll_nil r1
  obtain rfl : args = #[v0, v1] := by cases args; simp_all
  obtain ⟨rfl, rfl⟩ := trodVars_none hV
  obtain ⟨s0, rfl, rfl, rfl, m0⟩ := open_string Tryz.underlying9 (by with_reducible exact hval 0 9 v0 (by simp) (by simp)) h0
  obtain ⟨s1, rfl, rfl, rfl, m1⟩ := open_int Tryz.underlying3 (by with_reducible exact hval 1 3 v1 (by simp) (by simp)) h1
  clear hA0
  simp only [List.append_nil] at hW'
  have e0 : s0 = ⟨s0.data.toList.toArray⟩ := by cases s0; simp
  have q0 : s0.data.toList.length ≤ 9223372036854775807 := by
    have h1 : s0.data.toList.length = s0.size := by rw [Array.length_toList]; rfl
    have h2 := m0
    unfold maxLen at h2
    omega
  have walk := Pz.parseVariables_fn s0.data.toList s1 W q0
  rw [← e0] at walk
  refine walk.mono fun e W' ⟨he, hg⟩ => ?_
  subst he
  exact ⟨_, rfl, post_below hW' (fun _ _ _ => trodAll_cons_mk (shut_bool Tryz.underlying4 _) trodAll_mk0) (fun _ => trodAll_cons_mk (shut_string Tryz.underlying9 m0) (trodAll_cons_mk (shut_int Tryz.underlying3 m1) trodAll_mk0)) (fun _ => rfl) hg (@ok_true Tryz.prog W' Tryz.f4 4 (by kernel_rfl) Tryz.underlying4)⟩
theorem reads (os : Os) {H : Type} (enc : TypeId × Value → H) : ∃ places, DataW.whole enc Tryz.prog ((World.laidAll Tryz.prog os Rows.parseVariablesRow.laid).forCall (fun _ _ => 0) ⟨#[], #[.string .empty, .int .i64 0], []⟩).memory Tryz.f4.params.toList Rows.parseVariablesSpec.vars false (#[.string .empty, .int .i64 0] : Array Value).toList 8 = some ([.lit (.string []), .lit (.int .i64 0)], [], places) :=
  ⟨[], by kernel_rfl⟩
set_option maxRecDepth 100000 in
theorem lifted (os : Os) (started : os.Started) (H : Type) (enc : TypeId × Value → H) (F : Stop.Interp) :
    ReturnsInHanded {} Tryz.checked os 4 .any ((OpenSpec.ofChange Rows.parseVariablesSpec).preRow enc Tryz.prog Tryz.f4 Rows.parseVariablesRow.domain false Rows.parseVariablesRow.laid) (((OpenSpec.ofChange Rows.parseVariablesSpec).at F).post enc Tryz.prog Tryz.f4 false true false false) := by
  obtain ⟨places, hx⟩ := reads os enc
  have hl : laidMetH Tryz.prog Rows.parseVariablesRow.laid ((World.laidAll Tryz.prog os Rows.parseVariablesRow.laid).forCall (fun _ _ => 0) ⟨#[], #[.string .empty, .int .i64 0], []⟩).memory := by
    rw [MakeChecks.laidMetH_plain _ _ _ (by kernel_rfl)]
    exact laidMet_laidAll _ (by kernel_rfl) (by kernel_rfl)
  refine returnsInHanded_of_row (C := Tryz.checked) (s := (OpenSpec.ofChange Rows.parseVariablesSpec)) own started (by kernel_rfl) Tryz.func4
    (witness_row_at (enc := enc) (C := Tryz.checked) false (World.laidAll Tryz.prog os Rows.parseVariablesRow.laid) #[.string .empty, .int .i64 0] (World.laidAll_os _ _ _) (by kernel_rfl) (by kernel_rfl) (by kernel_rfl)
      (OpenSpec.preRow_of_cond 8 hx (by kernel_rfl) (fun k hk => by cases hk) (by kernel_rfl) hl)) ?_
  intro W base args ds gs before hval hW _ _ _ _ _ _
  exact contract H enc W base args ds gs before hval hW
theorem said : Rows.ParseVariablesSaid :=
  OpenClaim.holds_of_cond 4 Tryz.f4 rfl rfl rfl rfl rfl rfl rfl ⟨rfl, rfl, rfl, rfl, rfl⟩ rfl rfl rfl rfl rfl (by kernel_rfl) Tryz.func4 (by kernel_rfl)
    (of_decide_eq_true (by kernel_rfl)) (by unfold Func.isWrapper; first | (rw [if_pos (by decide +kernel)]; kernel_rfl) | (rw [if_neg (by decide +kernel)]; exact ⟨rfl, rfl⟩))
    (fun os started H enc _ F => by rw [OpenClaim.pre_eq_preRow]; exact lifted os started H enc F)
theorem plain (f : FuncId) (fn : Func) (hf : Tryz.pinned.checked.prog.funcNamed "threadbare/threadbarelaw06.ParseVariables" = some f) (hfn : Tryz.pinned.checked.prog.funcs[f]? = some fn) :
    true = Tryz.pinned.checked.prog.looks [] ∧ ∀ (j : Nat) t, fn.params[j]? = some t → Tryz.pinned.checked.prog.wantsStandIn t = false := by
  obtain rfl : f = 4 := Option.some.inj ((show Tryz.prog.funcNamed "threadbare/threadbarelaw06.ParseVariables" = some 4 by kernel_rfl).symm.trans hf) |>.symm
  obtain rfl : fn = Tryz.f4 := (Option.some.inj (Tryz.func4.symm.trans hfn)).symm
  refine ⟨by kernel_rfl, fun j t ht => ?_⟩
  rw [Tryz.params4] at ht
  have ht := Array.mem_of_getElem? ht
  simp at ht
  rcases ht with rfl | rfl
  · exact (show Tryz.prog.wantsStandIn 9 = false by kernel_rfl)
  · exact (show Tryz.prog.wantsStandIn 3 = false by kernel_rfl)
theorem card : Rows.ParseVariablesCardSaid :=
  Claim7.holds_tied_plain_at .later [] _ _ _ _ said (fun _ h => by cases h) (by kernel_rfl) (fun _ h => by cases h) parseVariables_row_tie rfl ⟨rfl, rfl⟩ (by kernel_rfl) rfl plain (by kernel_rfl)
end Go.Proofs.YtkgpmkkodpjdfaaGreatDoor.parseVariables
