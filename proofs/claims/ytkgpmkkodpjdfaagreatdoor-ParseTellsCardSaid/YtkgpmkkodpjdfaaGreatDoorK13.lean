/-
  Part K13 of the proofs of this seat: contracts of functions and plain facts, merged from 2 texts.
-/
import Derived.Deep.Cut
import Derived.Test.YtkgpmkkodpjdfaaGreatDoorK0
import Derived.Test.YtkgpmkkodpjdfaaGreatDoorK1
import Derived.Test.YtkgpmkkodpjdfaaGreatDoorK2
import Derived.Test.YtkgpmkkodpjdfaaGreatDoorK3
import Derived.Test.YtkgpmkkodpjdfaaGreatDoorK4
import Derived.Test.YtkgpmkkodpjdfaaGreatDoorK5
import Derived.Test.YtkgpmkkodpjdfaaGreatDoorK6
import Derived.Test.YtkgpmkkodpjdfaaGreatDoorK7
import Derived.Test.YtkgpmkkodpjdfaaGreatDoorK8
import Derived.Test.YtkgpmkkodpjdfaaGreatDoorK9
import Derived.Test.YtkgpmkkodpjdfaaGreatDoorK10
import Derived.Test.YtkgpmkkodpjdfaaGreatDoorK11
import Derived.Test.YtkgpmkkodpjdfaaGreatDoorK12
/-
  The reference 06: a word: what its walk shares.
-/
namespace Go.Proofs.YtkgpmkkodpjdfaaGreatDoor.Pz
open Go.RowKit
theorem Tryz.infoWd : (Tryz.prog.info? 49).map (·.size) = some 2 := by kernel_rfl
theorem belowW3 (w : World) (o1 o2 o3 : Obj) : Below w.heap.size w (((w.alloc o1).alloc o2).alloc o3) := (((Below.refl _ _).alloc (Nat.le_refl _) _).alloc (by simp) _).alloc (by simp; omega) _
theorem set2h {w : World} {b : Nat} {a0 a1 : Value} {T : TypeId} (h : w.heap[b]? = some (.cells #[a0, a1] T (0, 0))) (x y : Value) : ((w.setCell ⟨b, 0, none⟩ x).setCell ⟨b, 1, none⟩ y).heap[b]? = some (.cells #[x, y] T (0, 0)) := by
  simp [World.setCell, Array.getElem?_modify, h]
theorem set2_0 {w : World} {b : Nat} {a0 a1 : Value} {T : TypeId} (h : w.heap[b]? = some (.cells #[a0, a1] T (0, 0))) (x : Value) : (w.setCell ⟨b, 0, none⟩ x).heap[b]? = some (.cells #[x, a1] T (0, 0)) := by
  simp [World.setCell, Array.getElem?_modify, h]
theorem set2_1 {w : World} {b : Nat} {a0 a1 : Value} {T : TypeId} (h : w.heap[b]? = some (.cells #[a0, a1] T (0, 0))) (x : Value) : (w.setCell ⟨b, 1, none⟩ x).heap[b]? = some (.cells #[a0, x] T (0, 0)) := by
  simp [World.setCell, Array.getElem?_modify, h]
/-- the word's local and its two results in memory -/
structure WB (rb N : Nat) (w : World) (b : Bool) (v : Value) (W : World) : Prop where
  tok : W.heap[N]? = some (.cells #[.bool false, .slice none 0 0] 49 (0, 0))
  flt : W.heap[N + 1]? = some (.cells #[.int .i64 0, .int .i64 0, .bool false] 63 (0, 0))
  loc : W.heap[N + 1 + 1]? = some (.cells #[.bool b, v] 49 (0, 0))
  but : But rb N w W
theorem WB.size {rb N : Nat} {w W : World} {b : Bool} {v : Value} (h : WB rb N w b v W) : N + 1 + 1 < W.heap.size := (Array.getElem?_eq_some_iff.1 h.loc).1
theorem WB.below {rb N : Nat} {w W W' : World} {b : Bool} {v : Value} (h : WB rb N w b v W) (hb : Below W.heap.size W W') : WB rb N w b v W' := by
  have := h.size
  exact ⟨(hb.block N (by omega)).trans h.tok, (hb.block (N + 1) (by omega)).trans h.flt, (hb.block (N + 1 + 1) (by omega)).trans h.loc, h.but.trans (but_of_below (hb.mono (by omega)) rb)⟩
theorem WB.call {rb N : Nat} {w W W' : World} {b : Bool} {v : Value} (h : WB rb N w b v W) (hrb : rb < N) (hb : But rb W.heap.size W W') : WB rb N w b v W' := by
  have := h.size
  exact ⟨(hb.block N (by omega) (by omega)).trans h.tok, (hb.block (N + 1) (by omega) (by omega)).trans h.flt, (hb.block (N + 1 + 1) (by omega) (by omega)).trans h.loc, h.but.trans (hb.mono (by omega))⟩
theorem WB.drewN {rb N : Nat} {w W : World} {b : Bool} {v : Value} (h : WB rb N w b v W) (n : Nat) : WB rb N w b v (W.drewN n) := ⟨h.tok, h.flt, h.loc, h.but.drewN n⟩
theorem WB.setw {rb N : Nat} {w W : World} {b : Bool} {v : Value} (h : WB rb N w b v W) (b' : Bool) : WB rb N w b' v (W.setCell ⟨N + 1 + 1, 0, none⟩ (.bool b')) := by
  have h1 : N ≠ N + 1 + 1 := by omega
  have h2 : N + 1 ≠ N + 1 + 1 := by omega
  exact ⟨(Below.heap_setCell _ _ _ _ (fun e => h1 e)).trans h.tok, (Below.heap_setCell _ _ _ _ (fun e => h2 e)).trans h.flt, set2_0 h.loc _, h.but.setCell (.inr (show N ≤ N + 1 + 1 by omega)) _⟩
theorem WB.setv {rb N : Nat} {w W : World} {b : Bool} {v : Value} (h : WB rb N w b v W) (v' : Value) : WB rb N w b v' (W.setCell ⟨N + 1 + 1, 1, none⟩ v') := by
  have h1 : N ≠ N + 1 + 1 := by omega
  have h2 : N + 1 ≠ N + 1 + 1 := by omega
  exact ⟨(Below.heap_setCell _ _ _ _ (fun e => h1 e)).trans h.tok, (Below.heap_setCell _ _ _ _ (fun e => h2 e)).trans h.flt, set2_1 h.loc _, h.but.setCell (.inr (show N ≤ N + 1 + 1 by omega)) _⟩
theorem WB.rdset {rb N o : Nat} {s : Str} {d : Nat} {g : Told} {W : World} (h : RrAt W rb s d g) (hrb : rb < N) (u : Value) : RrAt (W.setCell ⟨N + 1 + 1, o, none⟩ u) rb s d g := by
  have h1 : rb ≠ N + 1 + 1 := by omega
  exact (Below.heap_setCell _ _ _ _ (fun e => h1 e)).trans h
theorem WB.facts {rb N : Nat} {w W : World} {b : Bool} {v : Value} (h : WB rb N w b v W) : (W.cell? ⟨N, 0, none⟩ = some (.bool false) ∧ W.cell? ⟨N, 1, none⟩ = some (.slice none 0 0)) ∧
    (W.cell? ⟨N + 1, 0, none⟩ = some (.int .i64 0) ∧ W.cell? ⟨N + 1, 1, none⟩ = some (.int .i64 0) ∧ W.cell? ⟨N + 1, 2, none⟩ = some (.bool false)) ∧
    (W.cell? ⟨N + 1 + 1, 0, none⟩ = some (.bool b) ∧ W.cell? ⟨N + 1 + 1, 1, none⟩ = some v) ∧ ∀ o, W.frozen? ⟨N, o, none⟩ = false ∧ W.frozen? ⟨N + 1, o, none⟩ = false ∧ W.frozen? ⟨N + 1 + 1, o, none⟩ = false :=
  ⟨⟨by rw [Lib.cell_of_heap h.tok]; rfl, by rw [Lib.cell_of_heap h.tok]; rfl⟩, flt_cells h.flt, ⟨by rw [Lib.cell_of_heap h.loc]; rfl, by rw [Lib.cell_of_heap h.loc]; rfl⟩, fun o => ⟨Lib.frozen_of_heap h.tok o, Lib.frozen_of_heap h.flt o, Lib.frozen_of_heap h.loc o⟩⟩
/-- both results are stored -/
theorem WB.put {rb N : Nat} {w W : World} {b : Bool} {v : Value} (h : WB rb N w b v W) (x0 x1 y0 y1 y2 : Value) :
    let Y := ((((W.setCell ⟨N, 0, none⟩ x0).setCell ⟨N, 1, none⟩ x1).setCell ⟨N + 1, 0, none⟩ y0).setCell ⟨N + 1, 1, none⟩ y1).setCell ⟨N + 1, 2, none⟩ y2
    Y.heap[N]? = some (.cells #[x0, x1] 49 (0, 0)) ∧ Y.heap[N + 1]? = some (.cells #[y0, y1, y2] 63 (0, 0)) ∧ But rb N w Y ∧ ∀ k, k ≠ N → k ≠ N + 1 → Y.heap[k]? = W.heap[k]? := by
  intro Y
  have hn : N ≠ N + 1 := by omega
  have hn' : N + 1 ≠ N := by omega
  have e1 : ((W.setCell ⟨N, 0, none⟩ x0).setCell ⟨N, 1, none⟩ x1).heap[N + 1]? = some (.cells #[.int .i64 0, .int .i64 0, .bool false] 63 (0, 0)) := by
    rw [Below.heap_setCell _ _ _ _ (fun e => hn' e), Below.heap_setCell _ _ _ _ (fun e => hn' e)]
    exact h.flt
  refine ⟨?_, set3 e1 _ _ _, ?_, fun k h1 h2 => ?_⟩
  · rw [Below.heap_setCell _ _ _ _ (fun e => hn e), Below.heap_setCell _ _ _ _ (fun e => hn e), Below.heap_setCell _ _ _ _ (fun e => hn e)]
    exact set2h h.tok _ _
  · exact ((((h.but.setCell (.inr (Nat.le_refl _)) _).setCell (.inr (Nat.le_refl _)) _).setCell (.inr (Nat.le_succ _)) _).setCell (.inr (Nat.le_succ _)) _).setCell (.inr (Nat.le_succ _)) _
  · rw [Below.heap_setCell _ _ _ _ (fun e => h2 e), Below.heap_setCell _ _ _ _ (fun e => h2 e), Below.heap_setCell _ _ _ _ (fun e => h2 e), Below.heap_setCell _ _ _ _ (fun e => h1 e), Below.heap_setCell _ _ _ _ (fun e => h1 e)]
/-- the word that has been read, with what was met ahead of it -/
def sp (b : Bool) : Res Wd → Res Wd
  | .ok x r => .ok ⟨b || x.spread, x.toks⟩ r
  | .halt h => .halt h
theorem sp_false (R : Res Wd) : sp false R = R := by cases R <;> rfl
theorem sp_true (b : Bool) (R : Res Wd) : sp b (match R with | .ok x r' => .ok ⟨true, x.toks⟩ r' | .halt h => .halt h) = sp true R := by
  cases R with
  | ok x r => show Res.ok (⟨b || true, _⟩ : Wd) r = .ok ⟨true || x.spread, _⟩ r; simp
  | halt h => rfl
theorem drew_heap {Y : World} {k : Nat} {o : Option Obj} (h : Y.heap[k]? = o) : Y.drew.heap[k]? = o := h
end Go.Proofs.YtkgpmkkodpjdfaaGreatDoor.Pz
/-
  The reference 06: a word.
-/
namespace Go.Proofs.YtkgpmkkodpjdfaaGreatDoor.Pz
open Go.RowKit
set_option maxRecDepth 100000 in
set_option maxHeartbeats 16000000 in
theorem wordR {wi : Bool} {d : Nat} {l : Str} (ihq : ∀ l', l'.length < l.length → PartsRC .quote all3 d l') (ihb : ∀ l', l'.length ≤ l.length → PartsRC (.bare wi) all3 d l') : WordRC wi d l := by
  intro w rb s i hs hd h ha hne
  have hrb := h.lt
  have hsz : (⟨s.toArray⟩ : ByteArray).size = s.length := Lib.size_mk _
  obtain ⟨N, hN⟩ : ∃ N, N = w.heap.size := ⟨_, rfl⟩
  obtain ⟨R, hR⟩ : ∃ R, R = word wi d l := ⟨_, rfl⟩
  rw [← hR]
  have hrb0 : rb < N := by omega
  have HN := hid hN
  obtain ⟨W, hW⟩ : ∃ W, W = ((w.alloc (.cells #[.bool false, .slice none 0 0] 49)).alloc (.cells #[.int .i64 0, .int .i64 0, .bool false] 63)).alloc (.cells #[.bool false, .slice none 0 0] 49) := ⟨_, rfl⟩
  have hrW : RrAt W rb s d all3 := by rw [hW]; exact h.below (belowW3 _ _ _ _)
  have hbW : WB rb N w false (.slice none 0 0) W := by
    have hn := new3 w (.cells #[.bool false, .slice none 0 0] 49) (.cells #[.int .i64 0, .int .i64 0, .bool false] 63) (.cells #[.bool false, .slice none 0 0] 49)
    rw [hW, hN]
    exact ⟨hn.1, hn.2.1, hn.2.2, but_of_below (belowW3 w _ _ _) rb⟩
  have hR0 : R = sp false (word wi d l) := by rw [sp_false, hR]
  have H0 := hid (show At s l i ∧ l ≠ [] ∧ RrAt W rb s d all3 ∧ WB rb N w false (.slice none 0 0) W ∧ R = sp false (word wi d l) from ⟨ha, hne, hrW, hbW, hR0⟩)
  have HW := hid hW
  have IHQ := hid ihq
  have IHB := hid ihb
  have hfn := fun u => hid (fine_fn u)
  clear hR h ha hne hW hrW hbW hR0 ihq ihb hN hrb
  go_enter Tryz.func99, Tryz.ntmps99
  go_wp2_with fail
  rw [← HW.out, ← HN.out]
  go_loopg [1] l.length (fun k iv wr => ∃ (l' : Str) (i' : Nat) (b : Bool), iv = .int .i64 (i' : Nat) ∧ At s l' i' ∧ l' ≠ [] ∧ RrAt wr rb s d all3 ∧ WB rb N w b (.slice none 0 0) wr ∧ R = sp b (word wi d l') ∧ l'.length ≤ l.length ∧ k = l'.length)
  case atStart => exact ⟨l, i, false, rfl, H0.out.1, H0.out.2.1, H0.out.2.2.1, H0.out.2.2.2.1, H0.out.2.2.2.2, Nat.le_refl _, rfl⟩
  case round =>
    obtain ⟨l', i', b, rfl, hat, hne, hrd, hwb, hRl, hll, rfl⟩ := hrel
    clear H0 HW
    have HB := hid hwb
    have HRD := hid hrd
    clear hwb
    cases l' with
    | nil => exact absurd rfl hne
    | cons c t =>
      have hlt := hat.lt
      have hx := hat.byte
      have hlen := hat.len
      simp only [List.length_cons] at hlen hll
      obtain ⟨c0, c1, c2, c3, c4⟩ := hrd.cells
      clear hrd hne
      have hltr : rb < wr.heap.size := by have := HB.out.size; omega
      have hltN : N < wr.heap.size := by have := HB.out.size; omega
      have hltN1 : N + 1 < wr.heap.size := by have := HB.out.size; omega
      have hltN2 : N + 1 + 1 < wr.heap.size := by have := HB.out.size; omega
      by_cases h123 : c = 123
      · subst h123
        cases hb : brace 0 t with
        | none =>
          have hRR : R = .halt (.lacks (t.length + 1)) := by rw [hRl, word_brace, hb]; rfl
          have hcl : Calls Tryz.prog 119 #[.string ⟨s.toArray⟩, .int .i64 (i' : Nat)] wr fun e w' => e = .returned (.int .i64 (-1)) ∧ w' = wr := by
            have := closing_fn hat hs wr
            rw [hb] at this
            exact this
          have HRR := hid hRR
          have HCL := hid hcl
          have hi2 : s.length - (t.length + 1) = i' := by omega
          clear hRR hcl hRl hb
          go_wp2_with fail
          (with_reducible refine HCL.out.mono ?_); rintro e W1 ⟨rfl, hw1⟩; subst W1
          obtain ⟨⟨t0, t1⟩, ⟨b0, b1, b2⟩, ⟨l0, l1⟩, hfz⟩ := HB.out.facts
          have f0 := (hfz 0).1
          have f1 := (hfz 1).1
          have g0 := (hfz 0).2.1
          have g1 := (hfz 1).2.1
          have g2 := (hfz 2).2.1
          have u0 := (hfz 0).2.2
          have u1 := (hfz 1).2.2
          clear hfz
          go_wp2
          obtain ⟨p1, p2, p3, p4⟩ := HB.out.put (.bool false) (.slice none 0 0) (.int .i64 2) (.int .i64 (i' : Int)) (.bool true)
          refine bodyPost_ret (results_ctc rfl _ rfl p1 Tryz.underlying49 rfl Tryz.infoWd rfl p2 Tryz.underlying63 rfl Tryz.infoF) rfl ?_
          rw [HRR.out]
          unfold WordRP
          dsimp only [faultC]
          rw [hi2]
          have p5 := ((p4 rb (by omega) (by omega)).trans HRD.out)
          refine ⟨rfl, .inl p5, ?_⟩
          rw [← HN.out]
          exact p3
        | some y =>
          obtain ⟨q, r⟩ := y
          have hcl : Calls Tryz.prog 119 #[.string ⟨s.toArray⟩, .int .i64 (i' : Nat)] wr fun e w' => e = .returned (.int .i64 (closeI s.length (some (q, r)))) ∧ w' = wr := by
            have := closing_fn hat hs wr
            rw [hb] at this
            exact this
          have ht := brace_text t.length t (Nat.le_refl _) 0 q r hb
          have htl : t.length = q.length + (r.length + 1) := by rw [ht]; simp
          obtain ⟨kk, hkk⟩ : ∃ kk, kk = s.length - r.length - 1 := ⟨_, rfl⟩
          have hkk2 : kk = i' + 1 + q.length := by omega
          have hkk3 : kk + (r.length + 1) = s.length := by omega
          have hkk4 : kk ≤ s.length := by omega
          have hki : i' + 1 ≤ kk := by omega
          have hk0 : decide ((kk : Int) < 0) = false := by rw [decide_eq_false]; omega
          replace hcl : Calls Tryz.prog 119 #[.string ⟨s.toArray⟩, .int .i64 (i' : Nat)] wr fun e w' => e = .returned (.int .i64 (kk : Nat)) ∧ w' = wr := by
            rw [hkk]
            exact hcl
          have hext : (⟨s.toArray⟩ : ByteArray).extract (i' + 1) kk = ⟨q.toArray⟩ := by
            have h1 := hat.tail
            rw [ht] at h1
            rw [hkk2]
            exact h1.text
          have hatr : At s r (kk + 1) := by
            have h1 := hat.tail
            rw [ht] at h1
            rw [hkk2]
            exact h1.app.tail
          have hrl : r.length < t.length := by omega
          have hql : q.length ≤ 1000000 := by omega
          have HATR := hid hatr
          have HCL := hid hcl
          have HRO := hid (hRl.trans (by rw [word_brace, hb]))
          have HQK := hid hkk2
          clear hcl hatr hkk hkk2 hRl hb ht
          cases hen : ended wi r with
          | true =>
            have HEN := hid hen
            clear hen
            by_cases hq : q = [42]
            · have hqb : (q == [42]) = true := by rw [hq]; rfl
              clear hq
              have hRR : R = .ok ⟨b, [Tok.txt (joined false q)]⟩ r := by
                rw [HRO.out]
                dsimp only
                rw [HEN.out, if_neg (by simp), if_pos rfl]
                cases b <;> rfl
              have HRR := hid hRR
              clear hRR HRO
              have he : Calls Tryz.prog 62 #[.pointer (some ⟨rb, 0, none⟩), .int .i64 ((kk : Int) + 1), .bool wi] wr _ := endsR_fn HRD.out HATR.out hs wi
              rw [HEN.out] at he
              have HE := hid he
              clear he
              go_wp2_with fail
              (with_reducible refine HCL.out.mono ?_); rintro e W1 ⟨rfl, hw1⟩; subst W1
              go_wp2_with fail
              (with_reducible refine HE.out.mono ?_); rintro e W1 ⟨rfl, hb1⟩
              have HB1 := hid (HB.out.below hb1)
              have HR1 := hid (HRD.out.below hb1)
              have HBR := hid (bracedR_fn q hql W1)
              clear hb1
              go_wp2_with fail
              (with_reducible refine HBR.out.mono ?_); rintro e W2 ⟨rfl, hb2⟩
              have htx := hid (text_fn (joined false q) W2)
              have HB2 := hid (HB1.out.below hb2)
              have HR2 := hid (HR1.out.below hb2)
              clear hb2
              go_wp2_with fail
              (with_reducible refine htx.out.mono ?_); rintro e W3 ⟨rfl, hW3⟩
              have HB3 := hid (show WB rb N w b (.slice none 0 0) W3 by rw [hW3]; exact HB2.out.below (below1 _ _))
              have HR3 := hid (show RrAt W3 rb s d all3 by rw [hW3]; exact HR2.out.below (below1 _ _))
              have HT3 := hid (show ToksIs 33 W3 (New (N + 1 + 1 + 1)) (.slice (some ⟨W2.heap.size, 0, none⟩) 1 1) [Tok.txt (joined false q)] by rw [hW3]; exact toks_one W2 _ _ (show N + 1 + 1 + 1 ≤ W2.heap.size from HB2.out.size))
              have hlt3 : N + 1 + 1 < W3.heap.size := HB3.out.size
              clear hW3 htx c0 c1 c2 c3 c4
              obtain ⟨⟨t0, t1⟩, ⟨b0, b1, b2⟩, ⟨l0, l1⟩, hfz⟩ := HB3.out.facts
              have f0 := (hfz 0).1
              have f1 := (hfz 1).1
              have g0 := (hfz 0).2.1
              have g1 := (hfz 1).2.1
              have g2 := (hfz 2).2.1
              have u0 := (hfz 0).2.2
              have u1 := (hfz 1).2.2
              clear hfz
              obtain ⟨n2, hn2⟩ : ∃ n2, n2 = W2.heap.size := ⟨_, rfl⟩
              rw [← hn2]
              rw [← hn2] at HT3
              clear hn2
              go_upto_region 27 with fail
              refine at_world fun W4 hW4 => ?_
              have HB4 := hid (show WB rb N w b (.slice (some ⟨n2, 0, none⟩) 1 1) W4 by rw [hW4]; exact HB3.out.setv _)
              have HR4 := hid (show RrAt W4 rb s d all3 by rw [hW4]; exact WB.rdset HR3.out hrb0 _)
              have HT4 := hid (show ToksIs 33 W4 (New (N + 1 + 1 + 1)) (.slice (some ⟨n2, 0, none⟩) 1 1) [Tok.txt (joined false q)] by rw [hW4]; exact HT3.out.keep (fun _ h => h) (fun g hg => Below.heap_setCell _ _ _ _ (fun e => by have hg2 : N + 1 + 1 + 1 ≤ g := hg; have e2 : g = N + 1 + 1 := e; omega)))
              clear hW4 hlt3 t0 t1 b0 b1 b2 l0 l1 f0 f1 g0 g1 g2 u0 u1
              have he : Calls Tryz.prog 62 #[.pointer (some ⟨rb, 0, none⟩), .int .i64 ((kk : Int) + 1), .bool wi] W4 _ := endsR_fn HR4.out HATR.out hs wi
              rw [HEN.out] at he
              have HE := hid he
              clear he
              obtain ⟨c0, c1, c2, c3, c4⟩ := HR4.out.cells
              obtain ⟨⟨t0, t1⟩, ⟨b0, b1, b2⟩, ⟨l0, l1⟩, hfz⟩ := HB4.out.facts
              have f0 := (hfz 0).1
              have f1 := (hfz 1).1
              have g0 := (hfz 0).2.1
              have g1 := (hfz 1).2.1
              have g2 := (hfz 2).2.1
              have u0 := (hfz 0).2.2
              have u1 := (hfz 1).2.2
              clear hfz
              go_wp2_with fail
              (with_reducible refine HE.out.mono ?_); rintro e W5 ⟨rfl, hb5⟩
              have HB5 := hid (HB4.out.below hb5)
              have HR5 := hid (HR4.out.below hb5)
              have HT5 := hid (HT4.out.fwd hb5)
              clear hb5 c0 c1 c2 c3 c4 t0 t1 b0 b1 b2 l0 l1 f0 f1 g0 g1 g2 u0 u1
              obtain ⟨c0, c1, c2, c3, c4⟩ := HR5.out.cells
              obtain ⟨⟨t0, t1⟩, ⟨b0, b1, b2⟩, ⟨l0, l1⟩, hfz⟩ := HB5.out.facts
              have f0 := (hfz 0).1
              have f1 := (hfz 1).1
              have g0 := (hfz 0).2.1
              have g1 := (hfz 1).2.1
              have g2 := (hfz 2).2.1
              have u0 := (hfz 0).2.2
              have u1 := (hfz 1).2.2
              clear hfz
              go_wp2
              refine U_begin (late := fun i => decide (4 ≤ i)) (S := fun u => u.cell? ⟨N + 1 + 1, 0, none⟩ = some (.bool b) ∧ u.cell? ⟨N + 1 + 1, 1, none⟩ = some (.slice (some ⟨n2, 0, none⟩) 1 1)) (by kernel_rfl) ?_
              have S0 := hid (show (fun u : World => u.cell? ⟨N + 1 + 1, 0, none⟩ = some (.bool b) ∧ u.cell? ⟨N + 1 + 1, 1, none⟩ = some (.slice (some ⟨n2, 0, none⟩) 1 1)) W5.drew from ⟨l0, l1⟩)
              refine U_take2 8 (i := 0) (v := .agg #[.bool b, .slice (some ⟨n2, 0, none⟩) 1 1]) rfl (by kernel_rfl) (by kernel_rfl) (by kernel_rfl) (by kernel_rfl) (by kernel_rfl) (fun _ _ _ h => h) (.inl ⟨rfl, fun u hu => (by obtain ⟨h1, h2⟩ := hu; go_simp)⟩) S0.out ?_
              refine U_take2 8 (i := 1) (v := .int .i64 ((kk : Int) + 1)) rfl (by kernel_rfl) (by kernel_rfl) (by kernel_rfl) (by kernel_rfl) (by kernel_rfl) (fun _ _ _ h => h) (.inl ⟨rfl, fun u hu => (by go_simp)⟩) S0.out ?_
              refine U_step (j := 2) (by kernel_rfl) rfl (fun K hK => ?_)
              go_simp
              (with_reducible refine (hfn _).out.mono ?_); rintro e W7 ⟨rfl, hW7⟩
              have HR7 := hid (show RrAt W7 rb s d all3 by rw [hW7]; exact RrAt.below (w := W5.drew) HR5.out (below1 _ _))
              have HB7 := hid (show WB rb N w b (.slice (some ⟨n2, 0, none⟩) 1 1) W7 by rw [hW7]; exact (HB5.out.drewN 1).below (below1 _ _))
              have HT7 := hid (show ToksIs 33 W7 (New (N + 1 + 1 + 1)) (.slice (some ⟨n2, 0, none⟩) 1 1) ([Tok.txt (joined false q)]) by rw [hW7]; exact ToksIs.fwd (HT5.out.keep (w' := W5.drew) (fun _ h => h) (fun _ _ => rfl)) (below1 _ _))
              clear hW7
              have hq7 := HB7.out.facts.2.2.1
              refine hK.out _ _ (.inr hq7) ?_
              clear hK K hq7 c0 c1 c2 c3 c4 t0 t1 b0 b1 b2 l0 l1 f0 f1 g0 g1 g2 u0 u1
              obtain ⟨⟨t0, t1⟩, ⟨b0, b1, b2⟩, ⟨l0, l1⟩, hfz⟩ := HB7.out.facts
              have f0 := (hfz 0).1
              have f1 := (hfz 1).1
              have g0 := (hfz 0).2.1
              have g1 := (hfz 1).2.1
              have g2 := (hfz 2).2.1
              have u0 := (hfz 0).2.2
              have u1 := (hfz 1).2.2
              clear hfz
              refine U_step (j := 3) (by kernel_rfl) rfl (fun K hK => ?_)
              go_simp
              have hqq : N + 1 + 1 ≠ N := by omega
              refine hK.out _ _ (.inr ?_) ?_
              · have he : ((W7.setCell ⟨N, 0, none⟩ (.bool b)).setCell ⟨N, 1, none⟩ (.slice (some ⟨n2, 0, none⟩) 1 1)).heap[N + 1 + 1]? = W7.heap[N + 1 + 1]? := by
                  rw [Below.heap_setCell _ _ _ _ (fun e => hqq e), Below.heap_setCell _ _ _ _ (fun e => hqq e)]
                have he2 := he.trans HB7.out.loc
                exact ⟨by rw [Lib.cell_of_heap he2]; rfl, by rw [Lib.cell_of_heap he2]; rfl⟩
              clear hK K
              refine U_then (by kernel_rfl) ?_
              refine U_step (j := 4) (by kernel_rfl) rfl (fun K hK => ?_)
              go_simp
              refine hK.out _ _ (.inr trivial) ?_
              clear hK K
              refine U_step (j := 5) (by kernel_rfl) rfl (fun K hK => ?_)
              go_simp
              refine hK.out _ _ (.inr trivial) ?_
              clear hK K
              refine U_done (by kernel_rfl) ?_ _
              go_wp2
              obtain ⟨p1, p2, p3, p4⟩ := HB7.out.put (.bool b) (.slice (some ⟨n2, 0, none⟩) 1 1) (.int .i64 0) (.int .i64 0) (.bool false)
              refine bodyPost_ret (results_ctc rfl _ rfl p1 Tryz.underlying49 rfl Tryz.infoWd rfl p2 Tryz.underlying63 rfl Tryz.infoF) rfl ?_
              rw [HRR.out]
              refine ⟨_, ret_vii (by omega), (p4 rb (by omega) (by omega)).trans HR7.out, HT7.out.keep (fun g hg => show w.heap.size ≤ g by have hg2 : N + 1 + 1 + 1 ≤ g := hg; have := HN.out; omega) (fun g hg => p4 g (by have hg2 : N + 1 + 1 + 1 ≤ g := hg; omega) (by have hg2 : N + 1 + 1 + 1 ≤ g := hg; omega)), ?_⟩
              rw [← HN.out]
              exact p3
            · have hqb : (q == [42]) = false := by simpa using hq
              clear hq
              have hRR : R = .ok ⟨b, [Tok.txt (joined false q)]⟩ r := by
                rw [HRO.out]
                dsimp only
                rw [HEN.out, if_neg (by simp), if_pos rfl]
                cases b <;> rfl
              have HRR := hid hRR
              clear hRR HRO
              have HBR := hid (bracedR_fn q hql wr)
              go_wp2_with fail
              (with_reducible refine HCL.out.mono ?_); rintro e W1 ⟨rfl, hw1⟩; subst W1
              go_wp2_with fail
              (with_reducible refine HBR.out.mono ?_); rintro e W2 ⟨rfl, hb2⟩
              have htx := hid (text_fn (joined false q) W2)
              have HB2 := hid (HB.out.below hb2)
              have HR2 := hid (HRD.out.below hb2)
              clear hb2
              go_wp2_with fail
              (with_reducible refine htx.out.mono ?_); rintro e W3 ⟨rfl, hW3⟩
              have HB3 := hid (show WB rb N w b (.slice none 0 0) W3 by rw [hW3]; exact HB2.out.below (below1 _ _))
              have HR3 := hid (show RrAt W3 rb s d all3 by rw [hW3]; exact HR2.out.below (below1 _ _))
              have HT3 := hid (show ToksIs 33 W3 (New (N + 1 + 1 + 1)) (.slice (some ⟨W2.heap.size, 0, none⟩) 1 1) [Tok.txt (joined false q)] by rw [hW3]; exact toks_one W2 _ _ (show N + 1 + 1 + 1 ≤ W2.heap.size from HB2.out.size))
              have hlt3 : N + 1 + 1 < W3.heap.size := HB3.out.size
              clear hW3 htx c0 c1 c2 c3 c4
              obtain ⟨⟨t0, t1⟩, ⟨b0, b1, b2⟩, ⟨l0, l1⟩, hfz⟩ := HB3.out.facts
              have f0 := (hfz 0).1
              have f1 := (hfz 1).1
              have g0 := (hfz 0).2.1
              have g1 := (hfz 1).2.1
              have g2 := (hfz 2).2.1
              have u0 := (hfz 0).2.2
              have u1 := (hfz 1).2.2
              clear hfz
              obtain ⟨n2, hn2⟩ : ∃ n2, n2 = W2.heap.size := ⟨_, rfl⟩
              rw [← hn2]
              rw [← hn2] at HT3
              clear hn2
              go_upto_region 27 with fail
              refine at_world fun W4 hW4 => ?_
              have HB4 := hid (show WB rb N w b (.slice (some ⟨n2, 0, none⟩) 1 1) W4 by rw [hW4]; exact HB3.out.setv _)
              have HR4 := hid (show RrAt W4 rb s d all3 by rw [hW4]; exact WB.rdset HR3.out hrb0 _)
              have HT4 := hid (show ToksIs 33 W4 (New (N + 1 + 1 + 1)) (.slice (some ⟨n2, 0, none⟩) 1 1) [Tok.txt (joined false q)] by rw [hW4]; exact HT3.out.keep (fun _ h => h) (fun g hg => Below.heap_setCell _ _ _ _ (fun e => by have hg2 : N + 1 + 1 + 1 ≤ g := hg; have e2 : g = N + 1 + 1 := e; omega)))
              clear hW4 hlt3 t0 t1 b0 b1 b2 l0 l1 f0 f1 g0 g1 g2 u0 u1
              have he : Calls Tryz.prog 62 #[.pointer (some ⟨rb, 0, none⟩), .int .i64 ((kk : Int) + 1), .bool wi] W4 _ := endsR_fn HR4.out HATR.out hs wi
              rw [HEN.out] at he
              have HE := hid he
              clear he
              obtain ⟨c0, c1, c2, c3, c4⟩ := HR4.out.cells
              obtain ⟨⟨t0, t1⟩, ⟨b0, b1, b2⟩, ⟨l0, l1⟩, hfz⟩ := HB4.out.facts
              have f0 := (hfz 0).1
              have f1 := (hfz 1).1
              have g0 := (hfz 0).2.1
              have g1 := (hfz 1).2.1
              have g2 := (hfz 2).2.1
              have u0 := (hfz 0).2.2
              have u1 := (hfz 1).2.2
              clear hfz
              go_wp2_with fail
              (with_reducible refine HE.out.mono ?_); rintro e W5 ⟨rfl, hb5⟩
              have HB5 := hid (HB4.out.below hb5)
              have HR5 := hid (HR4.out.below hb5)
              have HT5 := hid (HT4.out.fwd hb5)
              clear hb5 c0 c1 c2 c3 c4 t0 t1 b0 b1 b2 l0 l1 f0 f1 g0 g1 g2 u0 u1
              obtain ⟨c0, c1, c2, c3, c4⟩ := HR5.out.cells
              obtain ⟨⟨t0, t1⟩, ⟨b0, b1, b2⟩, ⟨l0, l1⟩, hfz⟩ := HB5.out.facts
              have f0 := (hfz 0).1
              have f1 := (hfz 1).1
              have g0 := (hfz 0).2.1
              have g1 := (hfz 1).2.1
              have g2 := (hfz 2).2.1
              have u0 := (hfz 0).2.2
              have u1 := (hfz 1).2.2
              clear hfz
              go_wp2
              refine U_begin (late := fun i => decide (4 ≤ i)) (S := fun u => u.cell? ⟨N + 1 + 1, 0, none⟩ = some (.bool b) ∧ u.cell? ⟨N + 1 + 1, 1, none⟩ = some (.slice (some ⟨n2, 0, none⟩) 1 1)) (by kernel_rfl) ?_
              have S0 := hid (show (fun u : World => u.cell? ⟨N + 1 + 1, 0, none⟩ = some (.bool b) ∧ u.cell? ⟨N + 1 + 1, 1, none⟩ = some (.slice (some ⟨n2, 0, none⟩) 1 1)) W5.drew from ⟨l0, l1⟩)
              refine U_take2 8 (i := 0) (v := .agg #[.bool b, .slice (some ⟨n2, 0, none⟩) 1 1]) rfl (by kernel_rfl) (by kernel_rfl) (by kernel_rfl) (by kernel_rfl) (by kernel_rfl) (fun _ _ _ h => h) (.inl ⟨rfl, fun u hu => (by obtain ⟨h1, h2⟩ := hu; go_simp)⟩) S0.out ?_
              refine U_take2 8 (i := 1) (v := .int .i64 ((kk : Int) + 1)) rfl (by kernel_rfl) (by kernel_rfl) (by kernel_rfl) (by kernel_rfl) (by kernel_rfl) (fun _ _ _ h => h) (.inl ⟨rfl, fun u hu => (by go_simp)⟩) S0.out ?_
              refine U_step (j := 2) (by kernel_rfl) rfl (fun K hK => ?_)
              go_simp
              (with_reducible refine (hfn _).out.mono ?_); rintro e W7 ⟨rfl, hW7⟩
              have HR7 := hid (show RrAt W7 rb s d all3 by rw [hW7]; exact RrAt.below (w := W5.drew) HR5.out (below1 _ _))
              have HB7 := hid (show WB rb N w b (.slice (some ⟨n2, 0, none⟩) 1 1) W7 by rw [hW7]; exact (HB5.out.drewN 1).below (below1 _ _))
              have HT7 := hid (show ToksIs 33 W7 (New (N + 1 + 1 + 1)) (.slice (some ⟨n2, 0, none⟩) 1 1) ([Tok.txt (joined false q)]) by rw [hW7]; exact ToksIs.fwd (HT5.out.keep (w' := W5.drew) (fun _ h => h) (fun _ _ => rfl)) (below1 _ _))
              clear hW7
              have hq7 := HB7.out.facts.2.2.1
              refine hK.out _ _ (.inr hq7) ?_
              clear hK K hq7 c0 c1 c2 c3 c4 t0 t1 b0 b1 b2 l0 l1 f0 f1 g0 g1 g2 u0 u1
              obtain ⟨⟨t0, t1⟩, ⟨b0, b1, b2⟩, ⟨l0, l1⟩, hfz⟩ := HB7.out.facts
              have f0 := (hfz 0).1
              have f1 := (hfz 1).1
              have g0 := (hfz 0).2.1
              have g1 := (hfz 1).2.1
              have g2 := (hfz 2).2.1
              have u0 := (hfz 0).2.2
              have u1 := (hfz 1).2.2
              clear hfz
              refine U_step (j := 3) (by kernel_rfl) rfl (fun K hK => ?_)
              go_simp
              have hqq : N + 1 + 1 ≠ N := by omega
              refine hK.out _ _ (.inr ?_) ?_
              · have he : ((W7.setCell ⟨N, 0, none⟩ (.bool b)).setCell ⟨N, 1, none⟩ (.slice (some ⟨n2, 0, none⟩) 1 1)).heap[N + 1 + 1]? = W7.heap[N + 1 + 1]? := by
                  rw [Below.heap_setCell _ _ _ _ (fun e => hqq e), Below.heap_setCell _ _ _ _ (fun e => hqq e)]
                have he2 := he.trans HB7.out.loc
                exact ⟨by rw [Lib.cell_of_heap he2]; rfl, by rw [Lib.cell_of_heap he2]; rfl⟩
              clear hK K
              refine U_then (by kernel_rfl) ?_
              refine U_step (j := 4) (by kernel_rfl) rfl (fun K hK => ?_)
              go_simp
              refine hK.out _ _ (.inr trivial) ?_
              clear hK K
              refine U_step (j := 5) (by kernel_rfl) rfl (fun K hK => ?_)
              go_simp
              refine hK.out _ _ (.inr trivial) ?_
              clear hK K
              refine U_done (by kernel_rfl) ?_ _
              go_wp2
              obtain ⟨p1, p2, p3, p4⟩ := HB7.out.put (.bool b) (.slice (some ⟨n2, 0, none⟩) 1 1) (.int .i64 0) (.int .i64 0) (.bool false)
              refine bodyPost_ret (results_ctc rfl _ rfl p1 Tryz.underlying49 rfl Tryz.infoWd rfl p2 Tryz.underlying63 rfl Tryz.infoF) rfl ?_
              rw [HRR.out]
              refine ⟨_, ret_vii (by omega), (p4 rb (by omega) (by omega)).trans HR7.out, HT7.out.keep (fun g hg => show w.heap.size ≤ g by have hg2 : N + 1 + 1 + 1 ≤ g := hg; have := HN.out; omega) (fun g hg => p4 g (by have hg2 : N + 1 + 1 + 1 ≤ g := hg; omega) (by have hg2 : N + 1 + 1 + 1 ≤ g := hg; omega)), ?_⟩
              rw [← HN.out]
              exact p3
          | false =>
            have HEN := hid hen
            clear hen
            by_cases hq : q = [42]
            · have hqb : (q == [42]) = true := by rw [hq]; rfl
              clear hq
              have hner : r ≠ [] := by
                intro e
                have := HEN.out
                rw [e] at this
                cases wi <;> cases this
              have hRR : R = sp true (word wi d r) := by
                rw [HRO.out]
                dsimp only
                rw [hqb, HEN.out, if_pos (by rfl)]
                exact sp_true b _
              have HRR := hid hRR
              have he : Calls Tryz.prog 62 #[.pointer (some ⟨rb, 0, none⟩), .int .i64 ((kk : Int) + 1), .bool wi] wr _ := endsR_fn HRD.out HATR.out hs wi
              rw [HEN.out] at he
              have HE := hid he
              clear he hRR HRO
              go_wp2_with fail
              (with_reducible refine HCL.out.mono ?_); rintro e W1 ⟨rfl, hw1⟩; subst W1
              go_wp2_with fail
              (with_reducible refine HE.out.mono ?_); rintro e W1 ⟨rfl, hb1⟩
              have HB1 := hid (HB.out.below hb1)
              have HR1 := hid (HRD.out.below hb1)
              clear hb1 c0 c1 c2 c3 c4
              obtain ⟨⟨t0, t1⟩, ⟨b0, b1, b2⟩, ⟨l0, l1⟩, hfz⟩ := HB1.out.facts
              have f0 := (hfz 0).1
              have f1 := (hfz 1).1
              have g0 := (hfz 0).2.1
              have g1 := (hfz 1).2.1
              have g2 := (hfz 2).2.1
              have u0 := (hfz 0).2.2
              have u1 := (hfz 1).2.2
              clear hfz
              have hltr : rb < W1.heap.size := by have := HB1.out.size; omega
              have hltN : N < W1.heap.size := by have := HB1.out.size; omega
              have hltN1 : N + 1 < W1.heap.size := by have := HB1.out.size; omega
              have hltN2 : N + 1 + 1 < W1.heap.size := by have := HB1.out.size; omega
              go_wp2
              go_roundg r.length
              case measure => simp; omega
              case rel => exact ⟨r, kk + 1, true, by go_num, HATR.out, hner, WB.rdset HR1.out hrb0 _, HB1.out.setw true, HRR.out, by omega, rfl⟩
            · have hqb : (q == [42]) = false := by simpa using hq
              clear hq
              have hRR : R = .halt (.wrong r.length) := by
                rw [HRO.out]
                dsimp only
                rw [hqb, HEN.out, if_neg (by simp), if_neg (by simp)]
                rfl
              have HRR := hid hRR
              clear hRR HRO
              have HBR := hid (bracedR_fn q hql wr)
              go_wp2_with fail
              (with_reducible refine HCL.out.mono ?_); rintro e W1 ⟨rfl, hw1⟩; subst W1
              go_wp2_with fail
              (with_reducible refine HBR.out.mono ?_); rintro e W2 ⟨rfl, hb2⟩
              have htx := hid (text_fn (joined false q) W2)
              have HB2 := hid (HB.out.below hb2)
              have HR2 := hid (HRD.out.below hb2)
              clear hb2
              go_wp2_with fail
              (with_reducible refine htx.out.mono ?_); rintro e W3 ⟨rfl, hW3⟩
              have HB3 := hid (show WB rb N w b (.slice none 0 0) W3 by rw [hW3]; exact HB2.out.below (below1 _ _))
              have HR3 := hid (show RrAt W3 rb s d all3 by rw [hW3]; exact HR2.out.below (below1 _ _))
              have HT3 := hid (show ToksIs 33 W3 (New (N + 1 + 1 + 1)) (.slice (some ⟨W2.heap.size, 0, none⟩) 1 1) [Tok.txt (joined false q)] by rw [hW3]; exact toks_one W2 _ _ (show N + 1 + 1 + 1 ≤ W2.heap.size from HB2.out.size))
              have hlt3 : N + 1 + 1 < W3.heap.size := HB3.out.size
              clear hW3 htx c0 c1 c2 c3 c4
              obtain ⟨⟨t0, t1⟩, ⟨b0, b1, b2⟩, ⟨l0, l1⟩, hfz⟩ := HB3.out.facts
              have f0 := (hfz 0).1
              have f1 := (hfz 1).1
              have g0 := (hfz 0).2.1
              have g1 := (hfz 1).2.1
              have g2 := (hfz 2).2.1
              have u0 := (hfz 0).2.2
              have u1 := (hfz 1).2.2
              clear hfz
              obtain ⟨n2, hn2⟩ : ∃ n2, n2 = W2.heap.size := ⟨_, rfl⟩
              rw [← hn2]
              rw [← hn2] at HT3
              clear hn2
              go_upto_region 27 with fail
              refine at_world fun W4 hW4 => ?_
              have HB4 := hid (show WB rb N w b (.slice (some ⟨n2, 0, none⟩) 1 1) W4 by rw [hW4]; exact HB3.out.setv _)
              have HR4 := hid (show RrAt W4 rb s d all3 by rw [hW4]; exact WB.rdset HR3.out hrb0 _)
              have HT4 := hid (show ToksIs 33 W4 (New (N + 1 + 1 + 1)) (.slice (some ⟨n2, 0, none⟩) 1 1) [Tok.txt (joined false q)] by rw [hW4]; exact HT3.out.keep (fun _ h => h) (fun g hg => Below.heap_setCell _ _ _ _ (fun e => by have hg2 : N + 1 + 1 + 1 ≤ g := hg; have e2 : g = N + 1 + 1 := e; omega)))
              clear hW4 hlt3 t0 t1 b0 b1 b2 l0 l1 f0 f1 g0 g1 g2 u0 u1
              have he : Calls Tryz.prog 62 #[.pointer (some ⟨rb, 0, none⟩), .int .i64 ((kk : Int) + 1), .bool wi] W4 _ := endsR_fn HR4.out HATR.out hs wi
              rw [HEN.out] at he
              have HE := hid he
              clear he
              obtain ⟨c0, c1, c2, c3, c4⟩ := HR4.out.cells
              obtain ⟨⟨t0, t1⟩, ⟨b0, b1, b2⟩, ⟨l0, l1⟩, hfz⟩ := HB4.out.facts
              have f0 := (hfz 0).1
              have f1 := (hfz 1).1
              have g0 := (hfz 0).2.1
              have g1 := (hfz 1).2.1
              have g2 := (hfz 2).2.1
              have u0 := (hfz 0).2.2
              have u1 := (hfz 1).2.2
              clear hfz
              go_wp2_with fail
              (with_reducible refine HE.out.mono ?_); rintro e W5 ⟨rfl, hb5⟩
              have HB5 := hid (HB4.out.below hb5)
              have HR5 := hid (HR4.out.below hb5)
              have HT5 := hid (HT4.out.fwd hb5)
              clear hb5 c0 c1 c2 c3 c4 t0 t1 b0 b1 b2 l0 l1 f0 f1 g0 g1 g2 u0 u1
              obtain ⟨c0, c1, c2, c3, c4⟩ := HR5.out.cells
              obtain ⟨⟨t0, t1⟩, ⟨b0, b1, b2⟩, ⟨l0, l1⟩, hfz⟩ := HB5.out.facts
              have f0 := (hfz 0).1
              have f1 := (hfz 1).1
              have g0 := (hfz 0).2.1
              have g1 := (hfz 1).2.1
              have g2 := (hfz 2).2.1
              have u0 := (hfz 0).2.2
              have u1 := (hfz 1).2.2
              clear hfz
              go_wp2
              obtain ⟨p1, p2, p3, p4⟩ := HB5.out.put (.bool false) (.slice none 0 0) (.int .i64 2) (.int .i64 ((kk : Int) + 1)) (.bool false)
              refine bodyPost_ret (results_ctc rfl _ rfl p1 Tryz.underlying49 rfl Tryz.infoWd rfl p2 Tryz.underlying63 rfl Tryz.infoF) rfl ?_
              rw [HRR.out]
              unfold WordRP
              dsimp only [faultC]
              rw [show s.length - r.length = kk + 1 by omega]
              have p5 := ((p4 rb (by omega) (by omega)).trans HR5.out)
              refine ⟨rfl, .inl p5, ?_⟩
              rw [← HN.out]
              exact p3
      · by_cases h34 : c = 34
        · subst h34
          have hcall : Calls Tryz.prog 33 #[.pointer (some ⟨rb, 0, none⟩), .int .i64 ((i' : Int) + 1), .int .u8 34, .bool wi] wr _ := IHQ.out t (by omega) wr rb s (i' + 1) wi hs hd HRD.out hat.tail (by intro wi' e; cases e)
          have HC := hid hcall
          clear hcall
          cases hpo : parts .quote all3 d t with
          | halt hh =>
            obtain ⟨E, A, O, hfc, hE0, hE8, hE1⟩ := faultC_shape s hh
            have hRR : R = .halt hh := by rw [hRl, word_quote, hpo]; rfl
            have HRR := hid hRR
            clear hRR hRl
            go_wp2_with fail
            (with_reducible refine HC.out.mono ?_); intro e W3 h3
            rw [hpo] at h3
            obtain ⟨rfl, hrh, hbut⟩ := (show e = .returned (.tuple #[.slice none 0 0, .int .i64 0, .agg (faultC s hh)]) ∧ RrHalt W3 rb s d all3 ∧ But rb wr.heap.size wr W3 from h3)
            have HB3 := hid (HB.out.call hrb0 hbut)
            clear h3 hpo hbut c0 c1 c2 c3 c4
            rw [hfc]
            have hltr : rb < W3.heap.size := by have := HB3.out.size; omega
            have hltN : N < W3.heap.size := by have := HB3.out.size; omega
            have hltN1 : N + 1 < W3.heap.size := by have := HB3.out.size; omega
            have hltN2 : N + 1 + 1 < W3.heap.size := by have := HB3.out.size; omega
            go_upto_region 22 with fail
            refine at_world fun W4 hW4 => ?_
            have HB4 := hid (show WB rb N w b (.slice none 0 0) W4 by rw [hW4]; exact HB3.out.below (below1 _ _))
            have HH4 := hid (show RrHalt W4 rb s d all3 by rw [hW4]; exact hrh.elim (fun h => .inl (h.below (below1 _ _))) (fun h => .inr (h.below (below1 _ _))))
            have hf4 : W4.heap[W3.heap.size]? = some (.cells #[.int .i64 E, .int .i64 A, .bool O] 63 (0, 0)) := by rw [hW4]; exact heap_alloc_new _ _
            obtain ⟨k0, k1, k2⟩ := flt_cells hf4
            clear hW4 hf4 hrh
            obtain ⟨⟨t0, t1⟩, ⟨b0, b1, b2⟩, ⟨l0, l1⟩, hfz⟩ := HB4.out.facts
            have f0 := (hfz 0).1
            have f1 := (hfz 1).1
            have g0 := (hfz 0).2.1
            have g1 := (hfz 1).2.1
            have g2 := (hfz 2).2.1
            have u0 := (hfz 0).2.2
            have u1 := (hfz 1).2.2
            clear hfz
            go_region
            go_wp2
            obtain ⟨p1, p2, p3, p4⟩ := HB4.out.put (.bool false) (.slice none 0 0) (.int .i64 E) (.int .i64 A) (.bool O)
            replace p1 := drew_heap p1
            replace p2 := drew_heap p2
            refine bodyPost_ret (results_ctc rfl _ rfl p1 Tryz.underlying49 rfl Tryz.infoWd rfl p2 Tryz.underlying63 rfl Tryz.infoF) rfl ?_
            rw [HRR.out]
            unfold WordRP
            dsimp only
            rw [hfc]
            refine ⟨rfl, HH4.out.elim (fun h => .inl (drew_heap ((p4 rb (by omega) (by omega)).trans h))) (fun h => .inr (drew_heap ((p4 rb (by omega) (by omega)).trans h))), ?_⟩
            rw [← HN.out]
            exact p3.drew
          | ok ts r0 =>
            cases r0 with
            | nil =>
              have hRR : R = .halt (.lacks (t.length + 1)) := by rw [hRl, word_quote, hpo]; rfl
              have HRR := hid hRR
              have hi2 : s.length - (t.length + 1) = i' := by omega
              clear hRR hRl
              go_wp2_with fail
              (with_reducible refine HC.out.mono ?_); intro e W3 h3
              rw [hpo] at h3
              obtain ⟨v, rfl, hrd3, htk3, hbut⟩ := h3
              obtain ⟨va, vn, vc, rfl⟩ : ∃ a n c, v = .slice a n c := by
                obtain ⟨a, cap, hv, _⟩ := RowIs.cell htk3
                exact ⟨a, _, cap, hv⟩
              have HB3 := hid (HB.out.call hrb0 hbut)
              have HR3 := hid hrd3
              have HT3 := hid (show ToksIs 33 W3 (New (N + 1 + 1 + 1)) (.slice va vn vc) ts from htk3.keep (fun g hg => show N + 1 + 1 + 1 ≤ g by have hg2 : wr.heap.size ≤ g := hg; have := HB.out.size; omega) (fun _ _ => rfl))
              clear hrd3 htk3 hbut c0 c1 c2 c3 c4 hpo
              have hltr : rb < W3.heap.size := by have := HB3.out.size; omega
              have hltN : N < W3.heap.size := by have := HB3.out.size; omega
              have hltN1 : N + 1 < W3.heap.size := by have := HB3.out.size; omega
              have hltN2 : N + 1 + 1 < W3.heap.size := by have := HB3.out.size; omega
              go_upto_region 24 with fail
              refine at_world fun W4 hW4 => ?_
              have HB4 := hid (show WB rb N w b (.slice none 0 0) W4 by rw [hW4]; exact HB3.out.below (below1 _ _))
              have HR4 := hid (show RrAt W4 rb s d all3 by rw [hW4]; exact HR3.out.below (below1 _ _))
              clear hW4
              obtain ⟨c0, c1, c2, c3, c4⟩ := HR4.out.cells
              obtain ⟨⟨t0, t1⟩, ⟨b0, b1, b2⟩, ⟨l0, l1⟩, hfz⟩ := HB4.out.facts
              have f0 := (hfz 0).1
              have f1 := (hfz 1).1
              have g0 := (hfz 0).2.1
              have g1 := (hfz 1).2.1
              have g2 := (hfz 2).2.1
              have u0 := (hfz 0).2.2
              have u1 := (hfz 1).2.2
              clear hfz
              go_wp2
              obtain ⟨p1, p2, p3, p4⟩ := HB4.out.put (.bool false) (.slice none 0 0) (.int .i64 2) (.int .i64 (i' : Int)) (.bool true)
              refine bodyPost_ret (results_ctc rfl _ rfl p1 Tryz.underlying49 rfl Tryz.infoWd rfl p2 Tryz.underlying63 rfl Tryz.infoF) rfl ?_
              rw [HRR.out]
              unfold WordRP
              dsimp only [faultC]
              rw [hi2]
              have p5 := ((p4 rb (by omega) (by omega)).trans HR4.out)
              refine ⟨rfl, .inl p5, ?_⟩
              rw [← HN.out]
              exact p3
            | cons c' r =>
              cases hen : ended wi r with
              | true =>
                have HEN := hid hen
                clear hen
                have hRR : R = .ok ⟨b, filled ts⟩ r := by
                  rw [hRl, word_quote, hpo]
                  dsimp only
                  rw [HEN.out, if_pos rfl]
                  cases b <;> rfl
                have HRR := hid hRR
                have hrs := (parts_ok .quote all3 d t ts _ hpo).1
                have hrs2 := hrs.length_le
                simp only [List.length_cons] at hrs2
                obtain ⟨kk, hkk⟩ : ∃ kk, kk = s.length - (r.length + 1) := ⟨_, rfl⟩
                have hE : endI .quote s.length (c' :: r) = (kk : Int) := by rw [hkk]; rfl
                have hkk3 : kk + (r.length + 1) = s.length := by omega
                have hk0 : decide ((kk : Int) < 0) = false := by rw [decide_eq_false]; omega
                have hatr : At s r (kk + 1) := by
                  have h1 : At s (c' :: r) (s.length - (c' :: r).length) := hat.tail.suf hrs
                  have h2 := h1.tail
                  rw [show s.length - (c' :: r).length + 1 = kk + 1 by simp only [List.length_cons]; omega] at h2
                  exact h2
                have HATR := hid hatr
                clear hRR hRl hrs hatr hkk
                go_wp2_with fail
                (with_reducible refine HC.out.mono ?_); intro e W3 h3
                rw [hpo] at h3
                obtain ⟨v, rfl, hrd3, htk3, hbut⟩ := h3
                obtain ⟨va, vn, vc, rfl⟩ : ∃ a n c, v = .slice a n c := by
                  obtain ⟨a, cap, hv, _⟩ := RowIs.cell htk3
                  exact ⟨a, _, cap, hv⟩
                have HB3 := hid (HB.out.call hrb0 hbut)
                have HR3 := hid hrd3
                have HT3 := hid (show ToksIs 33 W3 (New (N + 1 + 1 + 1)) (.slice va vn vc) ts from htk3.keep (fun g hg => show N + 1 + 1 + 1 ≤ g by have hg2 : wr.heap.size ≤ g := hg; have := HB.out.size; omega) (fun _ _ => rfl))
                clear hrd3 htk3 hbut c0 c1 c2 c3 c4 hpo
                have hltr : rb < W3.heap.size := by have := HB3.out.size; omega
                have hltN : N < W3.heap.size := by have := HB3.out.size; omega
                have hltN1 : N + 1 < W3.heap.size := by have := HB3.out.size; omega
                have hltN2 : N + 1 + 1 < W3.heap.size := by have := HB3.out.size; omega
                rw [hE]
                clear hE
                go_upto_region 25 with fail
                refine at_world fun W4 hW4 => ?_
                have HB4 := hid (show WB rb N w b (.slice none 0 0) W4 by rw [hW4]; exact HB3.out.below (below1 _ _))
                have HR4 := hid (show RrAt W4 rb s d all3 by rw [hW4]; exact HR3.out.below (below1 _ _))
                have HT4 := hid (show ToksIs 33 W4 (New (N + 1 + 1 + 1)) (.slice va vn vc) ts by rw [hW4]; exact HT3.out.fwd (below1 _ _))
                clear hW4
                have HF := hid (filledR_fn (.slice va vn vc) ts (w := W4) (ok := New (N + 1 + 1 + 1)) (fun g hg => show N + 1 + 1 + 1 ≤ g by have := HB4.out.size; omega) HT4.out)
                go_wp2_with fail
                (with_reducible refine HF.out.mono ?_); rintro e W5 ⟨v5, rfl, ht5, hb5⟩
                obtain ⟨fa, fn, fc, rfl⟩ : ∃ a n c, v5 = .slice a n c := by
                  obtain ⟨a, cap, hv, _⟩ := RowIs.cell ht5
                  exact ⟨a, _, cap, hv⟩
                have HB5 := hid (HB4.out.below hb5)
                have HR5 := hid (HR4.out.below hb5)
                have HT5 := hid ht5
                clear ht5 hb5 HF
                obtain ⟨⟨t0, t1⟩, ⟨b0, b1, b2⟩, ⟨l0, l1⟩, hfz⟩ := HB5.out.facts
                have f0 := (hfz 0).1
                have f1 := (hfz 1).1
                have g0 := (hfz 0).2.1
                have g1 := (hfz 1).2.1
                have g2 := (hfz 2).2.1
                have u0 := (hfz 0).2.2
                have u1 := (hfz 1).2.2
                clear hfz
                have hlt5 : N + 1 + 1 < W5.heap.size := HB5.out.size
                go_upto_region 27 with fail
                refine at_world fun W6 hW6 => ?_
                have HB6 := hid (show WB rb N w b (.slice fa fn fc) W6 by rw [hW6]; exact HB5.out.setv _)
                have HR6 := hid (show RrAt W6 rb s d all3 by rw [hW6]; exact WB.rdset HR5.out hrb0 _)
                have HT6 := hid (show ToksIs 33 W6 (New (N + 1 + 1 + 1)) (.slice fa fn fc) (filled ts) by rw [hW6]; exact HT5.out.keep (fun _ h => h) (fun g hg => Below.heap_setCell _ _ _ _ (fun e => by have hg2 : N + 1 + 1 + 1 ≤ g := hg; have e2 : g = N + 1 + 1 := e; omega)))
                clear hW6 hlt5 t0 t1 b0 b1 b2 l0 l1 f0 f1 g0 g1 g2 u0 u1
                have he : Calls Tryz.prog 62 #[.pointer (some ⟨rb, 0, none⟩), .int .i64 ((kk : Int) + 1), .bool wi] W6 _ := endsR_fn HR6.out HATR.out hs wi
                rw [HEN.out] at he
                have HE := hid he
                clear he
                obtain ⟨c0, c1, c2, c3, c4⟩ := HR6.out.cells
                obtain ⟨⟨t0, t1⟩, ⟨b0, b1, b2⟩, ⟨l0, l1⟩, hfz⟩ := HB6.out.facts
                have f0 := (hfz 0).1
                have f1 := (hfz 1).1
                have g0 := (hfz 0).2.1
                have g1 := (hfz 1).2.1
                have g2 := (hfz 2).2.1
                have u0 := (hfz 0).2.2
                have u1 := (hfz 1).2.2
                clear hfz
                go_wp2_with fail
                (with_reducible refine HE.out.mono ?_); rintro e W8 ⟨rfl, hb8⟩
                have HB8 := hid (HB6.out.below hb8)
                have HR8 := hid (HR6.out.below hb8)
                have HT8 := hid (HT6.out.fwd hb8)
                clear hb8 c0 c1 c2 c3 c4 t0 t1 b0 b1 b2 l0 l1 f0 f1 g0 g1 g2 u0 u1
                obtain ⟨c0, c1, c2, c3, c4⟩ := HR8.out.cells
                obtain ⟨⟨t0, t1⟩, ⟨b0, b1, b2⟩, ⟨l0, l1⟩, hfz⟩ := HB8.out.facts
                have f0 := (hfz 0).1
                have f1 := (hfz 1).1
                have g0 := (hfz 0).2.1
                have g1 := (hfz 1).2.1
                have g2 := (hfz 2).2.1
                have u0 := (hfz 0).2.2
                have u1 := (hfz 1).2.2
                clear hfz
                go_wp2
                refine U_begin (late := fun i => decide (4 ≤ i)) (S := fun u => u.cell? ⟨N + 1 + 1, 0, none⟩ = some (.bool b) ∧ u.cell? ⟨N + 1 + 1, 1, none⟩ = some (.slice fa fn fc)) (by kernel_rfl) ?_
                have S0 := hid (show (fun u : World => u.cell? ⟨N + 1 + 1, 0, none⟩ = some (.bool b) ∧ u.cell? ⟨N + 1 + 1, 1, none⟩ = some (.slice fa fn fc)) W8.drew from ⟨l0, l1⟩)
                refine U_take2 8 (i := 0) (v := .agg #[.bool b, .slice fa fn fc]) rfl (by kernel_rfl) (by kernel_rfl) (by kernel_rfl) (by kernel_rfl) (by kernel_rfl) (fun _ _ _ h => h) (.inl ⟨rfl, fun u hu => (by obtain ⟨h1, h2⟩ := hu; go_simp)⟩) S0.out ?_
                refine U_take2 8 (i := 1) (v := .int .i64 ((kk : Int) + 1)) rfl (by kernel_rfl) (by kernel_rfl) (by kernel_rfl) (by kernel_rfl) (by kernel_rfl) (fun _ _ _ h => h) (.inl ⟨rfl, fun u hu => (by go_simp)⟩) S0.out ?_
                refine U_step (j := 2) (by kernel_rfl) rfl (fun K hK => ?_)
                go_simp
                (with_reducible refine (hfn _).out.mono ?_); rintro e W7 ⟨rfl, hW7⟩
                have HR7 := hid (show RrAt W7 rb s d all3 by rw [hW7]; exact RrAt.below (w := W8.drew) HR8.out (below1 _ _))
                have HB7 := hid (show WB rb N w b (.slice fa fn fc) W7 by rw [hW7]; exact (HB8.out.drewN 1).below (below1 _ _))
                have HT7 := hid (show ToksIs 33 W7 (New (N + 1 + 1 + 1)) (.slice fa fn fc) (filled ts) by rw [hW7]; exact ToksIs.fwd (HT8.out.keep (w' := W8.drew) (fun _ h => h) (fun _ _ => rfl)) (below1 _ _))
                clear hW7
                have hq7 := HB7.out.facts.2.2.1
                refine hK.out _ _ (.inr hq7) ?_
                clear hK K hq7 c0 c1 c2 c3 c4 t0 t1 b0 b1 b2 l0 l1 f0 f1 g0 g1 g2 u0 u1
                obtain ⟨⟨t0, t1⟩, ⟨b0, b1, b2⟩, ⟨l0, l1⟩, hfz⟩ := HB7.out.facts
                have f0 := (hfz 0).1
                have f1 := (hfz 1).1
                have g0 := (hfz 0).2.1
                have g1 := (hfz 1).2.1
                have g2 := (hfz 2).2.1
                have u0 := (hfz 0).2.2
                have u1 := (hfz 1).2.2
                clear hfz
                refine U_step (j := 3) (by kernel_rfl) rfl (fun K hK => ?_)
                go_simp
                have hqq : N + 1 + 1 ≠ N := by omega
                refine hK.out _ _ (.inr ?_) ?_
                · have he : ((W7.setCell ⟨N, 0, none⟩ (.bool b)).setCell ⟨N, 1, none⟩ (.slice fa fn fc)).heap[N + 1 + 1]? = W7.heap[N + 1 + 1]? := by
                    rw [Below.heap_setCell _ _ _ _ (fun e => hqq e), Below.heap_setCell _ _ _ _ (fun e => hqq e)]
                  have he2 := he.trans HB7.out.loc
                  exact ⟨by rw [Lib.cell_of_heap he2]; rfl, by rw [Lib.cell_of_heap he2]; rfl⟩
                clear hK K
                refine U_then (by kernel_rfl) ?_
                refine U_step (j := 4) (by kernel_rfl) rfl (fun K hK => ?_)
                go_simp
                refine hK.out _ _ (.inr trivial) ?_
                clear hK K
                refine U_step (j := 5) (by kernel_rfl) rfl (fun K hK => ?_)
                go_simp
                refine hK.out _ _ (.inr trivial) ?_
                clear hK K
                refine U_done (by kernel_rfl) ?_ _
                go_wp2
                obtain ⟨p1, p2, p3, p4⟩ := HB7.out.put (.bool b) (.slice fa fn fc) (.int .i64 0) (.int .i64 0) (.bool false)
                refine bodyPost_ret (results_ctc rfl _ rfl p1 Tryz.underlying49 rfl Tryz.infoWd rfl p2 Tryz.underlying63 rfl Tryz.infoF) rfl ?_
                rw [HRR.out]
                refine ⟨_, ret_vii (by omega), (p4 rb (by omega) (by omega)).trans HR7.out, HT7.out.keep (fun g hg => show w.heap.size ≤ g by have hg2 : N + 1 + 1 + 1 ≤ g := hg; have := HN.out; omega) (fun g hg => p4 g (by have hg2 : N + 1 + 1 + 1 ≤ g := hg; omega) (by have hg2 : N + 1 + 1 + 1 ≤ g := hg; omega)), ?_⟩
                rw [← HN.out]
                exact p3
              | false =>
                have HEN := hid hen
                clear hen
                have hRR : R = .halt (.wrong r.length) := by
                  rw [hRl, word_quote, hpo]
                  dsimp only
                  rw [HEN.out, if_neg (by simp)]
                  rfl
                have HRR := hid hRR
                have hrs := (parts_ok .quote all3 d t ts _ hpo).1
                have hrs2 := hrs.length_le
                simp only [List.length_cons] at hrs2
                obtain ⟨kk, hkk⟩ : ∃ kk, kk = s.length - (r.length + 1) := ⟨_, rfl⟩
                have hE : endI .quote s.length (c' :: r) = (kk : Int) := by rw [hkk]; rfl
                have hkk3 : kk + (r.length + 1) = s.length := by omega
                have hk0 : decide ((kk : Int) < 0) = false := by rw [decide_eq_false]; omega
                have hatr : At s r (kk + 1) := by
                  have h1 : At s (c' :: r) (s.length - (c' :: r).length) := hat.tail.suf hrs
                  have h2 := h1.tail
                  rw [show s.length - (c' :: r).length + 1 = kk + 1 by simp only [List.length_cons]; omega] at h2
                  exact h2
                have HATR := hid hatr
                clear hRR hRl hrs hatr hkk
                go_wp2_with fail
                (with_reducible refine HC.out.mono ?_); intro e W3 h3
                rw [hpo] at h3
                obtain ⟨v, rfl, hrd3, htk3, hbut⟩ := h3
                obtain ⟨va, vn, vc, rfl⟩ : ∃ a n c, v = .slice a n c := by
                  obtain ⟨a, cap, hv, _⟩ := RowIs.cell htk3
                  exact ⟨a, _, cap, hv⟩
                have HB3 := hid (HB.out.call hrb0 hbut)
                have HR3 := hid hrd3
                have HT3 := hid (show ToksIs 33 W3 (New (N + 1 + 1 + 1)) (.slice va vn vc) ts from htk3.keep (fun g hg => show N + 1 + 1 + 1 ≤ g by have hg2 : wr.heap.size ≤ g := hg; have := HB.out.size; omega) (fun _ _ => rfl))
                clear hrd3 htk3 hbut c0 c1 c2 c3 c4 hpo
                have hltr : rb < W3.heap.size := by have := HB3.out.size; omega
                have hltN : N < W3.heap.size := by have := HB3.out.size; omega
                have hltN1 : N + 1 < W3.heap.size := by have := HB3.out.size; omega
                have hltN2 : N + 1 + 1 < W3.heap.size := by have := HB3.out.size; omega
                rw [hE]
                clear hE
                go_upto_region 25 with fail
                refine at_world fun W4 hW4 => ?_
                have HB4 := hid (show WB rb N w b (.slice none 0 0) W4 by rw [hW4]; exact HB3.out.below (below1 _ _))
                have HR4 := hid (show RrAt W4 rb s d all3 by rw [hW4]; exact HR3.out.below (below1 _ _))
                have HT4 := hid (show ToksIs 33 W4 (New (N + 1 + 1 + 1)) (.slice va vn vc) ts by rw [hW4]; exact HT3.out.fwd (below1 _ _))
                clear hW4
                have HF := hid (filledR_fn (.slice va vn vc) ts (w := W4) (ok := New (N + 1 + 1 + 1)) (fun g hg => show N + 1 + 1 + 1 ≤ g by have := HB4.out.size; omega) HT4.out)
                go_wp2_with fail
                (with_reducible refine HF.out.mono ?_); rintro e W5 ⟨v5, rfl, ht5, hb5⟩
                obtain ⟨fa, fn, fc, rfl⟩ : ∃ a n c, v5 = .slice a n c := by
                  obtain ⟨a, cap, hv, _⟩ := RowIs.cell ht5
                  exact ⟨a, _, cap, hv⟩
                have HB5 := hid (HB4.out.below hb5)
                have HR5 := hid (HR4.out.below hb5)
                have HT5 := hid ht5
                clear ht5 hb5 HF
                obtain ⟨⟨t0, t1⟩, ⟨b0, b1, b2⟩, ⟨l0, l1⟩, hfz⟩ := HB5.out.facts
                have f0 := (hfz 0).1
                have f1 := (hfz 1).1
                have g0 := (hfz 0).2.1
                have g1 := (hfz 1).2.1
                have g2 := (hfz 2).2.1
                have u0 := (hfz 0).2.2
                have u1 := (hfz 1).2.2
                clear hfz
                have hlt5 : N + 1 + 1 < W5.heap.size := HB5.out.size
                go_upto_region 27 with fail
                refine at_world fun W6 hW6 => ?_
                have HB6 := hid (show WB rb N w b (.slice fa fn fc) W6 by rw [hW6]; exact HB5.out.setv _)
                have HR6 := hid (show RrAt W6 rb s d all3 by rw [hW6]; exact WB.rdset HR5.out hrb0 _)
                have HT6 := hid (show ToksIs 33 W6 (New (N + 1 + 1 + 1)) (.slice fa fn fc) (filled ts) by rw [hW6]; exact HT5.out.keep (fun _ h => h) (fun g hg => Below.heap_setCell _ _ _ _ (fun e => by have hg2 : N + 1 + 1 + 1 ≤ g := hg; have e2 : g = N + 1 + 1 := e; omega)))
                clear hW6 hlt5 t0 t1 b0 b1 b2 l0 l1 f0 f1 g0 g1 g2 u0 u1
                have he : Calls Tryz.prog 62 #[.pointer (some ⟨rb, 0, none⟩), .int .i64 ((kk : Int) + 1), .bool wi] W6 _ := endsR_fn HR6.out HATR.out hs wi
                rw [HEN.out] at he
                have HE := hid he
                clear he
                obtain ⟨c0, c1, c2, c3, c4⟩ := HR6.out.cells
                obtain ⟨⟨t0, t1⟩, ⟨b0, b1, b2⟩, ⟨l0, l1⟩, hfz⟩ := HB6.out.facts
                have f0 := (hfz 0).1
                have f1 := (hfz 1).1
                have g0 := (hfz 0).2.1
                have g1 := (hfz 1).2.1
                have g2 := (hfz 2).2.1
                have u0 := (hfz 0).2.2
                have u1 := (hfz 1).2.2
                clear hfz
                go_wp2_with fail
                (with_reducible refine HE.out.mono ?_); rintro e W8 ⟨rfl, hb8⟩
                have HB8 := hid (HB6.out.below hb8)
                have HR8 := hid (HR6.out.below hb8)
                have HT8 := hid (HT6.out.fwd hb8)
                clear hb8 c0 c1 c2 c3 c4 t0 t1 b0 b1 b2 l0 l1 f0 f1 g0 g1 g2 u0 u1
                obtain ⟨c0, c1, c2, c3, c4⟩ := HR8.out.cells
                obtain ⟨⟨t0, t1⟩, ⟨b0, b1, b2⟩, ⟨l0, l1⟩, hfz⟩ := HB8.out.facts
                have f0 := (hfz 0).1
                have f1 := (hfz 1).1
                have g0 := (hfz 0).2.1
                have g1 := (hfz 1).2.1
                have g2 := (hfz 2).2.1
                have u0 := (hfz 0).2.2
                have u1 := (hfz 1).2.2
                clear hfz
                go_wp2
                obtain ⟨p1, p2, p3, p4⟩ := HB8.out.put (.bool false) (.slice none 0 0) (.int .i64 2) (.int .i64 ((kk : Int) + 1)) (.bool false)
                refine bodyPost_ret (results_ctc rfl _ rfl p1 Tryz.underlying49 rfl Tryz.infoWd rfl p2 Tryz.underlying63 rfl Tryz.infoF) rfl ?_
                rw [HRR.out]
                unfold WordRP
                dsimp only [faultC]
                rw [show s.length - r.length = kk + 1 by omega]
                have p5 := ((p4 rb (by omega) (by omega)).trans HR8.out)
                refine ⟨rfl, .inl p5, ?_⟩
                rw [← HN.out]
                exact p3
        · have hcall : Calls Tryz.prog 33 #[.pointer (some ⟨rb, 0, none⟩), .int .i64 (i' : Nat), .int .u8 0, .bool wi] wr _ := IHB.out (c :: t) (by simp only [List.length_cons]; omega) wr rb s i' wi hs hd HRD.out hat (by intro wi' e; cases e; rfl)
          have HC := hid hcall
          have n123 := byte_ne 123 h123 rfl
          have n34 := byte_ne 34 h34 rfl
          clear hcall
          cases hpo : parts (.bare wi) all3 d (c :: t) with
          | halt hh =>
            obtain ⟨E, A, O, hfc, hE0, hE8, hE1⟩ := faultC_shape s hh
            have hRR : R = .halt hh := by rw [hRl, word_bare h123 h34, hpo]; rfl
            have HRR := hid hRR
            clear hRR hRl
            go_wp2_with fail
            (with_reducible refine HC.out.mono ?_); intro e W3 h3
            rw [hpo] at h3
            obtain ⟨rfl, hrh, hbut⟩ := (show e = .returned (.tuple #[.slice none 0 0, .int .i64 0, .agg (faultC s hh)]) ∧ RrHalt W3 rb s d all3 ∧ But rb wr.heap.size wr W3 from h3)
            have HB3 := hid (HB.out.call hrb0 hbut)
            clear h3 hpo hbut c0 c1 c2 c3 c4
            rw [hfc]
            have hltr : rb < W3.heap.size := by have := HB3.out.size; omega
            have hltN : N < W3.heap.size := by have := HB3.out.size; omega
            have hltN1 : N + 1 < W3.heap.size := by have := HB3.out.size; omega
            have hltN2 : N + 1 + 1 < W3.heap.size := by have := HB3.out.size; omega
            go_upto_region 6 with fail
            refine at_world fun W4 hW4 => ?_
            have HB4 := hid (show WB rb N w b (.slice none 0 0) W4 by rw [hW4]; exact HB3.out.below (below1 _ _))
            have HH4 := hid (show RrHalt W4 rb s d all3 by rw [hW4]; exact hrh.elim (fun h => .inl (h.below (below1 _ _))) (fun h => .inr (h.below (below1 _ _))))
            have hf4 : W4.heap[W3.heap.size]? = some (.cells #[.int .i64 E, .int .i64 A, .bool O] 63 (0, 0)) := by rw [hW4]; exact heap_alloc_new _ _
            obtain ⟨k0, k1, k2⟩ := flt_cells hf4
            clear hW4 hf4 hrh
            obtain ⟨⟨t0, t1⟩, ⟨b0, b1, b2⟩, ⟨l0, l1⟩, hfz⟩ := HB4.out.facts
            have f0 := (hfz 0).1
            have f1 := (hfz 1).1
            have g0 := (hfz 0).2.1
            have g1 := (hfz 1).2.1
            have g2 := (hfz 2).2.1
            have u0 := (hfz 0).2.2
            have u1 := (hfz 1).2.2
            clear hfz
            go_region
            go_wp2
            obtain ⟨p1, p2, p3, p4⟩ := HB4.out.put (.bool false) (.slice none 0 0) (.int .i64 E) (.int .i64 A) (.bool O)
            replace p1 := drew_heap p1
            replace p2 := drew_heap p2
            refine bodyPost_ret (results_ctc rfl _ rfl p1 Tryz.underlying49 rfl Tryz.infoWd rfl p2 Tryz.underlying63 rfl Tryz.infoF) rfl ?_
            rw [HRR.out]
            unfold WordRP
            dsimp only
            rw [hfc]
            refine ⟨rfl, HH4.out.elim (fun h => .inl (drew_heap ((p4 rb (by omega) (by omega)).trans h))) (fun h => .inr (drew_heap ((p4 rb (by omega) (by omega)).trans h))), ?_⟩
            rw [← HN.out]
            exact p3.drew
          | ok ts r =>
            have hRR : R = .ok ⟨b, filled ts⟩ r := by
              rw [hRl, word_bare h123 h34, hpo]
              cases b <;> rfl
            have HRR := hid hRR
            have hrs2 := (parts_ok (.bare wi) all3 d (c :: t) ts _ hpo).1.length_le
            simp only [List.length_cons] at hrs2
            obtain ⟨kk, hkk⟩ : ∃ kk, kk = s.length - r.length := ⟨_, rfl⟩
            have hE : endI (.bare wi) s.length r = (kk : Int) := by rw [hkk]; rfl
            have HKK := hid hkk
            clear hRR hRl hkk
            go_wp2_with fail
            (with_reducible refine HC.out.mono ?_); intro e W3 h3
            rw [hpo] at h3
            obtain ⟨v, rfl, hrd3, htk3, hbut⟩ := h3
            obtain ⟨va, vn, vc, rfl⟩ : ∃ a n c, v = .slice a n c := by
              obtain ⟨a, cap, hv, _⟩ := RowIs.cell htk3
              exact ⟨a, _, cap, hv⟩
            have HB3 := hid (HB.out.call hrb0 hbut)
            have HR3 := hid hrd3
            have HT3 := hid (show ToksIs 33 W3 (New (N + 1 + 1 + 1)) (.slice va vn vc) ts from htk3.keep (fun g hg => show N + 1 + 1 + 1 ≤ g by have hg2 : wr.heap.size ≤ g := hg; have := HB.out.size; omega) (fun _ _ => rfl))
            clear hrd3 htk3 hbut c0 c1 c2 c3 c4 hpo
            have hltr : rb < W3.heap.size := by have := HB3.out.size; omega
            have hltN : N < W3.heap.size := by have := HB3.out.size; omega
            have hltN1 : N + 1 < W3.heap.size := by have := HB3.out.size; omega
            have hltN2 : N + 1 + 1 < W3.heap.size := by have := HB3.out.size; omega
            rw [hE]
            clear hE
            go_upto_region 7 with fail
            refine at_world fun W4 hW4 => ?_
            have HB4 := hid (show WB rb N w b (.slice none 0 0) W4 by rw [hW4]; exact HB3.out.below (below1 _ _))
            have HR4 := hid (show RrAt W4 rb s d all3 by rw [hW4]; exact HR3.out.below (below1 _ _))
            have HT4 := hid (show ToksIs 33 W4 (New (N + 1 + 1 + 1)) (.slice va vn vc) ts by rw [hW4]; exact HT3.out.fwd (below1 _ _))
            clear hW4
            have HF := hid (filledR_fn (.slice va vn vc) ts (w := W4) (ok := New (N + 1 + 1 + 1)) (fun g hg => show N + 1 + 1 + 1 ≤ g by have := HB4.out.size; omega) HT4.out)
            go_wp2_with fail
            (with_reducible refine HF.out.mono ?_); rintro e W5 ⟨v5, rfl, ht5, hb5⟩
            obtain ⟨fa, fn, fc, rfl⟩ : ∃ a n c, v5 = .slice a n c := by
              obtain ⟨a, cap, hv, _⟩ := RowIs.cell ht5
              exact ⟨a, _, cap, hv⟩
            have HB5 := hid (HB4.out.below hb5)
            have HR5 := hid (HR4.out.below hb5)
            have HT5 := hid ht5
            clear ht5 hb5 HF
            obtain ⟨⟨t0, t1⟩, ⟨b0, b1, b2⟩, ⟨l0, l1⟩, hfz⟩ := HB5.out.facts
            have f0 := (hfz 0).1
            have f1 := (hfz 1).1
            have g0 := (hfz 0).2.1
            have g1 := (hfz 1).2.1
            have g2 := (hfz 2).2.1
            have u0 := (hfz 0).2.2
            have u1 := (hfz 1).2.2
            clear hfz
            have hlt5 : N + 1 + 1 < W5.heap.size := HB5.out.size
            go_upto_region 8 with fail
            refine at_world fun W6 hW6 => ?_
            have HB6 := hid (show WB rb N w b (.slice fa fn fc) W6 by rw [hW6]; exact HB5.out.setv _)
            have HR6 := hid (show RrAt W6 rb s d all3 by rw [hW6]; exact WB.rdset HR5.out hrb0 _)
            have HT6 := hid (show ToksIs 33 W6 (New (N + 1 + 1 + 1)) (.slice fa fn fc) (filled ts) by rw [hW6]; exact HT5.out.keep (fun _ h => h) (fun g hg => Below.heap_setCell _ _ _ _ (fun e => by have hg2 : N + 1 + 1 + 1 ≤ g := hg; have e2 : g = N + 1 + 1 := e; omega)))
            clear hW6 hlt5 t0 t1 b0 b1 b2 l0 l1 f0 f1 g0 g1 g2 u0 u1
            obtain ⟨c0, c1, c2, c3, c4⟩ := HR6.out.cells
            obtain ⟨⟨t0, t1⟩, ⟨b0, b1, b2⟩, ⟨l0, l1⟩, hfz⟩ := HB6.out.facts
            have f0 := (hfz 0).1
            have f1 := (hfz 1).1
            have g0 := (hfz 0).2.1
            have g1 := (hfz 1).2.1
            have g2 := (hfz 2).2.1
            have u0 := (hfz 0).2.2
            have u1 := (hfz 1).2.2
            clear hfz
            go_wp2
            refine U_begin (late := fun i => decide (4 ≤ i)) (S := fun u => u.cell? ⟨N + 1 + 1, 0, none⟩ = some (.bool b) ∧ u.cell? ⟨N + 1 + 1, 1, none⟩ = some (.slice fa fn fc)) (by kernel_rfl) ?_
            have S0 := hid (show (fun u : World => u.cell? ⟨N + 1 + 1, 0, none⟩ = some (.bool b) ∧ u.cell? ⟨N + 1 + 1, 1, none⟩ = some (.slice fa fn fc)) W6.drew from ⟨l0, l1⟩)
            refine U_take2 8 (i := 0) (v := .agg #[.bool b, .slice fa fn fc]) rfl (by kernel_rfl) (by kernel_rfl) (by kernel_rfl) (by kernel_rfl) (by kernel_rfl) (fun _ _ _ h => h) (.inl ⟨rfl, fun u hu => (by obtain ⟨h1, h2⟩ := hu; go_simp)⟩) S0.out ?_
            refine U_take2 8 (i := 1) (v := .int .i64 (kk : Nat)) rfl (by kernel_rfl) (by kernel_rfl) (by kernel_rfl) (by kernel_rfl) (by kernel_rfl) (fun _ _ _ h => h) (.inl ⟨rfl, fun u hu => (by go_simp)⟩) S0.out ?_
            refine U_step (j := 2) (by kernel_rfl) rfl (fun K hK => ?_)
            go_simp
            (with_reducible refine (hfn _).out.mono ?_); rintro e W7 ⟨rfl, hW7⟩
            have HR7 := hid (show RrAt W7 rb s d all3 by rw [hW7]; exact RrAt.below (w := W6.drew) HR6.out (below1 _ _))
            have HB7 := hid (show WB rb N w b (.slice fa fn fc) W7 by rw [hW7]; exact (HB6.out.drewN 1).below (below1 _ _))
            have HT7 := hid (show ToksIs 33 W7 (New (N + 1 + 1 + 1)) (.slice fa fn fc) (filled ts) by rw [hW7]; exact ToksIs.fwd (HT6.out.keep (w' := W6.drew) (fun _ h => h) (fun _ _ => rfl)) (below1 _ _))
            clear hW7
            have hq7 := HB7.out.facts.2.2.1
            refine hK.out _ _ (.inr hq7) ?_
            clear hK K hq7 c0 c1 c2 c3 c4 t0 t1 b0 b1 b2 l0 l1 f0 f1 g0 g1 g2 u0 u1
            obtain ⟨⟨t0, t1⟩, ⟨b0, b1, b2⟩, ⟨l0, l1⟩, hfz⟩ := HB7.out.facts
            have f0 := (hfz 0).1
            have f1 := (hfz 1).1
            have g0 := (hfz 0).2.1
            have g1 := (hfz 1).2.1
            have g2 := (hfz 2).2.1
            have u0 := (hfz 0).2.2
            have u1 := (hfz 1).2.2
            clear hfz
            refine U_step (j := 3) (by kernel_rfl) rfl (fun K hK => ?_)
            go_simp
            have hqq : N + 1 + 1 ≠ N := by omega
            refine hK.out _ _ (.inr ?_) ?_
            · have he : ((W7.setCell ⟨N, 0, none⟩ (.bool b)).setCell ⟨N, 1, none⟩ (.slice fa fn fc)).heap[N + 1 + 1]? = W7.heap[N + 1 + 1]? := by
                rw [Below.heap_setCell _ _ _ _ (fun e => hqq e), Below.heap_setCell _ _ _ _ (fun e => hqq e)]
              have he2 := he.trans HB7.out.loc
              exact ⟨by rw [Lib.cell_of_heap he2]; rfl, by rw [Lib.cell_of_heap he2]; rfl⟩
            clear hK K
            refine U_then (by kernel_rfl) ?_
            refine U_step (j := 4) (by kernel_rfl) rfl (fun K hK => ?_)
            go_simp
            refine hK.out _ _ (.inr trivial) ?_
            clear hK K
            refine U_step (j := 5) (by kernel_rfl) rfl (fun K hK => ?_)
            go_simp
            refine hK.out _ _ (.inr trivial) ?_
            clear hK K
            refine U_done (by kernel_rfl) ?_ _
            go_wp2
            obtain ⟨p1, p2, p3, p4⟩ := HB7.out.put (.bool b) (.slice fa fn fc) (.int .i64 0) (.int .i64 0) (.bool false)
            refine bodyPost_ret (results_ctc rfl _ rfl p1 Tryz.underlying49 rfl Tryz.infoWd rfl p2 Tryz.underlying63 rfl Tryz.infoF) rfl ?_
            rw [HRR.out]
            refine ⟨_, ret_vii (by rw [HKK.out]), (p4 rb (by omega) (by omega)).trans HR7.out, HT7.out.keep (fun g hg => show w.heap.size ≤ g by have hg2 : N + 1 + 1 + 1 ≤ g := hg; have := HN.out; omega) (fun g hg => p4 g (by have hg2 : N + 1 + 1 + 1 ≤ g := hg; omega) (by have hg2 : N + 1 + 1 + 1 ≤ g := hg; omega)), ?_⟩
            rw [← HN.out]
            exact p3
end Go.Proofs.YtkgpmkkodpjdfaaGreatDoor.Pz
