/-
  Part KH of the proofs of this seat: contracts of functions and plain facts, merged from 1 texts.
-/
import Derived.Test.YtabhkoklcjhlpaaGreatDoorK0
import Derived.Test.YtabhkoklcjhlpaaGreatDoorK1
import Derived.Test.YtabhkoklcjhlpaaGreatDoorK2
import Derived.Test.YtabhkoklcjhlpaaGreatDoorK3
import Derived.Test.YtabhkoklcjhlpaaGreatDoorK4
import Derived.Test.YtabhkoklcjhlpaaGreatDoorK5
import Derived.Test.YtabhkoklcjhlpaaGreatDoorK6
import Derived.Test.YtabhkoklcjhlpaaGreatDoorK7
import Derived.Test.YtabhkoklcjhlpaaGreatDoorK8
import Derived.Test.YtabhkoklcjhlpaaGreatDoorK9
import Derived.Test.YtabhkoklcjhlpaaGreatDoorKA
import Derived.Test.YtabhkoklcjhlpaaGreatDoorKB
import Derived.Test.YtabhkoklcjhlpaaGreatDoorKC
import Derived.Test.YtabhkoklcjhlpaaGreatDoorKD
import Derived.Test.YtabhkoklcjhlpaaGreatDoorKE
import Derived.Test.YtabhkoklcjhlpaaGreatDoorKF
import Derived.Test.YtabhkoklcjhlpaaGreatDoorKG
/-
  The law's play walked.
-/
namespace Go.Proofs.YtabhkoklcjhlpaaGreatDoor.Pz
open Go.RowKit
/-- a row of texts that lies below B -/
def StrsB (B : Nat) (w : World) (v : Value) (l : List Str) : Prop := ∃ a cap, v = .slice a l.length cap ∧ l.length ≤ cap ∧ ∀ i (h : i < l.length), ∃ p : Addr, a = some p ∧ p.block < B ∧ w.cell? (p.add i) = some (.string ⟨l[i].toArray⟩)
theorem StrsB.strs {B : Nat} {w : World} {v : Value} {l : List Str} (h : StrsB B w v l) (hB : B ≤ w.heap.size) : StrsAt w v l := by
  obtain ⟨a, cap, h1, h2, h3⟩ := h
  refine ⟨a, cap, h1, h2, fun i hi => ?_⟩
  obtain ⟨p, q1, q2, q3⟩ := h3 i hi
  exact ⟨p, q1, by omega, q3⟩
theorem StrsB.low {B : Nat} {w w' : World} {v : Value} {l : List Str} (h : StrsB B w v l) (hb : Below B w w') : StrsB B w' v l := by
  obtain ⟨a, cap, h1, h2, h3⟩ := h
  refine ⟨a, cap, h1, h2, fun i hi => ?_⟩
  obtain ⟨p, q1, q2, q3⟩ := h3 i hi
  exact ⟨p, q1, q2, (hb.cell (p := p.add i) (by rw [add_block]; exact q2)).trans q3⟩
theorem ML.lowB {B : Nat} {w w' : World} (h : ML w) (hB : 0 < B) (hb : Below B w w') : ML w' := by
  obtain ⟨m, hm⟩ := h
  exact ⟨m, (hb.cell (p := ⟨0, 0, none⟩) hB).trans hm⟩
theorem ML.lt {w : World} (h : ML w) : 0 < w.heap.size := by
  obtain ⟨m, hm⟩ := h
  unfold World.cell? at hm
  rcases Nat.lt_or_ge 0 w.heap.size with h | h
  · exact h
  · rw [Array.getElem?_eq_none h] at hm; cases hm
/-- an act -/
structure ActD where
  kind : Int
  h : Int
  n : Int
  s : Str
  t : Str
  l : List Str
def ActD.cells (a : ActD) (lv : Value) : Array Value := #[.int .i64 a.kind, .int .i64 a.h, .int .i64 a.n, .string ⟨a.s.toArray⟩, .string ⟨a.t.toArray⟩, lv]
def ActD.ok (a : ActD) : Prop := a.s.length ≤ 60000 ∧ a.t.length ≤ 60000 ∧ joinOk a.l
/-- what an act makes of a store -/
def stepA (a : ActD) (A : ShA) : ShA :=
  if a.kind = 0 then A ++ [(a.s, .text)] else if a.kind = 1 then A ++ [(quotedL a.l, .list a.l)] else if a.kind = 2 then (copyA A a.h).2 else if a.kind = 3 then (askA A a.h a.n).2 else if a.kind = 4 then (elemA A a.h a.n).2
  else if a.kind = 5 then (appendA A a.h a.s).2 else if a.kind = 6 then (putA A a.h a.n a.s).2 else if a.kind = 7 then (enterKeyA A a.h a.s a.t).2 else if a.kind = 8 then forgetA A else A
/-- behind 'play': both tell the same again -/
def PlayQ (B st st2 : Nat) (Q : Held) (w : World) (A A' : ShA) (w' : World) : Prop := J2 B st st2 Q w' A' (AR A') ∧ A'.length ≤ A.length + 1 ∧ Below B w w' ∧ KeepX w w'
section
variable {B st st2 : Nat} {Q : Held} {w : World} {A : ShA}
theorem askA_len (A : ShA) (k n : Int) : (askA A k n).2.length = A.length := by
  unfold askA
  split <;> simp
theorem elemA_len (A : ShA) (k n : Int) : (elemA A k n).2.length = A.length := by
  unfold elemA
  split <;> simp
theorem appendA_len (A : ShA) (k : Int) (s : Str) : (appendA A k s).2.length = A.length := by
  unfold appendA
  split
  · rfl
  · split <;> simp
theorem enterA_len (A : ShA) (k : Int) (p : Str × Fc) (l : List Str) (g : List Str → Fc) : (enterA A k p l g).2.length = A.length := by
  unfold enterA
  split <;> simp
theorem putA_len (A : ShA) (k j : Int) (s : Str) : (putA A k j s).2.length = A.length := by
  unfold putA
  split
  · rfl
  · split
    · simp
    · split
      · exact enterA_len _ _ _ _ _
      · simp
theorem enterKeyA_len (A : ShA) (k : Int) (key s : Str) : (enterKeyA A k key s).2.length = A.length := by
  unfold enterKeyA
  split
  · rfl
  · split
    · simp
    · exact enterA_len _ _ _ _ _
theorem copyA_len (A : ShA) (k : Int) : (copyA A k).2.length ≤ A.length + 1 := by
  unfold copyA
  split <;> simp
set_option maxRecDepth 100000 in
set_option maxHeartbeats 4000000 in
theorem play0_fn (hj : J2 B st st2 Q w A (AR A)) (hml : ML w) (_ : 0 < B) (hA : A.length ≤ 1000) (a : ActD) (lv : Value) (hlv : StrsB B w lv a.l) (hok : a.ok) (hk : a.kind = 0) :
    Calls Tryz.prog 38 #[.pointer (some ⟨st, 0, none⟩), .pointer (some ⟨st2, 0, none⟩), .agg (a.cells lv)] w fun e w' => e = .returned (.bool true) ∧ PlayQ B st st2 Q w A (stepA a A) w' := by
  obtain ⟨kind, h, n, s, t, l⟩ := a
  obtain ⟨hs1, hs2, hok⟩ := hok
  dsimp only at hs1 hs2 hok hlv hk
  unfold ActD.cells
  dsimp only
  obtain ⟨la, lc, rfl, hlc, hlcell⟩ := hlv
  have HLV := hid (show StrsB B w (.slice la l.length lc) l from ⟨la, lc, rfl, hlc, hlcell⟩)
  obtain ⟨ln, hln⟩ : ∃ ln, ln = l.length := ⟨_, rfl⟩
  rw [← hln] at HLV ⊢
  have hmx : Tryz.prog.follows .mixedOrders = true := by kernel_rfl
  obtain ⟨w1, hw1⟩ : ∃ w1, w1 = w.alloc (.cells #[.int .i64 kind, .int .i64 h, .int .i64 n, .string ⟨s.toArray⟩, .string ⟨t.toArray⟩, .slice la ln lc] 25) := ⟨_, rfl⟩
  have hb1 : Below w.heap.size w w1 := by rw [hw1]; exact belowA _ _
  have hg1 : w1.heap[w.heap.size]? = some (.cells #[.int .i64 kind, .int .i64 h, .int .i64 n, .string ⟨s.toArray⟩, .string ⟨t.toArray⟩, .slice la ln lc] 25 (0, 0)) := by rw [hw1]; exact heap_alloc_new _ _
  have hBw := hj.low
  have hbB : Below B w w1 := hb1.mono hBw
  have J1 := hid (hj.on hb1)
  have M1 := hid (hml.below hb1)
  have L1 := hid (HLV.out.low hbB)
  have X1 := hid (KeepX.of hb1)
  have B1 := hid hbB
  have G1 := hid hg1
  have hfit := hj.fit
  have HFIT := hid hfit
  have c0 : w1.cell? ⟨w.heap.size, 0, none⟩ = some (.int .i64 kind) := by rw [Lib.cell_of_heap hg1]; rfl
  have fields : ∀ u : World, u.heap[w.heap.size]? = some (.cells #[.int .i64 kind, .int .i64 h, .int .i64 n, .string ⟨s.toArray⟩, .string ⟨t.toArray⟩, .slice la ln lc] 25 (0, 0)) →
      u.cell? ⟨w.heap.size, 1, none⟩ = some (.int .i64 h) ∧ u.cell? ⟨w.heap.size, 2, none⟩ = some (.int .i64 n) ∧ u.cell? ⟨w.heap.size, 3, none⟩ = some (.string ⟨s.toArray⟩) ∧ u.cell? ⟨w.heap.size, 4, none⟩ = some (.string ⟨t.toArray⟩) ∧ u.cell? ⟨w.heap.size, 5, none⟩ = some (.slice la ln lc) := by
    intro u hu
    refine ⟨?_, ?_, ?_, ?_, ?_⟩ <;> (rw [Lib.cell_of_heap hu]; rfl)
  have keep : ∀ u u' : World, KeepX u u' → u.heap[w.heap.size]? = some (.cells #[.int .i64 kind, .int .i64 h, .int .i64 n, .string ⟨s.toArray⟩, .string ⟨t.toArray⟩, .slice la ln lc] 25 (0, 0)) → u'.heap[w.heap.size]? = some (.cells #[.int .i64 kind, .int .i64 h, .int .i64 n, .string ⟨s.toArray⟩, .string ⟨t.toArray⟩, .slice la ln lc] 25 (0, 0)) := fun u u' hk hu => hk _ _ _ _ hu (by decide)
  have KP := hid keep
  have FD := hid fields
  have HOK := hid hok
  obtain ⟨d1, d2, d3, d4, d5⟩ := fields w1 hg1
  have HW1 := hid hw1
  clear keep fields hw1 hb1 hg1 hbB hj hlcell hok hln
  subst hk
  obtain ⟨A', hA'⟩ : ∃ A', A' = A ++ [(s, .text)] := ⟨_, rfl⟩
  rw [show stepA ⟨0, h, n, s, t, l⟩ A = A' by rw [hA']; rfl]
  obtain ⟨r, hr⟩ : ∃ r : Value, r = .int .i64 ((A.length : Nat) : Int) := ⟨_, rfl⟩
  have HLEN := hid (show A'.length ≤ A.length + 1 by rw [hA']; exact (by simp))
  have HPR := hid (show ∀ (u : World) (X : ShR), J2 B st st2 Q u A X → ML u → Calls Tryz.prog 11 #[.pointer (some ⟨st, 0, none⟩), .string ⟨s.toArray⟩] u fun e u' => e = .returned r ∧ J2 B st st2 Q u' A' X ∧ Below B u u' ∧ KeepX u u' from fun u X hu HM => by
    rw [hA', hr]
    exact hu.prog (fun v S h1 h3 => by have h9 := addA_fn h1 s (by omega) (by rw [shape_lenS h3]; omega); rw [h3] at h9; exact h9))
  have HRF := hid (show ∀ (u : World) (X : ShA), J2 B st st2 Q u X (AR A) → Calls Tryz.prog 64 #[.pointer (some ⟨st2, 0, none⟩), .string ⟨s.toArray⟩] u fun e u' => e = .returned r ∧ J2 B st st2 Q u' X (AR A') ∧ Below B u u' ∧ KeepX u u' from fun u X hu => by
    rw [hA', hr, AR_app]
    exact hu.ref HFIT.out.short (fun v R h1 hl h3 => by have h9 := addR_fn h1 s (by rw [shapeR_lenR h3, AR_len]; omega); rw [h3, AR_len] at h9; exact h9))
  have hri : ∃ z, r = .int .i64 z := ⟨_, hr⟩
  obtain ⟨z, rfl⟩ := hri
  clear hA' hr hfit
  go_enter Tryz.func38, Tryz.ntmps38
  go_wp2
  rw [← HW1.out]
  refine U_begin (late := fun _ => false) (S := fun u : World => u.cell? ⟨w.heap.size, 3, none⟩ = some (.string ⟨s.toArray⟩)) hmx ?_
  have D := FD.out w1 G1.out
  have S0 : Hid ((fun u : World => u.cell? ⟨w.heap.size, 3, none⟩ = some (.string ⟨s.toArray⟩)) w1.drew) := hid D.2.2.1
  refine U_take2 8 (i := 0) (v := .pointer (some ⟨st, 0, none⟩)) rfl (by kernel_rfl) (by kernel_rfl) (by kernel_rfl) (by kernel_rfl) (by kernel_rfl) (fun _ _ _ h => h) (.inl ⟨rfl, fun u hu => (by go_simp)⟩) S0.out ?_
  refine U_take2 8 (i := 1) (v := .pointer (some ⟨w.heap.size, 3, none⟩)) rfl (by kernel_rfl) (by kernel_rfl) (by kernel_rfl) (by kernel_rfl) (by kernel_rfl) (fun _ _ _ h => h) (.inl ⟨rfl, fun u hu => (by go_simp)⟩) S0.out ?_
  refine U_take2 8 (i := 2) (v := .string ⟨s.toArray⟩) rfl (by kernel_rfl) (by kernel_rfl) (by kernel_rfl) (by kernel_rfl) (by kernel_rfl) (fun _ _ _ h => h) (.inl ⟨rfl, fun u hu => (by have h1 := hu; go_simp)⟩) S0.out ?_
  refine U_take2 8 (i := 4) (v := .pointer (some ⟨st2, 0, none⟩)) rfl (by kernel_rfl) (by kernel_rfl) (by kernel_rfl) (by kernel_rfl) (by kernel_rfl) (fun _ _ _ h => h) (.inl ⟨rfl, fun u hu => (by go_simp)⟩) S0.out ?_
  refine U_take2 8 (i := 5) (v := .pointer (some ⟨w.heap.size, 3, none⟩)) rfl (by kernel_rfl) (by kernel_rfl) (by kernel_rfl) (by kernel_rfl) (by kernel_rfl) (fun _ _ _ h => h) (.inl ⟨rfl, fun u hu => (by go_simp)⟩) S0.out ?_
  refine U_take2 8 (i := 6) (v := .string ⟨s.toArray⟩) rfl (by kernel_rfl) (by kernel_rfl) (by kernel_rfl) (by kernel_rfl) (by kernel_rfl) (fun _ _ _ h => h) (.inl ⟨rfl, fun u hu => (by have h1 := hu; go_simp)⟩) S0.out ?_
  refine U_step (j := 3) (by kernel_rfl) rfl (fun K hK => ?_)
  go_simp
  (with_reducible refine (HPR.out w1.drew _ (J1.out.on (Below.refl _ _).drew) (M1.out.below (Below.refl _ _).drew)).mono ?_); rintro e w2 ⟨rfl, hj2, hb2', hx2⟩
  have hb2 : Below B w1 w2 := ((Below.refl _ _).drew.mono (by have := J1.out.low; exact this)).trans hb2'
  have hx2' : KeepX w1 w2 := (KeepX.of (Below.refl _ _).drew).trans hx2
  have g2 := KP.out w1 w2 hx2' G1.out
  have D := FD.out w2 g2
  have S2 : Hid ((fun u : World => u.cell? ⟨w.heap.size, 3, none⟩ = some (.string ⟨s.toArray⟩)) w2) := hid D.2.2.1
  refine hK.out _ _ (.inr S2.out) ?_
  clear hK K
  refine U_step (j := 7) (by kernel_rfl) rfl (fun K hK => ?_)
  go_simp
  (with_reducible refine (HRF.out w2 _ hj2).mono ?_); rintro e w3 ⟨rfl, hj3, hb3, hx3⟩
  have g3 := KP.out w2 w3 hx3 g2
  have D := FD.out w3 g3
  have S3 : Hid ((fun u : World => u.cell? ⟨w.heap.size, 3, none⟩ = some (.string ⟨s.toArray⟩)) w3) := hid D.2.2.1
  refine hK.out _ _ (.inr S3.out) ?_
  clear hK K
  refine U_step (j := 8) (by kernel_rfl) rfl (fun K hK => ?_)
  go_simp
  refine hK.out _ _ (.inr S3.out) ?_
  clear hK K
  refine U_step (j := 9) (by kernel_rfl) rfl (fun K hK => ?_)
  go_simp
  refine hK.out _ _ (.inr S3.out) ?_
  clear hK K
  refine U_done (by kernel_rfl) ?_ _
  have QQ := hid (show PlayQ B st st2 Q w A A' w3 from ⟨hj3, HLEN.out, B1.out.trans (hb2.trans hb3), X1.out.trans (hx2'.trans hx3)⟩)
  clear S0 S2 S3 hj2 hb2 hb2' hx2 hx2' g2 D hj3 hb3 hx3 g3 c0 d1 d2 d3 d4 d5
  go_wp2
  go_ret
  exact ⟨rfl, QQ.out⟩
set_option maxRecDepth 100000 in
set_option maxHeartbeats 4000000 in
theorem play3_fn (hj : J2 B st st2 Q w A (AR A)) (hml : ML w) (_ : 0 < B) (_ : A.length ≤ 1000) (a : ActD) (lv : Value) (hlv : StrsB B w lv a.l) (hok : a.ok) (hk : a.kind = 3) :
    Calls Tryz.prog 38 #[.pointer (some ⟨st, 0, none⟩), .pointer (some ⟨st2, 0, none⟩), .agg (a.cells lv)] w fun e w' => e = .returned (.bool true) ∧ PlayQ B st st2 Q w A (stepA a A) w' := by
  obtain ⟨kind, h, n, s, t, l⟩ := a
  obtain ⟨hs1, hs2, hok⟩ := hok
  dsimp only at hs1 hs2 hok hlv hk
  unfold ActD.cells
  dsimp only
  obtain ⟨la, lc, rfl, hlc, hlcell⟩ := hlv
  have HLV := hid (show StrsB B w (.slice la l.length lc) l from ⟨la, lc, rfl, hlc, hlcell⟩)
  obtain ⟨ln, hln⟩ : ∃ ln, ln = l.length := ⟨_, rfl⟩
  rw [← hln] at HLV ⊢
  have hmx : Tryz.prog.follows .mixedOrders = true := by kernel_rfl
  obtain ⟨w1, hw1⟩ : ∃ w1, w1 = w.alloc (.cells #[.int .i64 kind, .int .i64 h, .int .i64 n, .string ⟨s.toArray⟩, .string ⟨t.toArray⟩, .slice la ln lc] 25) := ⟨_, rfl⟩
  have hb1 : Below w.heap.size w w1 := by rw [hw1]; exact belowA _ _
  have hg1 : w1.heap[w.heap.size]? = some (.cells #[.int .i64 kind, .int .i64 h, .int .i64 n, .string ⟨s.toArray⟩, .string ⟨t.toArray⟩, .slice la ln lc] 25 (0, 0)) := by rw [hw1]; exact heap_alloc_new _ _
  have hBw := hj.low
  have hbB : Below B w w1 := hb1.mono hBw
  have J1 := hid (hj.on hb1)
  have M1 := hid (hml.below hb1)
  have L1 := hid (HLV.out.low hbB)
  have X1 := hid (KeepX.of hb1)
  have B1 := hid hbB
  have G1 := hid hg1
  have hfit := hj.fit
  have HFIT := hid hfit
  have c0 : w1.cell? ⟨w.heap.size, 0, none⟩ = some (.int .i64 kind) := by rw [Lib.cell_of_heap hg1]; rfl
  have fields : ∀ u : World, u.heap[w.heap.size]? = some (.cells #[.int .i64 kind, .int .i64 h, .int .i64 n, .string ⟨s.toArray⟩, .string ⟨t.toArray⟩, .slice la ln lc] 25 (0, 0)) →
      u.cell? ⟨w.heap.size, 1, none⟩ = some (.int .i64 h) ∧ u.cell? ⟨w.heap.size, 2, none⟩ = some (.int .i64 n) ∧ u.cell? ⟨w.heap.size, 3, none⟩ = some (.string ⟨s.toArray⟩) ∧ u.cell? ⟨w.heap.size, 4, none⟩ = some (.string ⟨t.toArray⟩) ∧ u.cell? ⟨w.heap.size, 5, none⟩ = some (.slice la ln lc) := by
    intro u hu
    refine ⟨?_, ?_, ?_, ?_, ?_⟩ <;> (rw [Lib.cell_of_heap hu]; rfl)
  have keep : ∀ u u' : World, KeepX u u' → u.heap[w.heap.size]? = some (.cells #[.int .i64 kind, .int .i64 h, .int .i64 n, .string ⟨s.toArray⟩, .string ⟨t.toArray⟩, .slice la ln lc] 25 (0, 0)) → u'.heap[w.heap.size]? = some (.cells #[.int .i64 kind, .int .i64 h, .int .i64 n, .string ⟨s.toArray⟩, .string ⟨t.toArray⟩, .slice la ln lc] 25 (0, 0)) := fun u u' hk hu => hk _ _ _ _ hu (by decide)
  have KP := hid keep
  have FD := hid fields
  have HOK := hid hok
  obtain ⟨d1, d2, d3, d4, d5⟩ := fields w1 hg1
  have HW1 := hid hw1
  clear keep fields hw1 hb1 hg1 hbB hj hlcell hok hln
  subst hk
  obtain ⟨A', hA'⟩ : ∃ A', A' = (askA A h n).2 := ⟨_, rfl⟩
  rw [show stepA ⟨3, h, n, s, t, l⟩ A = A' by rw [hA']; rfl]
  obtain ⟨r, hr⟩ : ∃ r : Value, r = .int .i64 (askA A h n).1 := ⟨_, rfl⟩
  have HLEN := hid (show A'.length ≤ A.length + 1 by rw [hA']; exact (by rw [askA_len]; omega))
  have HPR := hid (show ∀ (u : World) (X : ShR), J2 B st st2 Q u A X → ML u → Calls Tryz.prog 12 #[.pointer (some ⟨st, 0, none⟩), .int .i64 h, .int .i64 n] u fun e u' => e = .returned r ∧ J2 B st st2 Q u' A' X ∧ Below B u u' ∧ KeepX u u' from fun u X hu HM => by
    rw [hA', hr]
    exact hu.prog (fun v S h1 h3 => by have h9 := askA_fn h1 HM h n; rw [h3] at h9; exact h9))
  have HRF := hid (show ∀ (u : World) (X : ShA), J2 B st st2 Q u X (AR A) → Calls Tryz.prog 68 #[.pointer (some ⟨st2, 0, none⟩), .int .i64 h, .int .i64 n] u fun e u' => e = .returned r ∧ J2 B st st2 Q u' X (AR A') ∧ Below B u u' ∧ KeepX u u' from fun u X hu => by
    rw [hA', hr]
    exact hu.ref HFIT.out.short (fun v R h1 hl h3 => by have h9 := askR_fn h1 hl h n; rw [h3, ← (ask_rel HFIT.out h n).1, ← (ask_rel HFIT.out h n).2] at h9; exact h9))
  have hri : ∃ z, r = .int .i64 z := ⟨_, hr⟩
  obtain ⟨z, rfl⟩ := hri
  clear hA' hr hfit
  go_enter Tryz.func38, Tryz.ntmps38
  go_wp2
  rw [← HW1.out]
  refine U_begin (late := fun _ => false) (S := fun u : World => u.cell? ⟨w.heap.size, 1, none⟩ = some (.int .i64 h) ∧ u.cell? ⟨w.heap.size, 2, none⟩ = some (.int .i64 n)) hmx ?_
  have D := FD.out w1 G1.out
  have S0 : Hid ((fun u : World => u.cell? ⟨w.heap.size, 1, none⟩ = some (.int .i64 h) ∧ u.cell? ⟨w.heap.size, 2, none⟩ = some (.int .i64 n)) w1.drew) := hid ⟨D.1, D.2.1⟩
  refine U_take2 8 (i := 0) (v := .pointer (some ⟨st, 0, none⟩)) rfl (by kernel_rfl) (by kernel_rfl) (by kernel_rfl) (by kernel_rfl) (by kernel_rfl) (fun _ _ _ h => h) (.inl ⟨rfl, fun u hu => (by go_simp)⟩) S0.out ?_
  refine U_take2 8 (i := 1) (v := .pointer (some ⟨w.heap.size, 1, none⟩)) rfl (by kernel_rfl) (by kernel_rfl) (by kernel_rfl) (by kernel_rfl) (by kernel_rfl) (fun _ _ _ h => h) (.inl ⟨rfl, fun u hu => (by go_simp)⟩) S0.out ?_
  refine U_take2 8 (i := 2) (v := .int .i64 h) rfl (by kernel_rfl) (by kernel_rfl) (by kernel_rfl) (by kernel_rfl) (by kernel_rfl) (fun _ _ _ h => h) (.inl ⟨rfl, fun u hu => (by obtain ⟨h1, h2⟩ := hu; go_simp)⟩) S0.out ?_
  refine U_take2 8 (i := 3) (v := .pointer (some ⟨w.heap.size, 2, none⟩)) rfl (by kernel_rfl) (by kernel_rfl) (by kernel_rfl) (by kernel_rfl) (by kernel_rfl) (fun _ _ _ h => h) (.inl ⟨rfl, fun u hu => (by go_simp)⟩) S0.out ?_
  refine U_take2 8 (i := 4) (v := .int .i64 n) rfl (by kernel_rfl) (by kernel_rfl) (by kernel_rfl) (by kernel_rfl) (by kernel_rfl) (fun _ _ _ h => h) (.inl ⟨rfl, fun u hu => (by obtain ⟨h1, h2⟩ := hu; go_simp)⟩) S0.out ?_
  refine U_take2 8 (i := 6) (v := .pointer (some ⟨st2, 0, none⟩)) rfl (by kernel_rfl) (by kernel_rfl) (by kernel_rfl) (by kernel_rfl) (by kernel_rfl) (fun _ _ _ h => h) (.inl ⟨rfl, fun u hu => (by go_simp)⟩) S0.out ?_
  refine U_take2 8 (i := 7) (v := .pointer (some ⟨w.heap.size, 1, none⟩)) rfl (by kernel_rfl) (by kernel_rfl) (by kernel_rfl) (by kernel_rfl) (by kernel_rfl) (fun _ _ _ h => h) (.inl ⟨rfl, fun u hu => (by go_simp)⟩) S0.out ?_
  refine U_take2 8 (i := 8) (v := .int .i64 h) rfl (by kernel_rfl) (by kernel_rfl) (by kernel_rfl) (by kernel_rfl) (by kernel_rfl) (fun _ _ _ h => h) (.inl ⟨rfl, fun u hu => (by obtain ⟨h1, h2⟩ := hu; go_simp)⟩) S0.out ?_
  refine U_take2 8 (i := 9) (v := .pointer (some ⟨w.heap.size, 2, none⟩)) rfl (by kernel_rfl) (by kernel_rfl) (by kernel_rfl) (by kernel_rfl) (by kernel_rfl) (fun _ _ _ h => h) (.inl ⟨rfl, fun u hu => (by go_simp)⟩) S0.out ?_
  refine U_take2 8 (i := 10) (v := .int .i64 n) rfl (by kernel_rfl) (by kernel_rfl) (by kernel_rfl) (by kernel_rfl) (by kernel_rfl) (fun _ _ _ h => h) (.inl ⟨rfl, fun u hu => (by obtain ⟨h1, h2⟩ := hu; go_simp)⟩) S0.out ?_
  refine U_step (j := 5) (by kernel_rfl) rfl (fun K hK => ?_)
  go_simp
  (with_reducible refine (HPR.out w1.drew _ (J1.out.on (Below.refl _ _).drew) (M1.out.below (Below.refl _ _).drew)).mono ?_); rintro e w2 ⟨rfl, hj2, hb2', hx2⟩
  have hb2 : Below B w1 w2 := ((Below.refl _ _).drew.mono (by have := J1.out.low; exact this)).trans hb2'
  have hx2' : KeepX w1 w2 := (KeepX.of (Below.refl _ _).drew).trans hx2
  have g2 := KP.out w1 w2 hx2' G1.out
  have D := FD.out w2 g2
  have S2 : Hid ((fun u : World => u.cell? ⟨w.heap.size, 1, none⟩ = some (.int .i64 h) ∧ u.cell? ⟨w.heap.size, 2, none⟩ = some (.int .i64 n)) w2) := hid ⟨D.1, D.2.1⟩
  refine hK.out _ _ (.inr S2.out) ?_
  clear hK K
  refine U_step (j := 11) (by kernel_rfl) rfl (fun K hK => ?_)
  go_simp
  (with_reducible refine (HRF.out w2 _ hj2).mono ?_); rintro e w3 ⟨rfl, hj3, hb3, hx3⟩
  have g3 := KP.out w2 w3 hx3 g2
  have D := FD.out w3 g3
  have S3 : Hid ((fun u : World => u.cell? ⟨w.heap.size, 1, none⟩ = some (.int .i64 h) ∧ u.cell? ⟨w.heap.size, 2, none⟩ = some (.int .i64 n)) w3) := hid ⟨D.1, D.2.1⟩
  refine hK.out _ _ (.inr S3.out) ?_
  clear hK K
  refine U_step (j := 12) (by kernel_rfl) rfl (fun K hK => ?_)
  go_simp
  refine hK.out _ _ (.inr S3.out) ?_
  clear hK K
  refine U_step (j := 13) (by kernel_rfl) rfl (fun K hK => ?_)
  go_simp
  refine hK.out _ _ (.inr S3.out) ?_
  clear hK K
  refine U_done (by kernel_rfl) ?_ _
  have QQ := hid (show PlayQ B st st2 Q w A A' w3 from ⟨hj3, HLEN.out, B1.out.trans (hb2.trans hb3), X1.out.trans (hx2'.trans hx3)⟩)
  clear S0 S2 S3 hj2 hb2 hb2' hx2 hx2' g2 D hj3 hb3 hx3 g3 c0 d1 d2 d3 d4 d5
  go_wp2
  go_ret
  exact ⟨rfl, QQ.out⟩
set_option maxRecDepth 100000 in
set_option maxHeartbeats 4000000 in
theorem play5_fn (hj : J2 B st st2 Q w A (AR A)) (hml : ML w) (_ : 0 < B) (hA : A.length ≤ 1000) (a : ActD) (lv : Value) (hlv : StrsB B w lv a.l) (hok : a.ok) (hk : a.kind = 5) :
    Calls Tryz.prog 38 #[.pointer (some ⟨st, 0, none⟩), .pointer (some ⟨st2, 0, none⟩), .agg (a.cells lv)] w fun e w' => e = .returned (.bool true) ∧ PlayQ B st st2 Q w A (stepA a A) w' := by
  obtain ⟨kind, h, n, s, t, l⟩ := a
  obtain ⟨hs1, hs2, hok⟩ := hok
  dsimp only at hs1 hs2 hok hlv hk
  unfold ActD.cells
  dsimp only
  obtain ⟨la, lc, rfl, hlc, hlcell⟩ := hlv
  have HLV := hid (show StrsB B w (.slice la l.length lc) l from ⟨la, lc, rfl, hlc, hlcell⟩)
  obtain ⟨ln, hln⟩ : ∃ ln, ln = l.length := ⟨_, rfl⟩
  rw [← hln] at HLV ⊢
  have hmx : Tryz.prog.follows .mixedOrders = true := by kernel_rfl
  obtain ⟨w1, hw1⟩ : ∃ w1, w1 = w.alloc (.cells #[.int .i64 kind, .int .i64 h, .int .i64 n, .string ⟨s.toArray⟩, .string ⟨t.toArray⟩, .slice la ln lc] 25) := ⟨_, rfl⟩
  have hb1 : Below w.heap.size w w1 := by rw [hw1]; exact belowA _ _
  have hg1 : w1.heap[w.heap.size]? = some (.cells #[.int .i64 kind, .int .i64 h, .int .i64 n, .string ⟨s.toArray⟩, .string ⟨t.toArray⟩, .slice la ln lc] 25 (0, 0)) := by rw [hw1]; exact heap_alloc_new _ _
  have hBw := hj.low
  have hbB : Below B w w1 := hb1.mono hBw
  have J1 := hid (hj.on hb1)
  have M1 := hid (hml.below hb1)
  have L1 := hid (HLV.out.low hbB)
  have X1 := hid (KeepX.of hb1)
  have B1 := hid hbB
  have G1 := hid hg1
  have hfit := hj.fit
  have HFIT := hid hfit
  have c0 : w1.cell? ⟨w.heap.size, 0, none⟩ = some (.int .i64 kind) := by rw [Lib.cell_of_heap hg1]; rfl
  have fields : ∀ u : World, u.heap[w.heap.size]? = some (.cells #[.int .i64 kind, .int .i64 h, .int .i64 n, .string ⟨s.toArray⟩, .string ⟨t.toArray⟩, .slice la ln lc] 25 (0, 0)) →
      u.cell? ⟨w.heap.size, 1, none⟩ = some (.int .i64 h) ∧ u.cell? ⟨w.heap.size, 2, none⟩ = some (.int .i64 n) ∧ u.cell? ⟨w.heap.size, 3, none⟩ = some (.string ⟨s.toArray⟩) ∧ u.cell? ⟨w.heap.size, 4, none⟩ = some (.string ⟨t.toArray⟩) ∧ u.cell? ⟨w.heap.size, 5, none⟩ = some (.slice la ln lc) := by
    intro u hu
    refine ⟨?_, ?_, ?_, ?_, ?_⟩ <;> (rw [Lib.cell_of_heap hu]; rfl)
  have keep : ∀ u u' : World, KeepX u u' → u.heap[w.heap.size]? = some (.cells #[.int .i64 kind, .int .i64 h, .int .i64 n, .string ⟨s.toArray⟩, .string ⟨t.toArray⟩, .slice la ln lc] 25 (0, 0)) → u'.heap[w.heap.size]? = some (.cells #[.int .i64 kind, .int .i64 h, .int .i64 n, .string ⟨s.toArray⟩, .string ⟨t.toArray⟩, .slice la ln lc] 25 (0, 0)) := fun u u' hk hu => hk _ _ _ _ hu (by decide)
  have KP := hid keep
  have FD := hid fields
  have HOK := hid hok
  obtain ⟨d1, d2, d3, d4, d5⟩ := fields w1 hg1
  have HW1 := hid hw1
  clear keep fields hw1 hb1 hg1 hbB hj hlcell hok hln
  subst hk
  obtain ⟨A', hA'⟩ : ∃ A', A' = (appendA A h s).2 := ⟨_, rfl⟩
  rw [show stepA ⟨5, h, n, s, t, l⟩ A = A' by rw [hA']; rfl]
  obtain ⟨r, hr⟩ : ∃ r : Value, r = .int .i64 (appendA A h s).1 := ⟨_, rfl⟩
  have HLEN := hid (show A'.length ≤ A.length + 1 by rw [hA']; exact (by rw [appendA_len]; omega))
  have HPR := hid (show ∀ (u : World) (X : ShR), J2 B st st2 Q u A X → ML u → Calls Tryz.prog 70 #[.pointer (some ⟨st, 0, none⟩), .int .i64 h, .string ⟨s.toArray⟩] u fun e u' => e = .returned r ∧ J2 B st st2 Q u' A' X ∧ Below B u u' ∧ KeepX u u' from fun u X hu HM => by
    rw [hA', hr]
    exact hu.prog (fun v S h1 h3 => by have h9 := appendA_fn h1 HM h s (by rw [shape_lenS h3]; omega) (by omega); rw [h3] at h9; exact h9))
  have HRF := hid (show ∀ (u : World) (X : ShA), J2 B st st2 Q u X (AR A) → Calls Tryz.prog 71 #[.pointer (some ⟨st2, 0, none⟩), .int .i64 h, .string ⟨s.toArray⟩] u fun e u' => e = .returned r ∧ J2 B st st2 Q u' X (AR A') ∧ Below B u u' ∧ KeepX u u' from fun u X hu => by
    rw [hA', hr]
    exact hu.ref HFIT.out.short (fun v R h1 hl h3 => by have h9 := appendR_fn h1 hl h s (by omega); rw [h3, ← (append_rel A h s).1, ← (append_rel A h s).2] at h9; exact h9))
  have hri : ∃ z, r = .int .i64 z := ⟨_, hr⟩
  obtain ⟨z, rfl⟩ := hri
  clear hA' hr hfit
  go_enter Tryz.func38, Tryz.ntmps38
  go_wp2
  rw [← HW1.out]
  refine U_begin (late := fun _ => false) (S := fun u : World => u.cell? ⟨w.heap.size, 1, none⟩ = some (.int .i64 h) ∧ u.cell? ⟨w.heap.size, 3, none⟩ = some (.string ⟨s.toArray⟩)) hmx ?_
  have D := FD.out w1 G1.out
  have S0 : Hid ((fun u : World => u.cell? ⟨w.heap.size, 1, none⟩ = some (.int .i64 h) ∧ u.cell? ⟨w.heap.size, 3, none⟩ = some (.string ⟨s.toArray⟩)) w1.drew) := hid ⟨D.1, D.2.2.1⟩
  refine U_take2 8 (i := 0) (v := .pointer (some ⟨st, 0, none⟩)) rfl (by kernel_rfl) (by kernel_rfl) (by kernel_rfl) (by kernel_rfl) (by kernel_rfl) (fun _ _ _ h => h) (.inl ⟨rfl, fun u hu => (by go_simp)⟩) S0.out ?_
  refine U_take2 8 (i := 1) (v := .pointer (some ⟨w.heap.size, 1, none⟩)) rfl (by kernel_rfl) (by kernel_rfl) (by kernel_rfl) (by kernel_rfl) (by kernel_rfl) (fun _ _ _ h => h) (.inl ⟨rfl, fun u hu => (by go_simp)⟩) S0.out ?_
  refine U_take2 8 (i := 2) (v := .int .i64 h) rfl (by kernel_rfl) (by kernel_rfl) (by kernel_rfl) (by kernel_rfl) (by kernel_rfl) (fun _ _ _ h => h) (.inl ⟨rfl, fun u hu => (by obtain ⟨h1, h2⟩ := hu; go_simp)⟩) S0.out ?_
  refine U_take2 8 (i := 3) (v := .pointer (some ⟨w.heap.size, 3, none⟩)) rfl (by kernel_rfl) (by kernel_rfl) (by kernel_rfl) (by kernel_rfl) (by kernel_rfl) (fun _ _ _ h => h) (.inl ⟨rfl, fun u hu => (by go_simp)⟩) S0.out ?_
  refine U_take2 8 (i := 4) (v := .string ⟨s.toArray⟩) rfl (by kernel_rfl) (by kernel_rfl) (by kernel_rfl) (by kernel_rfl) (by kernel_rfl) (fun _ _ _ h => h) (.inl ⟨rfl, fun u hu => (by obtain ⟨h1, h2⟩ := hu; go_simp)⟩) S0.out ?_
  refine U_take2 8 (i := 6) (v := .pointer (some ⟨st2, 0, none⟩)) rfl (by kernel_rfl) (by kernel_rfl) (by kernel_rfl) (by kernel_rfl) (by kernel_rfl) (fun _ _ _ h => h) (.inl ⟨rfl, fun u hu => (by go_simp)⟩) S0.out ?_
  refine U_take2 8 (i := 7) (v := .pointer (some ⟨w.heap.size, 1, none⟩)) rfl (by kernel_rfl) (by kernel_rfl) (by kernel_rfl) (by kernel_rfl) (by kernel_rfl) (fun _ _ _ h => h) (.inl ⟨rfl, fun u hu => (by go_simp)⟩) S0.out ?_
  refine U_take2 8 (i := 8) (v := .int .i64 h) rfl (by kernel_rfl) (by kernel_rfl) (by kernel_rfl) (by kernel_rfl) (by kernel_rfl) (fun _ _ _ h => h) (.inl ⟨rfl, fun u hu => (by obtain ⟨h1, h2⟩ := hu; go_simp)⟩) S0.out ?_
  refine U_take2 8 (i := 9) (v := .pointer (some ⟨w.heap.size, 3, none⟩)) rfl (by kernel_rfl) (by kernel_rfl) (by kernel_rfl) (by kernel_rfl) (by kernel_rfl) (fun _ _ _ h => h) (.inl ⟨rfl, fun u hu => (by go_simp)⟩) S0.out ?_
  refine U_take2 8 (i := 10) (v := .string ⟨s.toArray⟩) rfl (by kernel_rfl) (by kernel_rfl) (by kernel_rfl) (by kernel_rfl) (by kernel_rfl) (fun _ _ _ h => h) (.inl ⟨rfl, fun u hu => (by obtain ⟨h1, h2⟩ := hu; go_simp)⟩) S0.out ?_
  refine U_step (j := 5) (by kernel_rfl) rfl (fun K hK => ?_)
  go_simp
  (with_reducible refine (HPR.out w1.drew _ (J1.out.on (Below.refl _ _).drew) (M1.out.below (Below.refl _ _).drew)).mono ?_); rintro e w2 ⟨rfl, hj2, hb2', hx2⟩
  have hb2 : Below B w1 w2 := ((Below.refl _ _).drew.mono (by have := J1.out.low; exact this)).trans hb2'
  have hx2' : KeepX w1 w2 := (KeepX.of (Below.refl _ _).drew).trans hx2
  have g2 := KP.out w1 w2 hx2' G1.out
  have D := FD.out w2 g2
  have S2 : Hid ((fun u : World => u.cell? ⟨w.heap.size, 1, none⟩ = some (.int .i64 h) ∧ u.cell? ⟨w.heap.size, 3, none⟩ = some (.string ⟨s.toArray⟩)) w2) := hid ⟨D.1, D.2.2.1⟩
  refine hK.out _ _ (.inr S2.out) ?_
  clear hK K
  refine U_step (j := 11) (by kernel_rfl) rfl (fun K hK => ?_)
  go_simp
  (with_reducible refine (HRF.out w2 _ hj2).mono ?_); rintro e w3 ⟨rfl, hj3, hb3, hx3⟩
  have g3 := KP.out w2 w3 hx3 g2
  have D := FD.out w3 g3
  have S3 : Hid ((fun u : World => u.cell? ⟨w.heap.size, 1, none⟩ = some (.int .i64 h) ∧ u.cell? ⟨w.heap.size, 3, none⟩ = some (.string ⟨s.toArray⟩)) w3) := hid ⟨D.1, D.2.2.1⟩
  refine hK.out _ _ (.inr S3.out) ?_
  clear hK K
  refine U_step (j := 12) (by kernel_rfl) rfl (fun K hK => ?_)
  go_simp
  refine hK.out _ _ (.inr S3.out) ?_
  clear hK K
  refine U_step (j := 13) (by kernel_rfl) rfl (fun K hK => ?_)
  go_simp
  refine hK.out _ _ (.inr S3.out) ?_
  clear hK K
  refine U_done (by kernel_rfl) ?_ _
  have QQ := hid (show PlayQ B st st2 Q w A A' w3 from ⟨hj3, HLEN.out, B1.out.trans (hb2.trans hb3), X1.out.trans (hx2'.trans hx3)⟩)
  clear S0 S2 S3 hj2 hb2 hb2' hx2 hx2' g2 D hj3 hb3 hx3 g3 c0 d1 d2 d3 d4 d5
  go_wp2
  go_ret
  exact ⟨rfl, QQ.out⟩
set_option maxRecDepth 100000 in
set_option maxHeartbeats 4000000 in
theorem play6_fn (hj : J2 B st st2 Q w A (AR A)) (hml : ML w) (_ : 0 < B) (hA : A.length ≤ 1000) (a : ActD) (lv : Value) (hlv : StrsB B w lv a.l) (hok : a.ok) (hk : a.kind = 6) :
    Calls Tryz.prog 38 #[.pointer (some ⟨st, 0, none⟩), .pointer (some ⟨st2, 0, none⟩), .agg (a.cells lv)] w fun e w' => e = .returned (.bool true) ∧ PlayQ B st st2 Q w A (stepA a A) w' := by
  obtain ⟨kind, h, n, s, t, l⟩ := a
  obtain ⟨hs1, hs2, hok⟩ := hok
  dsimp only at hs1 hs2 hok hlv hk
  unfold ActD.cells
  dsimp only
  obtain ⟨la, lc, rfl, hlc, hlcell⟩ := hlv
  have HLV := hid (show StrsB B w (.slice la l.length lc) l from ⟨la, lc, rfl, hlc, hlcell⟩)
  obtain ⟨ln, hln⟩ : ∃ ln, ln = l.length := ⟨_, rfl⟩
  rw [← hln] at HLV ⊢
  have hmx : Tryz.prog.follows .mixedOrders = true := by kernel_rfl
  obtain ⟨w1, hw1⟩ : ∃ w1, w1 = w.alloc (.cells #[.int .i64 kind, .int .i64 h, .int .i64 n, .string ⟨s.toArray⟩, .string ⟨t.toArray⟩, .slice la ln lc] 25) := ⟨_, rfl⟩
  have hb1 : Below w.heap.size w w1 := by rw [hw1]; exact belowA _ _
  have hg1 : w1.heap[w.heap.size]? = some (.cells #[.int .i64 kind, .int .i64 h, .int .i64 n, .string ⟨s.toArray⟩, .string ⟨t.toArray⟩, .slice la ln lc] 25 (0, 0)) := by rw [hw1]; exact heap_alloc_new _ _
  have hBw := hj.low
  have hbB : Below B w w1 := hb1.mono hBw
  have J1 := hid (hj.on hb1)
  have M1 := hid (hml.below hb1)
  have L1 := hid (HLV.out.low hbB)
  have X1 := hid (KeepX.of hb1)
  have B1 := hid hbB
  have G1 := hid hg1
  have hfit := hj.fit
  have HFIT := hid hfit
  have c0 : w1.cell? ⟨w.heap.size, 0, none⟩ = some (.int .i64 kind) := by rw [Lib.cell_of_heap hg1]; rfl
  have fields : ∀ u : World, u.heap[w.heap.size]? = some (.cells #[.int .i64 kind, .int .i64 h, .int .i64 n, .string ⟨s.toArray⟩, .string ⟨t.toArray⟩, .slice la ln lc] 25 (0, 0)) →
      u.cell? ⟨w.heap.size, 1, none⟩ = some (.int .i64 h) ∧ u.cell? ⟨w.heap.size, 2, none⟩ = some (.int .i64 n) ∧ u.cell? ⟨w.heap.size, 3, none⟩ = some (.string ⟨s.toArray⟩) ∧ u.cell? ⟨w.heap.size, 4, none⟩ = some (.string ⟨t.toArray⟩) ∧ u.cell? ⟨w.heap.size, 5, none⟩ = some (.slice la ln lc) := by
    intro u hu
    refine ⟨?_, ?_, ?_, ?_, ?_⟩ <;> (rw [Lib.cell_of_heap hu]; rfl)
  have keep : ∀ u u' : World, KeepX u u' → u.heap[w.heap.size]? = some (.cells #[.int .i64 kind, .int .i64 h, .int .i64 n, .string ⟨s.toArray⟩, .string ⟨t.toArray⟩, .slice la ln lc] 25 (0, 0)) → u'.heap[w.heap.size]? = some (.cells #[.int .i64 kind, .int .i64 h, .int .i64 n, .string ⟨s.toArray⟩, .string ⟨t.toArray⟩, .slice la ln lc] 25 (0, 0)) := fun u u' hk hu => hk _ _ _ _ hu (by decide)
  have KP := hid keep
  have FD := hid fields
  have HOK := hid hok
  obtain ⟨d1, d2, d3, d4, d5⟩ := fields w1 hg1
  have HW1 := hid hw1
  clear keep fields hw1 hb1 hg1 hbB hj hlcell hok hln
  subst hk
  obtain ⟨A', hA'⟩ : ∃ A', A' = (putA A h n s).2 := ⟨_, rfl⟩
  rw [show stepA ⟨6, h, n, s, t, l⟩ A = A' by rw [hA']; rfl]
  obtain ⟨r, hr⟩ : ∃ r : Value, r = .int .i64 (putA A h n s).1 := ⟨_, rfl⟩
  have HLEN := hid (show A'.length ≤ A.length + 1 by rw [hA']; exact (by rw [putA_len]; omega))
  have HPR := hid (show ∀ (u : World) (X : ShR), J2 B st st2 Q u A X → ML u → Calls Tryz.prog 72 #[.pointer (some ⟨st, 0, none⟩), .int .i64 h, .int .i64 n, .string ⟨s.toArray⟩] u fun e u' => e = .returned r ∧ J2 B st st2 Q u' A' X ∧ Below B u u' ∧ KeepX u u' from fun u X hu HM => by
    rw [hA', hr]
    exact hu.prog (fun v S h1 h3 => by have h9 := putA_fn h1 HM h n s (by rw [shape_lenS h3]; omega) (by omega); rw [h3] at h9; exact h9))
  have HRF := hid (show ∀ (u : World) (X : ShA), J2 B st st2 Q u X (AR A) → Calls Tryz.prog 73 #[.pointer (some ⟨st2, 0, none⟩), .int .i64 h, .int .i64 n, .string ⟨s.toArray⟩] u fun e u' => e = .returned r ∧ J2 B st st2 Q u' X (AR A') ∧ Below B u u' ∧ KeepX u u' from fun u X hu => by
    rw [hA', hr]
    exact hu.ref HFIT.out.short (fun v R h1 hl h3 => by have h9 := putR_fn h1 hl h n s (by omega); rw [h3, ← (put_rel HFIT.out h n s).1, ← (put_rel HFIT.out h n s).2] at h9; exact h9))
  have hri : ∃ z, r = .int .i64 z := ⟨_, hr⟩
  obtain ⟨z, rfl⟩ := hri
  clear hA' hr hfit
  go_enter Tryz.func38, Tryz.ntmps38
  go_wp2
  rw [← HW1.out]
  refine U_begin (late := fun _ => false) (S := fun u : World => u.cell? ⟨w.heap.size, 1, none⟩ = some (.int .i64 h) ∧ u.cell? ⟨w.heap.size, 2, none⟩ = some (.int .i64 n) ∧ u.cell? ⟨w.heap.size, 3, none⟩ = some (.string ⟨s.toArray⟩)) hmx ?_
  have D := FD.out w1 G1.out
  have S0 : Hid ((fun u : World => u.cell? ⟨w.heap.size, 1, none⟩ = some (.int .i64 h) ∧ u.cell? ⟨w.heap.size, 2, none⟩ = some (.int .i64 n) ∧ u.cell? ⟨w.heap.size, 3, none⟩ = some (.string ⟨s.toArray⟩)) w1.drew) := hid ⟨D.1, D.2.1, D.2.2.1⟩
  refine U_take2 8 (i := 0) (v := .pointer (some ⟨st, 0, none⟩)) rfl (by kernel_rfl) (by kernel_rfl) (by kernel_rfl) (by kernel_rfl) (by kernel_rfl) (fun _ _ _ h => h) (.inl ⟨rfl, fun u hu => (by go_simp)⟩) S0.out ?_
  refine U_take2 8 (i := 1) (v := .pointer (some ⟨w.heap.size, 1, none⟩)) rfl (by kernel_rfl) (by kernel_rfl) (by kernel_rfl) (by kernel_rfl) (by kernel_rfl) (fun _ _ _ h => h) (.inl ⟨rfl, fun u hu => (by go_simp)⟩) S0.out ?_
  refine U_take2 8 (i := 2) (v := .int .i64 h) rfl (by kernel_rfl) (by kernel_rfl) (by kernel_rfl) (by kernel_rfl) (by kernel_rfl) (fun _ _ _ h => h) (.inl ⟨rfl, fun u hu => (by obtain ⟨h1, h2, h3⟩ := hu; go_simp)⟩) S0.out ?_
  refine U_take2 8 (i := 3) (v := .pointer (some ⟨w.heap.size, 2, none⟩)) rfl (by kernel_rfl) (by kernel_rfl) (by kernel_rfl) (by kernel_rfl) (by kernel_rfl) (fun _ _ _ h => h) (.inl ⟨rfl, fun u hu => (by go_simp)⟩) S0.out ?_
  refine U_take2 8 (i := 4) (v := .int .i64 n) rfl (by kernel_rfl) (by kernel_rfl) (by kernel_rfl) (by kernel_rfl) (by kernel_rfl) (fun _ _ _ h => h) (.inl ⟨rfl, fun u hu => (by obtain ⟨h1, h2, h3⟩ := hu; go_simp)⟩) S0.out ?_
  refine U_take2 8 (i := 5) (v := .pointer (some ⟨w.heap.size, 3, none⟩)) rfl (by kernel_rfl) (by kernel_rfl) (by kernel_rfl) (by kernel_rfl) (by kernel_rfl) (fun _ _ _ h => h) (.inl ⟨rfl, fun u hu => (by go_simp)⟩) S0.out ?_
  refine U_take2 8 (i := 6) (v := .string ⟨s.toArray⟩) rfl (by kernel_rfl) (by kernel_rfl) (by kernel_rfl) (by kernel_rfl) (by kernel_rfl) (fun _ _ _ h => h) (.inl ⟨rfl, fun u hu => (by obtain ⟨h1, h2, h3⟩ := hu; go_simp)⟩) S0.out ?_
  refine U_take2 8 (i := 8) (v := .pointer (some ⟨st2, 0, none⟩)) rfl (by kernel_rfl) (by kernel_rfl) (by kernel_rfl) (by kernel_rfl) (by kernel_rfl) (fun _ _ _ h => h) (.inl ⟨rfl, fun u hu => (by go_simp)⟩) S0.out ?_
  refine U_take2 8 (i := 9) (v := .pointer (some ⟨w.heap.size, 1, none⟩)) rfl (by kernel_rfl) (by kernel_rfl) (by kernel_rfl) (by kernel_rfl) (by kernel_rfl) (fun _ _ _ h => h) (.inl ⟨rfl, fun u hu => (by go_simp)⟩) S0.out ?_
  refine U_take2 8 (i := 10) (v := .int .i64 h) rfl (by kernel_rfl) (by kernel_rfl) (by kernel_rfl) (by kernel_rfl) (by kernel_rfl) (fun _ _ _ h => h) (.inl ⟨rfl, fun u hu => (by obtain ⟨h1, h2, h3⟩ := hu; go_simp)⟩) S0.out ?_
  refine U_take2 8 (i := 11) (v := .pointer (some ⟨w.heap.size, 2, none⟩)) rfl (by kernel_rfl) (by kernel_rfl) (by kernel_rfl) (by kernel_rfl) (by kernel_rfl) (fun _ _ _ h => h) (.inl ⟨rfl, fun u hu => (by go_simp)⟩) S0.out ?_
  refine U_take2 8 (i := 12) (v := .int .i64 n) rfl (by kernel_rfl) (by kernel_rfl) (by kernel_rfl) (by kernel_rfl) (by kernel_rfl) (fun _ _ _ h => h) (.inl ⟨rfl, fun u hu => (by obtain ⟨h1, h2, h3⟩ := hu; go_simp)⟩) S0.out ?_
  refine U_take2 8 (i := 13) (v := .pointer (some ⟨w.heap.size, 3, none⟩)) rfl (by kernel_rfl) (by kernel_rfl) (by kernel_rfl) (by kernel_rfl) (by kernel_rfl) (fun _ _ _ h => h) (.inl ⟨rfl, fun u hu => (by go_simp)⟩) S0.out ?_
  refine U_take2 8 (i := 14) (v := .string ⟨s.toArray⟩) rfl (by kernel_rfl) (by kernel_rfl) (by kernel_rfl) (by kernel_rfl) (by kernel_rfl) (fun _ _ _ h => h) (.inl ⟨rfl, fun u hu => (by obtain ⟨h1, h2, h3⟩ := hu; go_simp)⟩) S0.out ?_
  refine U_step (j := 7) (by kernel_rfl) rfl (fun K hK => ?_)
  go_simp
  (with_reducible refine (HPR.out w1.drew _ (J1.out.on (Below.refl _ _).drew) (M1.out.below (Below.refl _ _).drew)).mono ?_); rintro e w2 ⟨rfl, hj2, hb2', hx2⟩
  have hb2 : Below B w1 w2 := ((Below.refl _ _).drew.mono (by have := J1.out.low; exact this)).trans hb2'
  have hx2' : KeepX w1 w2 := (KeepX.of (Below.refl _ _).drew).trans hx2
  have g2 := KP.out w1 w2 hx2' G1.out
  have D := FD.out w2 g2
  have S2 : Hid ((fun u : World => u.cell? ⟨w.heap.size, 1, none⟩ = some (.int .i64 h) ∧ u.cell? ⟨w.heap.size, 2, none⟩ = some (.int .i64 n) ∧ u.cell? ⟨w.heap.size, 3, none⟩ = some (.string ⟨s.toArray⟩)) w2) := hid ⟨D.1, D.2.1, D.2.2.1⟩
  refine hK.out _ _ (.inr S2.out) ?_
  clear hK K
  refine U_step (j := 15) (by kernel_rfl) rfl (fun K hK => ?_)
  go_simp
  (with_reducible refine (HRF.out w2 _ hj2).mono ?_); rintro e w3 ⟨rfl, hj3, hb3, hx3⟩
  have g3 := KP.out w2 w3 hx3 g2
  have D := FD.out w3 g3
  have S3 : Hid ((fun u : World => u.cell? ⟨w.heap.size, 1, none⟩ = some (.int .i64 h) ∧ u.cell? ⟨w.heap.size, 2, none⟩ = some (.int .i64 n) ∧ u.cell? ⟨w.heap.size, 3, none⟩ = some (.string ⟨s.toArray⟩)) w3) := hid ⟨D.1, D.2.1, D.2.2.1⟩
  refine hK.out _ _ (.inr S3.out) ?_
  clear hK K
  refine U_step (j := 16) (by kernel_rfl) rfl (fun K hK => ?_)
  go_simp
  refine hK.out _ _ (.inr S3.out) ?_
  clear hK K
  refine U_step (j := 17) (by kernel_rfl) rfl (fun K hK => ?_)
  go_simp
  refine hK.out _ _ (.inr S3.out) ?_
  clear hK K
  refine U_done (by kernel_rfl) ?_ _
  have QQ := hid (show PlayQ B st st2 Q w A A' w3 from ⟨hj3, HLEN.out, B1.out.trans (hb2.trans hb3), X1.out.trans (hx2'.trans hx3)⟩)
  clear S0 S2 S3 hj2 hb2 hb2' hx2 hx2' g2 D hj3 hb3 hx3 g3 c0 d1 d2 d3 d4 d5
  go_wp2
  go_ret
  exact ⟨rfl, QQ.out⟩
set_option maxRecDepth 100000 in
set_option maxHeartbeats 4000000 in
theorem play7_fn (hj : J2 B st st2 Q w A (AR A)) (hml : ML w) (_ : 0 < B) (hA : A.length ≤ 1000) (a : ActD) (lv : Value) (hlv : StrsB B w lv a.l) (hok : a.ok) (hk : a.kind = 7) :
    Calls Tryz.prog 38 #[.pointer (some ⟨st, 0, none⟩), .pointer (some ⟨st2, 0, none⟩), .agg (a.cells lv)] w fun e w' => e = .returned (.bool true) ∧ PlayQ B st st2 Q w A (stepA a A) w' := by
  obtain ⟨kind, h, n, s, t, l⟩ := a
  obtain ⟨hs1, hs2, hok⟩ := hok
  dsimp only at hs1 hs2 hok hlv hk
  unfold ActD.cells
  dsimp only
  obtain ⟨la, lc, rfl, hlc, hlcell⟩ := hlv
  have HLV := hid (show StrsB B w (.slice la l.length lc) l from ⟨la, lc, rfl, hlc, hlcell⟩)
  obtain ⟨ln, hln⟩ : ∃ ln, ln = l.length := ⟨_, rfl⟩
  rw [← hln] at HLV ⊢
  have hmx : Tryz.prog.follows .mixedOrders = true := by kernel_rfl
  obtain ⟨w1, hw1⟩ : ∃ w1, w1 = w.alloc (.cells #[.int .i64 kind, .int .i64 h, .int .i64 n, .string ⟨s.toArray⟩, .string ⟨t.toArray⟩, .slice la ln lc] 25) := ⟨_, rfl⟩
  have hb1 : Below w.heap.size w w1 := by rw [hw1]; exact belowA _ _
  have hg1 : w1.heap[w.heap.size]? = some (.cells #[.int .i64 kind, .int .i64 h, .int .i64 n, .string ⟨s.toArray⟩, .string ⟨t.toArray⟩, .slice la ln lc] 25 (0, 0)) := by rw [hw1]; exact heap_alloc_new _ _
  have hBw := hj.low
  have hbB : Below B w w1 := hb1.mono hBw
  have J1 := hid (hj.on hb1)
  have M1 := hid (hml.below hb1)
  have L1 := hid (HLV.out.low hbB)
  have X1 := hid (KeepX.of hb1)
  have B1 := hid hbB
  have G1 := hid hg1
  have hfit := hj.fit
  have HFIT := hid hfit
  have c0 : w1.cell? ⟨w.heap.size, 0, none⟩ = some (.int .i64 kind) := by rw [Lib.cell_of_heap hg1]; rfl
  have fields : ∀ u : World, u.heap[w.heap.size]? = some (.cells #[.int .i64 kind, .int .i64 h, .int .i64 n, .string ⟨s.toArray⟩, .string ⟨t.toArray⟩, .slice la ln lc] 25 (0, 0)) →
      u.cell? ⟨w.heap.size, 1, none⟩ = some (.int .i64 h) ∧ u.cell? ⟨w.heap.size, 2, none⟩ = some (.int .i64 n) ∧ u.cell? ⟨w.heap.size, 3, none⟩ = some (.string ⟨s.toArray⟩) ∧ u.cell? ⟨w.heap.size, 4, none⟩ = some (.string ⟨t.toArray⟩) ∧ u.cell? ⟨w.heap.size, 5, none⟩ = some (.slice la ln lc) := by
    intro u hu
    refine ⟨?_, ?_, ?_, ?_, ?_⟩ <;> (rw [Lib.cell_of_heap hu]; rfl)
  have keep : ∀ u u' : World, KeepX u u' → u.heap[w.heap.size]? = some (.cells #[.int .i64 kind, .int .i64 h, .int .i64 n, .string ⟨s.toArray⟩, .string ⟨t.toArray⟩, .slice la ln lc] 25 (0, 0)) → u'.heap[w.heap.size]? = some (.cells #[.int .i64 kind, .int .i64 h, .int .i64 n, .string ⟨s.toArray⟩, .string ⟨t.toArray⟩, .slice la ln lc] 25 (0, 0)) := fun u u' hk hu => hk _ _ _ _ hu (by decide)
  have KP := hid keep
  have FD := hid fields
  have HOK := hid hok
  obtain ⟨d1, d2, d3, d4, d5⟩ := fields w1 hg1
  have HW1 := hid hw1
  clear keep fields hw1 hb1 hg1 hbB hj hlcell hok hln
  subst hk
  obtain ⟨A', hA'⟩ : ∃ A', A' = (enterKeyA A h s t).2 := ⟨_, rfl⟩
  rw [show stepA ⟨7, h, n, s, t, l⟩ A = A' by rw [hA']; rfl]
  obtain ⟨r, hr⟩ : ∃ r : Value, r = .int .i64 (enterKeyA A h s t).1 := ⟨_, rfl⟩
  have HLEN := hid (show A'.length ≤ A.length + 1 by rw [hA']; exact (by rw [enterKeyA_len]; omega))
  have HPR := hid (show ∀ (u : World) (X : ShR), J2 B st st2 Q u A X → ML u → Calls Tryz.prog 74 #[.pointer (some ⟨st, 0, none⟩), .int .i64 h, .string ⟨s.toArray⟩, .string ⟨t.toArray⟩] u fun e u' => e = .returned r ∧ J2 B st st2 Q u' A' X ∧ Below B u u' ∧ KeepX u u' from fun u X hu HM => by
    rw [hA', hr]
    exact hu.prog (fun v S h1 h3 => by have h9 := enterKeyA_fn h1 HM h s t (by rw [shape_lenS h3]; omega) (by omega); rw [h3] at h9; exact h9))
  have HRF := hid (show ∀ (u : World) (X : ShA), J2 B st st2 Q u X (AR A) → Calls Tryz.prog 75 #[.pointer (some ⟨st2, 0, none⟩), .int .i64 h, .string ⟨s.toArray⟩, .string ⟨t.toArray⟩] u fun e u' => e = .returned r ∧ J2 B st st2 Q u' X (AR A') ∧ Below B u u' ∧ KeepX u u' from fun u X hu => by
    rw [hA', hr]
    exact hu.ref HFIT.out.short (fun v R h1 hl h3 => by have h9 := enterKeyR_fn h1 hl h s t (by omega) (by omega); rw [h3, ← (enterKey_rel HFIT.out h s t).1, ← (enterKey_rel HFIT.out h s t).2] at h9; exact h9))
  have hri : ∃ z, r = .int .i64 z := ⟨_, hr⟩
  obtain ⟨z, rfl⟩ := hri
  clear hA' hr hfit
  go_enter Tryz.func38, Tryz.ntmps38
  go_wp2
  rw [← HW1.out]
  refine U_begin (late := fun _ => false) (S := fun u : World => u.cell? ⟨w.heap.size, 1, none⟩ = some (.int .i64 h) ∧ u.cell? ⟨w.heap.size, 3, none⟩ = some (.string ⟨s.toArray⟩) ∧ u.cell? ⟨w.heap.size, 4, none⟩ = some (.string ⟨t.toArray⟩)) hmx ?_
  have D := FD.out w1 G1.out
  have S0 : Hid ((fun u : World => u.cell? ⟨w.heap.size, 1, none⟩ = some (.int .i64 h) ∧ u.cell? ⟨w.heap.size, 3, none⟩ = some (.string ⟨s.toArray⟩) ∧ u.cell? ⟨w.heap.size, 4, none⟩ = some (.string ⟨t.toArray⟩)) w1.drew) := hid ⟨D.1, D.2.2.1, D.2.2.2.1⟩
  refine U_take2 8 (i := 0) (v := .pointer (some ⟨st, 0, none⟩)) rfl (by kernel_rfl) (by kernel_rfl) (by kernel_rfl) (by kernel_rfl) (by kernel_rfl) (fun _ _ _ h => h) (.inl ⟨rfl, fun u hu => (by go_simp)⟩) S0.out ?_
  refine U_take2 8 (i := 1) (v := .pointer (some ⟨w.heap.size, 1, none⟩)) rfl (by kernel_rfl) (by kernel_rfl) (by kernel_rfl) (by kernel_rfl) (by kernel_rfl) (fun _ _ _ h => h) (.inl ⟨rfl, fun u hu => (by go_simp)⟩) S0.out ?_
  refine U_take2 8 (i := 2) (v := .int .i64 h) rfl (by kernel_rfl) (by kernel_rfl) (by kernel_rfl) (by kernel_rfl) (by kernel_rfl) (fun _ _ _ h => h) (.inl ⟨rfl, fun u hu => (by obtain ⟨h1, h2, h3⟩ := hu; go_simp)⟩) S0.out ?_
  refine U_take2 8 (i := 3) (v := .pointer (some ⟨w.heap.size, 3, none⟩)) rfl (by kernel_rfl) (by kernel_rfl) (by kernel_rfl) (by kernel_rfl) (by kernel_rfl) (fun _ _ _ h => h) (.inl ⟨rfl, fun u hu => (by go_simp)⟩) S0.out ?_
  refine U_take2 8 (i := 4) (v := .string ⟨s.toArray⟩) rfl (by kernel_rfl) (by kernel_rfl) (by kernel_rfl) (by kernel_rfl) (by kernel_rfl) (fun _ _ _ h => h) (.inl ⟨rfl, fun u hu => (by obtain ⟨h1, h2, h3⟩ := hu; go_simp)⟩) S0.out ?_
  refine U_take2 8 (i := 5) (v := .pointer (some ⟨w.heap.size, 4, none⟩)) rfl (by kernel_rfl) (by kernel_rfl) (by kernel_rfl) (by kernel_rfl) (by kernel_rfl) (fun _ _ _ h => h) (.inl ⟨rfl, fun u hu => (by go_simp)⟩) S0.out ?_
  refine U_take2 8 (i := 6) (v := .string ⟨t.toArray⟩) rfl (by kernel_rfl) (by kernel_rfl) (by kernel_rfl) (by kernel_rfl) (by kernel_rfl) (fun _ _ _ h => h) (.inl ⟨rfl, fun u hu => (by obtain ⟨h1, h2, h3⟩ := hu; go_simp)⟩) S0.out ?_
  refine U_take2 8 (i := 8) (v := .pointer (some ⟨st2, 0, none⟩)) rfl (by kernel_rfl) (by kernel_rfl) (by kernel_rfl) (by kernel_rfl) (by kernel_rfl) (fun _ _ _ h => h) (.inl ⟨rfl, fun u hu => (by go_simp)⟩) S0.out ?_
  refine U_take2 8 (i := 9) (v := .pointer (some ⟨w.heap.size, 1, none⟩)) rfl (by kernel_rfl) (by kernel_rfl) (by kernel_rfl) (by kernel_rfl) (by kernel_rfl) (fun _ _ _ h => h) (.inl ⟨rfl, fun u hu => (by go_simp)⟩) S0.out ?_
  refine U_take2 8 (i := 10) (v := .int .i64 h) rfl (by kernel_rfl) (by kernel_rfl) (by kernel_rfl) (by kernel_rfl) (by kernel_rfl) (fun _ _ _ h => h) (.inl ⟨rfl, fun u hu => (by obtain ⟨h1, h2, h3⟩ := hu; go_simp)⟩) S0.out ?_
  refine U_take2 8 (i := 11) (v := .pointer (some ⟨w.heap.size, 3, none⟩)) rfl (by kernel_rfl) (by kernel_rfl) (by kernel_rfl) (by kernel_rfl) (by kernel_rfl) (fun _ _ _ h => h) (.inl ⟨rfl, fun u hu => (by go_simp)⟩) S0.out ?_
  refine U_take2 8 (i := 12) (v := .string ⟨s.toArray⟩) rfl (by kernel_rfl) (by kernel_rfl) (by kernel_rfl) (by kernel_rfl) (by kernel_rfl) (fun _ _ _ h => h) (.inl ⟨rfl, fun u hu => (by obtain ⟨h1, h2, h3⟩ := hu; go_simp)⟩) S0.out ?_
  refine U_take2 8 (i := 13) (v := .pointer (some ⟨w.heap.size, 4, none⟩)) rfl (by kernel_rfl) (by kernel_rfl) (by kernel_rfl) (by kernel_rfl) (by kernel_rfl) (fun _ _ _ h => h) (.inl ⟨rfl, fun u hu => (by go_simp)⟩) S0.out ?_
  refine U_take2 8 (i := 14) (v := .string ⟨t.toArray⟩) rfl (by kernel_rfl) (by kernel_rfl) (by kernel_rfl) (by kernel_rfl) (by kernel_rfl) (fun _ _ _ h => h) (.inl ⟨rfl, fun u hu => (by obtain ⟨h1, h2, h3⟩ := hu; go_simp)⟩) S0.out ?_
  refine U_step (j := 7) (by kernel_rfl) rfl (fun K hK => ?_)
  go_simp
  (with_reducible refine (HPR.out w1.drew _ (J1.out.on (Below.refl _ _).drew) (M1.out.below (Below.refl _ _).drew)).mono ?_); rintro e w2 ⟨rfl, hj2, hb2', hx2⟩
  have hb2 : Below B w1 w2 := ((Below.refl _ _).drew.mono (by have := J1.out.low; exact this)).trans hb2'
  have hx2' : KeepX w1 w2 := (KeepX.of (Below.refl _ _).drew).trans hx2
  have g2 := KP.out w1 w2 hx2' G1.out
  have D := FD.out w2 g2
  have S2 : Hid ((fun u : World => u.cell? ⟨w.heap.size, 1, none⟩ = some (.int .i64 h) ∧ u.cell? ⟨w.heap.size, 3, none⟩ = some (.string ⟨s.toArray⟩) ∧ u.cell? ⟨w.heap.size, 4, none⟩ = some (.string ⟨t.toArray⟩)) w2) := hid ⟨D.1, D.2.2.1, D.2.2.2.1⟩
  refine hK.out _ _ (.inr S2.out) ?_
  clear hK K
  refine U_step (j := 15) (by kernel_rfl) rfl (fun K hK => ?_)
  go_simp
  (with_reducible refine (HRF.out w2 _ hj2).mono ?_); rintro e w3 ⟨rfl, hj3, hb3, hx3⟩
  have g3 := KP.out w2 w3 hx3 g2
  have D := FD.out w3 g3
  have S3 : Hid ((fun u : World => u.cell? ⟨w.heap.size, 1, none⟩ = some (.int .i64 h) ∧ u.cell? ⟨w.heap.size, 3, none⟩ = some (.string ⟨s.toArray⟩) ∧ u.cell? ⟨w.heap.size, 4, none⟩ = some (.string ⟨t.toArray⟩)) w3) := hid ⟨D.1, D.2.2.1, D.2.2.2.1⟩
  refine hK.out _ _ (.inr S3.out) ?_
  clear hK K
  refine U_step (j := 16) (by kernel_rfl) rfl (fun K hK => ?_)
  go_simp
  refine hK.out _ _ (.inr S3.out) ?_
  clear hK K
  refine U_step (j := 17) (by kernel_rfl) rfl (fun K hK => ?_)
  go_simp
  refine hK.out _ _ (.inr S3.out) ?_
  clear hK K
  refine U_done (by kernel_rfl) ?_ _
  have QQ := hid (show PlayQ B st st2 Q w A A' w3 from ⟨hj3, HLEN.out, B1.out.trans (hb2.trans hb3), X1.out.trans (hx2'.trans hx3)⟩)
  clear S0 S2 S3 hj2 hb2 hb2' hx2 hx2' g2 D hj3 hb3 hx3 g3 c0 d1 d2 d3 d4 d5
  go_wp2
  go_ret
  exact ⟨rfl, QQ.out⟩
set_option maxRecDepth 100000 in
set_option maxHeartbeats 4000000 in
theorem play1_fn (hj : J2 B st st2 Q w A (AR A)) (hml : ML w) (_ : 0 < B) (hA : A.length ≤ 1000) (a : ActD) (lv : Value) (hlv : StrsB B w lv a.l) (hok : a.ok) (hk : a.kind = 1) :
    Calls Tryz.prog 38 #[.pointer (some ⟨st, 0, none⟩), .pointer (some ⟨st2, 0, none⟩), .agg (a.cells lv)] w fun e w' => e = .returned (.bool true) ∧ PlayQ B st st2 Q w A (stepA a A) w' := by
  obtain ⟨kind, h, n, s, t, l⟩ := a
  obtain ⟨hs1, hs2, hok⟩ := hok
  dsimp only at hs1 hs2 hok hlv hk
  unfold ActD.cells
  dsimp only
  obtain ⟨la, lc, rfl, hlc, hlcell⟩ := hlv
  have HLV := hid (show StrsB B w (.slice la l.length lc) l from ⟨la, lc, rfl, hlc, hlcell⟩)
  obtain ⟨ln, hln⟩ : ∃ ln, ln = l.length := ⟨_, rfl⟩
  rw [← hln] at HLV ⊢
  have hmx : Tryz.prog.follows .mixedOrders = true := by kernel_rfl
  obtain ⟨w1, hw1⟩ : ∃ w1, w1 = w.alloc (.cells #[.int .i64 kind, .int .i64 h, .int .i64 n, .string ⟨s.toArray⟩, .string ⟨t.toArray⟩, .slice la ln lc] 25) := ⟨_, rfl⟩
  have hb1 : Below w.heap.size w w1 := by rw [hw1]; exact belowA _ _
  have hg1 : w1.heap[w.heap.size]? = some (.cells #[.int .i64 kind, .int .i64 h, .int .i64 n, .string ⟨s.toArray⟩, .string ⟨t.toArray⟩, .slice la ln lc] 25 (0, 0)) := by rw [hw1]; exact heap_alloc_new _ _
  have hBw := hj.low
  have hbB : Below B w w1 := hb1.mono hBw
  have J1 := hid (hj.on hb1)
  have M1 := hid (hml.below hb1)
  have L1 := hid (HLV.out.low hbB)
  have X1 := hid (KeepX.of hb1)
  have B1 := hid hbB
  have G1 := hid hg1
  have hfit := hj.fit
  have HFIT := hid hfit
  have c0 : w1.cell? ⟨w.heap.size, 0, none⟩ = some (.int .i64 kind) := by rw [Lib.cell_of_heap hg1]; rfl
  have fields : ∀ u : World, u.heap[w.heap.size]? = some (.cells #[.int .i64 kind, .int .i64 h, .int .i64 n, .string ⟨s.toArray⟩, .string ⟨t.toArray⟩, .slice la ln lc] 25 (0, 0)) →
      u.cell? ⟨w.heap.size, 1, none⟩ = some (.int .i64 h) ∧ u.cell? ⟨w.heap.size, 2, none⟩ = some (.int .i64 n) ∧ u.cell? ⟨w.heap.size, 3, none⟩ = some (.string ⟨s.toArray⟩) ∧ u.cell? ⟨w.heap.size, 4, none⟩ = some (.string ⟨t.toArray⟩) ∧ u.cell? ⟨w.heap.size, 5, none⟩ = some (.slice la ln lc) := by
    intro u hu
    refine ⟨?_, ?_, ?_, ?_, ?_⟩ <;> (rw [Lib.cell_of_heap hu]; rfl)
  have keep : ∀ u u' : World, KeepX u u' → u.heap[w.heap.size]? = some (.cells #[.int .i64 kind, .int .i64 h, .int .i64 n, .string ⟨s.toArray⟩, .string ⟨t.toArray⟩, .slice la ln lc] 25 (0, 0)) → u'.heap[w.heap.size]? = some (.cells #[.int .i64 kind, .int .i64 h, .int .i64 n, .string ⟨s.toArray⟩, .string ⟨t.toArray⟩, .slice la ln lc] 25 (0, 0)) := fun u u' hk hu => hk _ _ _ _ hu (by decide)
  have KP := hid keep
  have FD := hid fields
  have HOK := hid hok
  obtain ⟨d1, d2, d3, d4, d5⟩ := fields w1 hg1
  have HW1 := hid hw1
  clear keep fields hw1 hb1 hg1 hbB hj hlcell hok hln
  subst hk
  obtain ⟨A', hA'⟩ : ∃ A', A' = A ++ [(quotedL l, .list l)] := ⟨_, rfl⟩
  rw [show stepA ⟨1, h, n, s, t, l⟩ A = A' by rw [hA']; rfl]
  have HLEN := hid (show A'.length ≤ A.length + 1 by rw [hA']; exact (by simp))
  obtain ⟨r, hr⟩ : ∃ r : Value, r = .tuple #[.int .i64 ((A.length : Nat) : Int), .int .i64 0] := ⟨_, rfl⟩
  have HPR := hid (show ∀ (u : World) (X : ShR), J2 B st st2 Q u A X → ML u → Below B w1 u → Calls Tryz.prog 15 #[.pointer (some ⟨st, 0, none⟩), .slice la ln lc] u fun e u' => e = .returned r ∧ J2 B st st2 Q u' A' X ∧ Below B u u' ∧ KeepX u u' from fun u X hu HM hbu => by
    rw [hA', hr]
    exact hu.prog (fun v S h1 h3 => by have h9 := makeA_fn h1 ((L1.out.low hbu).strs hu.low) HM HOK.out (by rw [shape_lenS h3]; omega); rw [h3] at h9; exact h9))
  have HRF := hid (show ∀ (u : World) (X : ShA), J2 B st st2 Q u X (AR A) → Below B w1 u → Calls Tryz.prog 65 #[.pointer (some ⟨st2, 0, none⟩), .slice la ln lc] u fun e u' => e = .returned r ∧ J2 B st st2 Q u' X (AR A') ∧ Below B u u' ∧ KeepX u u' from fun u X hu hbu => by
    rw [hA', hr, AR_app]
    exact hu.ref HFIT.out.short (fun v R h1 hl h3 => by have h9 := makeR_fn h1 ((L1.out.low hbu).strs hu.low) HOK.out (by rw [shapeR_lenR h3, AR_len]; omega); rw [h3, AR_len] at h9; exact h9))
  obtain ⟨z1, z2, rfl⟩ : ∃ z1 z2, r = .tuple #[.int .i64 z1, .int .i64 z2] := ⟨_, _, hr⟩
  clear hA' hr hfit
  go_enter Tryz.func38, Tryz.ntmps38
  go_wp2_with fail
  rw [← HW1.out]
  (with_reducible refine (HPR.out w1 _ J1.out M1.out (Below.refl _ _)).mono ?_); rintro e w2 ⟨rfl, hj2, hb2, hx2⟩
  have g2 := KP.out w1 w2 hx2 G1.out
  obtain ⟨e1, e2, e3, e4, e5⟩ := FD.out w2 g2
  have HR2 := hid (HRF.out w2 _ hj2 hb2)
  have HB2 := hid hb2
  have HX2 := hid hx2
  clear hj2 hb2 hx2 g2 c0 d1 d2 d3 d4 d5
  go_wp2_with fail
  (with_reducible refine HR2.out.mono ?_); rintro e w3 ⟨rfl, hj3, hb3, hx3⟩
  have QQ := hid (show PlayQ B st st2 Q w A A' w3 from ⟨hj3, HLEN.out, B1.out.trans (HB2.out.trans hb3), X1.out.trans (HX2.out.trans hx3)⟩)
  clear hj3 hb3 hx3
  go_wp2
  go_ret
  exact ⟨rfl, QQ.out⟩
set_option maxRecDepth 100000 in
set_option maxHeartbeats 4000000 in
theorem play2_fn (hj : J2 B st st2 Q w A (AR A)) (hml : ML w) (_ : 0 < B) (hA : A.length ≤ 1000) (a : ActD) (lv : Value) (hlv : StrsB B w lv a.l) (hok : a.ok) (hk : a.kind = 2) :
    Calls Tryz.prog 38 #[.pointer (some ⟨st, 0, none⟩), .pointer (some ⟨st2, 0, none⟩), .agg (a.cells lv)] w fun e w' => e = .returned (.bool true) ∧ PlayQ B st st2 Q w A (stepA a A) w' := by
  obtain ⟨kind, h, n, s, t, l⟩ := a
  obtain ⟨hs1, hs2, hok⟩ := hok
  dsimp only at hs1 hs2 hok hlv hk
  unfold ActD.cells
  dsimp only
  obtain ⟨la, lc, rfl, hlc, hlcell⟩ := hlv
  have HLV := hid (show StrsB B w (.slice la l.length lc) l from ⟨la, lc, rfl, hlc, hlcell⟩)
  obtain ⟨ln, hln⟩ : ∃ ln, ln = l.length := ⟨_, rfl⟩
  rw [← hln] at HLV ⊢
  have hmx : Tryz.prog.follows .mixedOrders = true := by kernel_rfl
  obtain ⟨w1, hw1⟩ : ∃ w1, w1 = w.alloc (.cells #[.int .i64 kind, .int .i64 h, .int .i64 n, .string ⟨s.toArray⟩, .string ⟨t.toArray⟩, .slice la ln lc] 25) := ⟨_, rfl⟩
  have hb1 : Below w.heap.size w w1 := by rw [hw1]; exact belowA _ _
  have hg1 : w1.heap[w.heap.size]? = some (.cells #[.int .i64 kind, .int .i64 h, .int .i64 n, .string ⟨s.toArray⟩, .string ⟨t.toArray⟩, .slice la ln lc] 25 (0, 0)) := by rw [hw1]; exact heap_alloc_new _ _
  have hBw := hj.low
  have hbB : Below B w w1 := hb1.mono hBw
  have J1 := hid (hj.on hb1)
  have M1 := hid (hml.below hb1)
  have L1 := hid (HLV.out.low hbB)
  have X1 := hid (KeepX.of hb1)
  have B1 := hid hbB
  have G1 := hid hg1
  have hfit := hj.fit
  have HFIT := hid hfit
  have c0 : w1.cell? ⟨w.heap.size, 0, none⟩ = some (.int .i64 kind) := by rw [Lib.cell_of_heap hg1]; rfl
  have fields : ∀ u : World, u.heap[w.heap.size]? = some (.cells #[.int .i64 kind, .int .i64 h, .int .i64 n, .string ⟨s.toArray⟩, .string ⟨t.toArray⟩, .slice la ln lc] 25 (0, 0)) →
      u.cell? ⟨w.heap.size, 1, none⟩ = some (.int .i64 h) ∧ u.cell? ⟨w.heap.size, 2, none⟩ = some (.int .i64 n) ∧ u.cell? ⟨w.heap.size, 3, none⟩ = some (.string ⟨s.toArray⟩) ∧ u.cell? ⟨w.heap.size, 4, none⟩ = some (.string ⟨t.toArray⟩) ∧ u.cell? ⟨w.heap.size, 5, none⟩ = some (.slice la ln lc) := by
    intro u hu
    refine ⟨?_, ?_, ?_, ?_, ?_⟩ <;> (rw [Lib.cell_of_heap hu]; rfl)
  have keep : ∀ u u' : World, KeepX u u' → u.heap[w.heap.size]? = some (.cells #[.int .i64 kind, .int .i64 h, .int .i64 n, .string ⟨s.toArray⟩, .string ⟨t.toArray⟩, .slice la ln lc] 25 (0, 0)) → u'.heap[w.heap.size]? = some (.cells #[.int .i64 kind, .int .i64 h, .int .i64 n, .string ⟨s.toArray⟩, .string ⟨t.toArray⟩, .slice la ln lc] 25 (0, 0)) := fun u u' hk hu => hk _ _ _ _ hu (by decide)
  have KP := hid keep
  have FD := hid fields
  have HOK := hid hok
  obtain ⟨d1, d2, d3, d4, d5⟩ := fields w1 hg1
  have HW1 := hid hw1
  clear keep fields hw1 hb1 hg1 hbB hj hlcell hok hln
  subst hk
  obtain ⟨A', hA'⟩ : ∃ A', A' = (copyA A h).2 := ⟨_, rfl⟩
  rw [show stepA ⟨2, h, n, s, t, l⟩ A = A' by rw [hA']; rfl]
  have HLEN := hid (show A'.length ≤ A.length + 1 by rw [hA']; exact copyA_len A h)
  obtain ⟨r, hr⟩ : ∃ r : Value, r = .tuple #[.int .i64 (copyA A h).1.1, .int .i64 (copyA A h).1.2] := ⟨_, rfl⟩
  have HPR := hid (show ∀ (u : World) (X : ShR), J2 B st st2 Q u A X → ML u → Below B w1 u → Calls Tryz.prog 66 #[.pointer (some ⟨st, 0, none⟩), .int .i64 h] u fun e u' => e = .returned r ∧ J2 B st st2 Q u' A' X ∧ Below B u u' ∧ KeepX u u' from fun u X hu HM hbu => by
    rw [hA', hr]
    exact hu.prog (fun v S h1 h3 => by have h9 := copyA_fn h1 h (by rw [shape_lenS h3]; omega); rw [h3] at h9; exact h9))
  have HRF := hid (show ∀ (u : World) (X : ShA), J2 B st st2 Q u X (AR A) → Below B w1 u → Calls Tryz.prog 67 #[.pointer (some ⟨st2, 0, none⟩), .int .i64 h] u fun e u' => e = .returned r ∧ J2 B st st2 Q u' X (AR A') ∧ Below B u u' ∧ KeepX u u' from fun u X hu hbu => by
    rw [hA', hr]
    exact hu.ref HFIT.out.short (fun v R h1 hl h3 => by have h9 := copyR_fn h1 h (by rw [shapeR_lenR h3, AR_len]; omega); rw [h3, ← (copy_rel A h).1, ← (copy_rel A h).2] at h9; exact h9))
  obtain ⟨z1, z2, rfl⟩ : ∃ z1 z2, r = .tuple #[.int .i64 z1, .int .i64 z2] := ⟨_, _, hr⟩
  clear hA' hr hfit
  go_enter Tryz.func38, Tryz.ntmps38
  go_wp2_with fail
  rw [← HW1.out]
  (with_reducible refine (HPR.out w1 _ J1.out M1.out (Below.refl _ _)).mono ?_); rintro e w2 ⟨rfl, hj2, hb2, hx2⟩
  have g2 := KP.out w1 w2 hx2 G1.out
  obtain ⟨e1, e2, e3, e4, e5⟩ := FD.out w2 g2
  have HR2 := hid (HRF.out w2 _ hj2 hb2)
  have HB2 := hid hb2
  have HX2 := hid hx2
  clear hj2 hb2 hx2 g2 c0 d1 d2 d3 d4 d5
  go_wp2_with fail
  (with_reducible refine HR2.out.mono ?_); rintro e w3 ⟨rfl, hj3, hb3, hx3⟩
  have QQ := hid (show PlayQ B st st2 Q w A A' w3 from ⟨hj3, HLEN.out, B1.out.trans (HB2.out.trans hb3), X1.out.trans (HX2.out.trans hx3)⟩)
  clear hj3 hb3 hx3
  go_wp2
  go_ret
  exact ⟨rfl, QQ.out⟩
set_option maxRecDepth 100000 in
set_option maxHeartbeats 4000000 in
theorem play4_fn (hj : J2 B st st2 Q w A (AR A)) (hml : ML w) (_ : 0 < B) (_ : A.length ≤ 1000) (a : ActD) (lv : Value) (hlv : StrsB B w lv a.l) (hok : a.ok) (hk : a.kind = 4) :
    Calls Tryz.prog 38 #[.pointer (some ⟨st, 0, none⟩), .pointer (some ⟨st2, 0, none⟩), .agg (a.cells lv)] w fun e w' => e = .returned (.bool true) ∧ PlayQ B st st2 Q w A (stepA a A) w' := by
  obtain ⟨kind, h, n, s, t, l⟩ := a
  obtain ⟨hs1, hs2, hok⟩ := hok
  dsimp only at hs1 hs2 hok hlv hk
  unfold ActD.cells
  dsimp only
  obtain ⟨la, lc, rfl, hlc, hlcell⟩ := hlv
  have HLV := hid (show StrsB B w (.slice la l.length lc) l from ⟨la, lc, rfl, hlc, hlcell⟩)
  obtain ⟨ln, hln⟩ : ∃ ln, ln = l.length := ⟨_, rfl⟩
  rw [← hln] at HLV ⊢
  have hmx : Tryz.prog.follows .mixedOrders = true := by kernel_rfl
  obtain ⟨w1, hw1⟩ : ∃ w1, w1 = w.alloc (.cells #[.int .i64 kind, .int .i64 h, .int .i64 n, .string ⟨s.toArray⟩, .string ⟨t.toArray⟩, .slice la ln lc] 25) := ⟨_, rfl⟩
  have hb1 : Below w.heap.size w w1 := by rw [hw1]; exact belowA _ _
  have hg1 : w1.heap[w.heap.size]? = some (.cells #[.int .i64 kind, .int .i64 h, .int .i64 n, .string ⟨s.toArray⟩, .string ⟨t.toArray⟩, .slice la ln lc] 25 (0, 0)) := by rw [hw1]; exact heap_alloc_new _ _
  have hBw := hj.low
  have hbB : Below B w w1 := hb1.mono hBw
  have J1 := hid (hj.on hb1)
  have M1 := hid (hml.below hb1)
  have L1 := hid (HLV.out.low hbB)
  have X1 := hid (KeepX.of hb1)
  have B1 := hid hbB
  have G1 := hid hg1
  have hfit := hj.fit
  have HFIT := hid hfit
  have c0 : w1.cell? ⟨w.heap.size, 0, none⟩ = some (.int .i64 kind) := by rw [Lib.cell_of_heap hg1]; rfl
  have fields : ∀ u : World, u.heap[w.heap.size]? = some (.cells #[.int .i64 kind, .int .i64 h, .int .i64 n, .string ⟨s.toArray⟩, .string ⟨t.toArray⟩, .slice la ln lc] 25 (0, 0)) →
      u.cell? ⟨w.heap.size, 1, none⟩ = some (.int .i64 h) ∧ u.cell? ⟨w.heap.size, 2, none⟩ = some (.int .i64 n) ∧ u.cell? ⟨w.heap.size, 3, none⟩ = some (.string ⟨s.toArray⟩) ∧ u.cell? ⟨w.heap.size, 4, none⟩ = some (.string ⟨t.toArray⟩) ∧ u.cell? ⟨w.heap.size, 5, none⟩ = some (.slice la ln lc) := by
    intro u hu
    refine ⟨?_, ?_, ?_, ?_, ?_⟩ <;> (rw [Lib.cell_of_heap hu]; rfl)
  have keep : ∀ u u' : World, KeepX u u' → u.heap[w.heap.size]? = some (.cells #[.int .i64 kind, .int .i64 h, .int .i64 n, .string ⟨s.toArray⟩, .string ⟨t.toArray⟩, .slice la ln lc] 25 (0, 0)) → u'.heap[w.heap.size]? = some (.cells #[.int .i64 kind, .int .i64 h, .int .i64 n, .string ⟨s.toArray⟩, .string ⟨t.toArray⟩, .slice la ln lc] 25 (0, 0)) := fun u u' hk hu => hk _ _ _ _ hu (by decide)
  have KP := hid keep
  have FD := hid fields
  have HOK := hid hok
  obtain ⟨d1, d2, d3, d4, d5⟩ := fields w1 hg1
  have HW1 := hid hw1
  clear keep fields hw1 hb1 hg1 hbB hj hlcell hok hln
  subst hk
  obtain ⟨A', hA'⟩ : ∃ A', A' = (elemA A h n).2 := ⟨_, rfl⟩
  rw [show stepA ⟨4, h, n, s, t, l⟩ A = A' by rw [hA']; rfl]
  have HLEN := hid (show A'.length ≤ A.length + 1 by rw [hA']; exact (by rw [elemA_len]; omega))
  obtain ⟨r, hr⟩ : ∃ r : Value, r = .tuple #[.string ⟨(elemA A h n).1.1.toArray⟩, .int .i64 (elemA A h n).1.2] := ⟨_, rfl⟩
  have HPR := hid (show ∀ (u : World) (X : ShR), J2 B st st2 Q u A X → ML u → Below B w1 u → Calls Tryz.prog 16 #[.pointer (some ⟨st, 0, none⟩), .int .i64 h, .int .i64 n] u fun e u' => e = .returned r ∧ J2 B st st2 Q u' A' X ∧ Below B u u' ∧ KeepX u u' from fun u X hu HM hbu => by
    rw [hA', hr]
    exact hu.prog (fun v S h1 h3 => by have h9 := elemA_fn h1 HM h n; rw [h3] at h9; exact h9))
  have HRF := hid (show ∀ (u : World) (X : ShA), J2 B st st2 Q u X (AR A) → Below B w1 u → Calls Tryz.prog 69 #[.pointer (some ⟨st2, 0, none⟩), .int .i64 h, .int .i64 n] u fun e u' => e = .returned r ∧ J2 B st st2 Q u' X (AR A') ∧ Below B u u' ∧ KeepX u u' from fun u X hu hbu => by
    rw [hA', hr]
    exact hu.ref HFIT.out.short (fun v R h1 hl h3 => by have h9 := elemR_fn h1 hl h n; rw [h3, ← (elem_rel HFIT.out h n).1, ← (elem_rel HFIT.out h n).2] at h9; exact h9))
  obtain ⟨q, z2, rfl⟩ : ∃ (q : Str) (z2 : Int), r = .tuple #[.string ⟨q.toArray⟩, .int .i64 z2] := ⟨_, _, hr⟩
  clear hA' hr hfit
  go_enter Tryz.func38, Tryz.ntmps38
  go_wp2_with fail
  rw [← HW1.out]
  (with_reducible refine (HPR.out w1 _ J1.out M1.out (Below.refl _ _)).mono ?_); rintro e w2 ⟨rfl, hj2, hb2, hx2⟩
  have g2 := KP.out w1 w2 hx2 G1.out
  obtain ⟨e1, e2, e3, e4, e5⟩ := FD.out w2 g2
  have HR2 := hid (HRF.out w2 _ hj2 hb2)
  have HB2 := hid hb2
  have HX2 := hid hx2
  clear hj2 hb2 hx2 g2 c0 d1 d2 d3 d4 d5
  go_wp2_with fail
  (with_reducible refine HR2.out.mono ?_); rintro e w3 ⟨rfl, hj3, hb3, hx3⟩
  have QQ := hid (show PlayQ B st st2 Q w A A' w3 from ⟨hj3, HLEN.out, B1.out.trans (HB2.out.trans hb3), X1.out.trans (HX2.out.trans hx3)⟩)
  clear hj3 hb3 hx3
  go_wp2
  go_ret
  exact ⟨rfl, QQ.out⟩
set_option maxRecDepth 100000 in
set_option maxHeartbeats 4000000 in
theorem play8_fn (hj : J2 B st st2 Q w A (AR A)) (hml : ML w) (_ : 0 < B) (hA : A.length ≤ 1000) (a : ActD) (lv : Value) (hlv : StrsB B w lv a.l) (hok : a.ok) (hk : a.kind = 8) :
    Calls Tryz.prog 38 #[.pointer (some ⟨st, 0, none⟩), .pointer (some ⟨st2, 0, none⟩), .agg (a.cells lv)] w fun e w' => e = .returned (.bool true) ∧ PlayQ B st st2 Q w A (stepA a A) w' := by
  obtain ⟨kind, h, n, s, t, l⟩ := a
  obtain ⟨hs1, hs2, hok⟩ := hok
  dsimp only at hs1 hs2 hok hlv hk
  unfold ActD.cells
  dsimp only
  obtain ⟨la, lc, rfl, hlc, hlcell⟩ := hlv
  have HLV := hid (show StrsB B w (.slice la l.length lc) l from ⟨la, lc, rfl, hlc, hlcell⟩)
  obtain ⟨ln, hln⟩ : ∃ ln, ln = l.length := ⟨_, rfl⟩
  rw [← hln] at HLV ⊢
  have hmx : Tryz.prog.follows .mixedOrders = true := by kernel_rfl
  obtain ⟨w1, hw1⟩ : ∃ w1, w1 = w.alloc (.cells #[.int .i64 kind, .int .i64 h, .int .i64 n, .string ⟨s.toArray⟩, .string ⟨t.toArray⟩, .slice la ln lc] 25) := ⟨_, rfl⟩
  have hb1 : Below w.heap.size w w1 := by rw [hw1]; exact belowA _ _
  have hg1 : w1.heap[w.heap.size]? = some (.cells #[.int .i64 kind, .int .i64 h, .int .i64 n, .string ⟨s.toArray⟩, .string ⟨t.toArray⟩, .slice la ln lc] 25 (0, 0)) := by rw [hw1]; exact heap_alloc_new _ _
  have hBw := hj.low
  have hbB : Below B w w1 := hb1.mono hBw
  have J1 := hid (hj.on hb1)
  have M1 := hid (hml.below hb1)
  have L1 := hid (HLV.out.low hbB)
  have X1 := hid (KeepX.of hb1)
  have B1 := hid hbB
  have G1 := hid hg1
  have hfit := hj.fit
  have HFIT := hid hfit
  have c0 : w1.cell? ⟨w.heap.size, 0, none⟩ = some (.int .i64 kind) := by rw [Lib.cell_of_heap hg1]; rfl
  have fields : ∀ u : World, u.heap[w.heap.size]? = some (.cells #[.int .i64 kind, .int .i64 h, .int .i64 n, .string ⟨s.toArray⟩, .string ⟨t.toArray⟩, .slice la ln lc] 25 (0, 0)) →
      u.cell? ⟨w.heap.size, 1, none⟩ = some (.int .i64 h) ∧ u.cell? ⟨w.heap.size, 2, none⟩ = some (.int .i64 n) ∧ u.cell? ⟨w.heap.size, 3, none⟩ = some (.string ⟨s.toArray⟩) ∧ u.cell? ⟨w.heap.size, 4, none⟩ = some (.string ⟨t.toArray⟩) ∧ u.cell? ⟨w.heap.size, 5, none⟩ = some (.slice la ln lc) := by
    intro u hu
    refine ⟨?_, ?_, ?_, ?_, ?_⟩ <;> (rw [Lib.cell_of_heap hu]; rfl)
  have keep : ∀ u u' : World, KeepX u u' → u.heap[w.heap.size]? = some (.cells #[.int .i64 kind, .int .i64 h, .int .i64 n, .string ⟨s.toArray⟩, .string ⟨t.toArray⟩, .slice la ln lc] 25 (0, 0)) → u'.heap[w.heap.size]? = some (.cells #[.int .i64 kind, .int .i64 h, .int .i64 n, .string ⟨s.toArray⟩, .string ⟨t.toArray⟩, .slice la ln lc] 25 (0, 0)) := fun u u' hk hu => hk _ _ _ _ hu (by decide)
  have KP := hid keep
  have FD := hid fields
  have HOK := hid hok
  obtain ⟨d1, d2, d3, d4, d5⟩ := fields w1 hg1
  have HW1 := hid hw1
  clear keep fields hw1 hb1 hg1 hbB hj hlcell hok hln
  subst hk
  have HPR := hid (show ∀ (u : World) (X : ShR), J2 B st st2 Q u A X → ML u → Calls Tryz.prog 37 #[.pointer (some ⟨st, 0, none⟩)] u fun e u' => e = .returned (.tuple #[]) ∧ J2 B st st2 Q u' (forgetA A) X ∧ Below B u u' ∧ KeepX u u' from fun u X hu HM =>
    hu.prog (fun v S h1 h3 => by have h9 := forgetA_fn h1 HM (by rw [shape_lenS h3]; omega); rw [h3] at h9; exact h9))
  have HRF := hid (show ∀ (u : World) (X : ShA), J2 B st st2 Q u X (AR A) → Calls Tryz.prog 76 #[.pointer (some ⟨st2, 0, none⟩)] u fun e u' => e = .returned (.tuple #[]) ∧ J2 B st st2 Q u' X (AR (forgetA A)) ∧ Below B u u' ∧ KeepX u u' from fun u X hu => by
    rw [forget_rel]
    exact hu.ref HFIT.out.short (fun v R h1 hl h3 => by have h9 := forgetR_fn h1 (by rw [shapeR_lenR h3, AR_len]; omega); rw [h3] at h9; exact h9))
  have HLEN := hid (show (forgetA A).length ≤ A.length + 1 by simp [forgetA])
  rw [show stepA ⟨8, h, n, s, t, l⟩ A = forgetA A from rfl]
  generalize forgetA A = A' at HPR HRF HLEN ⊢
  clear hfit
  go_enter Tryz.func38, Tryz.ntmps38
  go_wp2_with fail
  rw [← HW1.out]
  (with_reducible refine (HPR.out w1 _ J1.out M1.out).mono ?_); rintro e w2 ⟨rfl, hj2, hb2, hx2⟩
  have HR2 := hid (HRF.out w2 _ hj2)
  have HB2 := hid hb2
  have HX2 := hid hx2
  clear hj2 hb2 hx2 c0 d1 d2 d3 d4 d5
  go_wp2_with fail
  (with_reducible refine HR2.out.mono ?_); rintro e w3 ⟨rfl, hj3, hb3, hx3⟩
  have QQ := hid (show PlayQ B st st2 Q w A A' w3 from ⟨hj3, HLEN.out, B1.out.trans (HB2.out.trans hb3), X1.out.trans (HX2.out.trans hx3)⟩)
  clear hj3 hb3 hx3
  go_wp2
  go_ret
  exact ⟨rfl, QQ.out⟩
set_option maxRecDepth 100000 in
set_option maxHeartbeats 4000000 in
theorem playN_fn (hj : J2 B st st2 Q w A (AR A)) (hml : ML w) (_ : 0 < B) (_ : A.length ≤ 1000) (a : ActD) (lv : Value) (hlv : StrsB B w lv a.l) (hok : a.ok) (hk : a.kind ≠ 0 ∧ a.kind ≠ 1 ∧ a.kind ≠ 2 ∧ a.kind ≠ 3 ∧ a.kind ≠ 4 ∧ a.kind ≠ 5 ∧ a.kind ≠ 6 ∧ a.kind ≠ 7 ∧ a.kind ≠ 8) :
    Calls Tryz.prog 38 #[.pointer (some ⟨st, 0, none⟩), .pointer (some ⟨st2, 0, none⟩), .agg (a.cells lv)] w fun e w' => e = .returned (.bool true) ∧ PlayQ B st st2 Q w A (stepA a A) w' := by
  obtain ⟨kind, h, n, s, t, l⟩ := a
  obtain ⟨hs1, hs2, hok⟩ := hok
  dsimp only at hs1 hs2 hok hlv hk
  unfold ActD.cells
  dsimp only
  obtain ⟨la, lc, rfl, hlc, hlcell⟩ := hlv
  have HLV := hid (show StrsB B w (.slice la l.length lc) l from ⟨la, lc, rfl, hlc, hlcell⟩)
  obtain ⟨ln, hln⟩ : ∃ ln, ln = l.length := ⟨_, rfl⟩
  rw [← hln] at HLV ⊢
  have hmx : Tryz.prog.follows .mixedOrders = true := by kernel_rfl
  obtain ⟨w1, hw1⟩ : ∃ w1, w1 = w.alloc (.cells #[.int .i64 kind, .int .i64 h, .int .i64 n, .string ⟨s.toArray⟩, .string ⟨t.toArray⟩, .slice la ln lc] 25) := ⟨_, rfl⟩
  have hb1 : Below w.heap.size w w1 := by rw [hw1]; exact belowA _ _
  have hg1 : w1.heap[w.heap.size]? = some (.cells #[.int .i64 kind, .int .i64 h, .int .i64 n, .string ⟨s.toArray⟩, .string ⟨t.toArray⟩, .slice la ln lc] 25 (0, 0)) := by rw [hw1]; exact heap_alloc_new _ _
  have hBw := hj.low
  have hbB : Below B w w1 := hb1.mono hBw
  have J1 := hid (hj.on hb1)
  have M1 := hid (hml.below hb1)
  have L1 := hid (HLV.out.low hbB)
  have X1 := hid (KeepX.of hb1)
  have B1 := hid hbB
  have G1 := hid hg1
  have hfit := hj.fit
  have HFIT := hid hfit
  have c0 : w1.cell? ⟨w.heap.size, 0, none⟩ = some (.int .i64 kind) := by rw [Lib.cell_of_heap hg1]; rfl
  have fields : ∀ u : World, u.heap[w.heap.size]? = some (.cells #[.int .i64 kind, .int .i64 h, .int .i64 n, .string ⟨s.toArray⟩, .string ⟨t.toArray⟩, .slice la ln lc] 25 (0, 0)) →
      u.cell? ⟨w.heap.size, 1, none⟩ = some (.int .i64 h) ∧ u.cell? ⟨w.heap.size, 2, none⟩ = some (.int .i64 n) ∧ u.cell? ⟨w.heap.size, 3, none⟩ = some (.string ⟨s.toArray⟩) ∧ u.cell? ⟨w.heap.size, 4, none⟩ = some (.string ⟨t.toArray⟩) ∧ u.cell? ⟨w.heap.size, 5, none⟩ = some (.slice la ln lc) := by
    intro u hu
    refine ⟨?_, ?_, ?_, ?_, ?_⟩ <;> (rw [Lib.cell_of_heap hu]; rfl)
  have keep : ∀ u u' : World, KeepX u u' → u.heap[w.heap.size]? = some (.cells #[.int .i64 kind, .int .i64 h, .int .i64 n, .string ⟨s.toArray⟩, .string ⟨t.toArray⟩, .slice la ln lc] 25 (0, 0)) → u'.heap[w.heap.size]? = some (.cells #[.int .i64 kind, .int .i64 h, .int .i64 n, .string ⟨s.toArray⟩, .string ⟨t.toArray⟩, .slice la ln lc] 25 (0, 0)) := fun u u' hk hu => hk _ _ _ _ hu (by decide)
  have KP := hid keep
  have FD := hid fields
  have HOK := hid hok
  obtain ⟨d1, d2, d3, d4, d5⟩ := fields w1 hg1
  have HW1 := hid hw1
  clear keep fields hw1 hb1 hg1 hbB hj hlcell hok hln
  obtain ⟨k0, k1, k2, k3, k4, k5, k6, k7, k8⟩ := hk
  have e0 : (kind == 0) = false := by rw [beq_eq_false_iff_ne]; exact k0
  have e1 : (kind == 1) = false := by rw [beq_eq_false_iff_ne]; exact k1
  have e2 : (kind == 2) = false := by rw [beq_eq_false_iff_ne]; exact k2
  have e3 : (kind == 3) = false := by rw [beq_eq_false_iff_ne]; exact k3
  have e4 : (kind == 4) = false := by rw [beq_eq_false_iff_ne]; exact k4
  have e5 : (kind == 5) = false := by rw [beq_eq_false_iff_ne]; exact k5
  have e6 : (kind == 6) = false := by rw [beq_eq_false_iff_ne]; exact k6
  have e7 : (kind == 7) = false := by rw [beq_eq_false_iff_ne]; exact k7
  have e8 : (kind == 8) = false := by rw [beq_eq_false_iff_ne]; exact k8
  rw [show stepA ⟨kind, h, n, s, t, l⟩ A = A by unfold stepA; rw [if_neg k0, if_neg k1, if_neg k2, if_neg k3, if_neg k4, if_neg k5, if_neg k6, if_neg k7, if_neg k8]]
  have QQ := hid (show PlayQ B st st2 Q w A A w1 from ⟨J1.out, by omega, B1.out, X1.out⟩)
  clear hfit k0 k1 k2 k3 k4 k5 k6 k7 k8
  go_enter Tryz.func38, Tryz.ntmps38
  go_wp2
  rw [← HW1.out]
  go_ret
  exact ⟨rfl, QQ.out⟩
theorem play_fn (hj : J2 B st st2 Q w A (AR A)) (hml : ML w) (hmB : 0 < B) (hA : A.length ≤ 1000) (a : ActD) (lv : Value) (hlv : StrsB B w lv a.l) (hok : a.ok) :
    Calls Tryz.prog 38 #[.pointer (some ⟨st, 0, none⟩), .pointer (some ⟨st2, 0, none⟩), .agg (a.cells lv)] w fun e w' => e = .returned (.bool true) ∧ PlayQ B st st2 Q w A (stepA a A) w' := by
  by_cases h0 : a.kind = 0
  · exact play0_fn hj hml hmB hA a lv hlv hok h0
  by_cases h1 : a.kind = 1
  · exact play1_fn hj hml hmB hA a lv hlv hok h1
  by_cases h2 : a.kind = 2
  · exact play2_fn hj hml hmB hA a lv hlv hok h2
  by_cases h3 : a.kind = 3
  · exact play3_fn hj hml hmB hA a lv hlv hok h3
  by_cases h4 : a.kind = 4
  · exact play4_fn hj hml hmB hA a lv hlv hok h4
  by_cases h5 : a.kind = 5
  · exact play5_fn hj hml hmB hA a lv hlv hok h5
  by_cases h6 : a.kind = 6
  · exact play6_fn hj hml hmB hA a lv hlv hok h6
  by_cases h7 : a.kind = 7
  · exact play7_fn hj hml hmB hA a lv hlv hok h7
  by_cases h8 : a.kind = 8
  · exact play8_fn hj hml hmB hA a lv hlv hok h8
  exact playN_fn hj hml hmB hA a lv hlv hok ⟨h0, h1, h2, h3, h4, h5, h6, h7, h8⟩
end
end Go.Proofs.YtabhkoklcjhlpaaGreatDoor.Pz
