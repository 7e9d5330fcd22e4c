/-
  Part KJ of the proofs of this seat: contracts of functions and plain facts, merged from 1 texts.
-/
import Derived.Test.YtabhkoklcjhlpaaGreatDoorK0
import Derived.Test.YtabhkoklcjhlpaaGreatDoorK1
import Derived.Test.YtabhkoklcjhlpaaGreatDoorK2
import Derived.Test.YtabhkoklcjhlpaaGreatDoorK3
import Derived.Test.YtabhkoklcjhlpaaGreatDoorK4
import Derived.Test.YtabhkoklcjhlpaaGreatDoorK5
import Derived.Test.YtabhkoklcjhlpaaGreatDoorK6
import Derived.Test.YtabhkoklcjhlpaaGreatDoorK7
import Derived.Test.YtabhkoklcjhlpaaGreatDoorK8
import Derived.Test.YtabhkoklcjhlpaaGreatDoorK9
import Derived.Test.YtabhkoklcjhlpaaGreatDoorKA
import Derived.Test.YtabhkoklcjhlpaaGreatDoorKB
import Derived.Test.YtabhkoklcjhlpaaGreatDoorKC
import Derived.Test.YtabhkoklcjhlpaaGreatDoorKD
import Derived.Test.YtabhkoklcjhlpaaGreatDoorKE
import Derived.Test.YtabhkoklcjhlpaaGreatDoorKF
import Derived.Test.YtabhkoklcjhlpaaGreatDoorKG
import Derived.Test.YtabhkoklcjhlpaaGreatDoorKH
import Derived.Test.YtabhkoklcjhlpaaGreatDoorKI
/-
  The law's act walked.
-/
namespace Go.Proofs.YtabhkoklcjhlpaaGreatDoor.Pz
open Go.RowKit
/-- behind 'act': the first store has had it too; of the others no text is another -/
def ActQ (B stx sty st2 : Nat) (w : World) (X' A : ShA) (w' : World) : Prop := ∃ A2, J3 B stx sty st2 w' X' A2 (AR A2) ∧ txA A2 = txA A ∧ Below B w w' ∧ KeepX w w'
section
variable {B stx sty st2 : Nat} {w : World} {X A : ShA}
set_option maxRecDepth 100000 in
set_option maxHeartbeats 4000000 in
theorem act0_fn (hj : J3 B stx sty st2 w X A (AR A)) (hml : ML w) (hX : X.length ≤ 1000) (a : ActD) (lv : Value) (hlv : StrsB B w lv a.l) (hok : a.ok) (hk : a.kind = 0) :
    Calls Tryz.prog 39 #[.pointer (some ⟨stx, 0, none⟩), .pointer (some ⟨sty, 0, none⟩), .agg (a.cells lv)] w fun e w' => e = .returned (.bool true) ∧ ActQ B stx sty st2 w (stepA a X) A w' := by
  obtain ⟨kind, h, n, s, t, l⟩ := a
  obtain ⟨hs1, hs2, _⟩ := hok
  dsimp only at hs1 hs2
  dsimp only at hlv hk
  unfold ActD.cells
  dsimp only
  obtain ⟨la, lc, rfl, hlc, hlcell⟩ := hlv
  have HLV := hid (show StrsB B w (.slice la l.length lc) l from ⟨la, lc, rfl, hlc, hlcell⟩)
  obtain ⟨ln, hln⟩ : ∃ ln, ln = l.length := ⟨_, rfl⟩
  rw [← hln] at HLV ⊢
  obtain ⟨w1, hw1⟩ : ∃ w1, w1 = w.alloc (.cells #[.int .i64 kind, .int .i64 h, .int .i64 n, .string ⟨s.toArray⟩, .string ⟨t.toArray⟩, .slice la ln lc] 25) := ⟨_, rfl⟩
  have hb1 : Below w.heap.size w w1 := by rw [hw1]; exact belowA _ _
  have hg1 : w1.heap[w.heap.size]? = some (.cells #[.int .i64 kind, .int .i64 h, .int .i64 n, .string ⟨s.toArray⟩, .string ⟨t.toArray⟩, .slice la ln lc] 25 (0, 0)) := by rw [hw1]; exact heap_alloc_new _ _
  have hBw := hj.low
  have hbB : Below B w w1 := hb1.mono hBw
  have J1 := hid (hj.on hb1)
  have M1 := hid (hml.below hb1)
  have L1 := hid (HLV.out.low hbB)
  have X1 := hid (KeepX.of hb1)
  have B1 := hid hbB
  have G1 := hid hg1
  have c0 : w1.cell? ⟨w.heap.size, 0, none⟩ = some (.int .i64 kind) := by rw [Lib.cell_of_heap hg1]; rfl
  have fields : ∀ u : World, u.heap[w.heap.size]? = some (.cells #[.int .i64 kind, .int .i64 h, .int .i64 n, .string ⟨s.toArray⟩, .string ⟨t.toArray⟩, .slice la ln lc] 25 (0, 0)) →
      u.cell? ⟨w.heap.size, 1, none⟩ = some (.int .i64 h) ∧ u.cell? ⟨w.heap.size, 2, none⟩ = some (.int .i64 n) ∧ u.cell? ⟨w.heap.size, 3, none⟩ = some (.string ⟨s.toArray⟩) ∧ u.cell? ⟨w.heap.size, 4, none⟩ = some (.string ⟨t.toArray⟩) ∧ u.cell? ⟨w.heap.size, 5, none⟩ = some (.slice la ln lc) := by
    intro u hu
    refine ⟨?_, ?_, ?_, ?_, ?_⟩ <;> (rw [Lib.cell_of_heap hu]; rfl)
  have FD := hid fields
  have HW1 := hid hw1
  obtain ⟨d1, d2, d3, d4, d5⟩ := fields w1 hg1
  clear fields hw1 hb1 hbB hlcell hln
  subst hk
  rw [show stepA ⟨0, h, n, s, t, l⟩ X = X ++ [(s, .text)] from rfl]
  have HPR := hid (J1.out.progX (fun v S h1 h3 => by have h9 := addA_fn h1 s (by omega) (by rw [shape_lenS h3]; omega); rw [h3] at h9; exact h9))
  generalize X ++ [(s, .text)] = X' at HPR ⊢
  generalize (.int .i64 ((X.length : Nat) : Int) : Value) = r at HPR
  clear hj hml hX FD hg1
  go_enter Tryz.func39, Tryz.ntmps39
  go_wp2_with fail
  rw [← HW1.out]
  (with_reducible refine HPR.out.mono ?_); rintro e w2 ⟨rfl, hj2, hb2, hx2⟩
  have QQ := hid (show ActQ B stx sty st2 w X' A w2 from ⟨A, hj2, rfl, B1.out.trans hb2, X1.out.trans hx2⟩)
  clear hj2 hb2 hx2 c0 d1 d2 d3 d4 d5
  go_wp2
  go_ret
  exact ⟨rfl, QQ.out⟩
set_option maxRecDepth 100000 in
set_option maxHeartbeats 4000000 in
theorem act1_fn (hj : J3 B stx sty st2 w X A (AR A)) (hml : ML w) (hX : X.length ≤ 1000) (a : ActD) (lv : Value) (hlv : StrsB B w lv a.l) (hok : a.ok) (hk : a.kind = 1) :
    Calls Tryz.prog 39 #[.pointer (some ⟨stx, 0, none⟩), .pointer (some ⟨sty, 0, none⟩), .agg (a.cells lv)] w fun e w' => e = .returned (.bool true) ∧ ActQ B stx sty st2 w (stepA a X) A w' := by
  obtain ⟨kind, h, n, s, t, l⟩ := a
  obtain ⟨hs1, hs2, hok⟩ := hok
  dsimp only at hs1 hs2 hok
  have HOK := hid hok
  clear hok
  dsimp only at hlv hk
  unfold ActD.cells
  dsimp only
  obtain ⟨la, lc, rfl, hlc, hlcell⟩ := hlv
  have HLV := hid (show StrsB B w (.slice la l.length lc) l from ⟨la, lc, rfl, hlc, hlcell⟩)
  obtain ⟨ln, hln⟩ : ∃ ln, ln = l.length := ⟨_, rfl⟩
  rw [← hln] at HLV ⊢
  obtain ⟨w1, hw1⟩ : ∃ w1, w1 = w.alloc (.cells #[.int .i64 kind, .int .i64 h, .int .i64 n, .string ⟨s.toArray⟩, .string ⟨t.toArray⟩, .slice la ln lc] 25) := ⟨_, rfl⟩
  have hb1 : Below w.heap.size w w1 := by rw [hw1]; exact belowA _ _
  have hg1 : w1.heap[w.heap.size]? = some (.cells #[.int .i64 kind, .int .i64 h, .int .i64 n, .string ⟨s.toArray⟩, .string ⟨t.toArray⟩, .slice la ln lc] 25 (0, 0)) := by rw [hw1]; exact heap_alloc_new _ _
  have hBw := hj.low
  have hbB : Below B w w1 := hb1.mono hBw
  have J1 := hid (hj.on hb1)
  have M1 := hid (hml.below hb1)
  have L1 := hid (HLV.out.low hbB)
  have X1 := hid (KeepX.of hb1)
  have B1 := hid hbB
  have G1 := hid hg1
  have c0 : w1.cell? ⟨w.heap.size, 0, none⟩ = some (.int .i64 kind) := by rw [Lib.cell_of_heap hg1]; rfl
  have fields : ∀ u : World, u.heap[w.heap.size]? = some (.cells #[.int .i64 kind, .int .i64 h, .int .i64 n, .string ⟨s.toArray⟩, .string ⟨t.toArray⟩, .slice la ln lc] 25 (0, 0)) →
      u.cell? ⟨w.heap.size, 1, none⟩ = some (.int .i64 h) ∧ u.cell? ⟨w.heap.size, 2, none⟩ = some (.int .i64 n) ∧ u.cell? ⟨w.heap.size, 3, none⟩ = some (.string ⟨s.toArray⟩) ∧ u.cell? ⟨w.heap.size, 4, none⟩ = some (.string ⟨t.toArray⟩) ∧ u.cell? ⟨w.heap.size, 5, none⟩ = some (.slice la ln lc) := by
    intro u hu
    refine ⟨?_, ?_, ?_, ?_, ?_⟩ <;> (rw [Lib.cell_of_heap hu]; rfl)
  have FD := hid fields
  have HW1 := hid hw1
  obtain ⟨d1, d2, d3, d4, d5⟩ := fields w1 hg1
  clear fields hw1 hb1 hbB hlcell hln
  subst hk
  rw [show stepA ⟨1, h, n, s, t, l⟩ X = X ++ [(quotedL l, .list l)] from rfl]
  have HPR := hid (J1.out.progX (fun v S h1 h3 => by have h9 := makeA_fn h1 (L1.out.strs J1.out.low) M1.out HOK.out (by rw [shape_lenS h3]; omega); rw [h3] at h9; exact h9))
  generalize X ++ [(quotedL l, .list l)] = X' at HPR ⊢
  generalize (.tuple #[.int .i64 ((X.length : Nat) : Int), .int .i64 0] : Value) = r at HPR
  clear hj hml hX FD hg1
  go_enter Tryz.func39, Tryz.ntmps39
  go_wp2_with fail
  rw [← HW1.out]
  (with_reducible refine HPR.out.mono ?_); rintro e w2 ⟨rfl, hj2, hb2, hx2⟩
  have QQ := hid (show ActQ B stx sty st2 w X' A w2 from ⟨A, hj2, rfl, B1.out.trans hb2, X1.out.trans hx2⟩)
  clear hj2 hb2 hx2 c0 d1 d2 d3 d4 d5
  go_wp2
  go_ret
  exact ⟨rfl, QQ.out⟩
set_option maxRecDepth 100000 in
set_option maxHeartbeats 4000000 in
theorem act2_fn (hj : J3 B stx sty st2 w X A (AR A)) (hml : ML w) (hX : X.length ≤ 1000) (a : ActD) (lv : Value) (hlv : StrsB B w lv a.l) (hok : a.ok) (hk : a.kind = 2) :
    Calls Tryz.prog 39 #[.pointer (some ⟨stx, 0, none⟩), .pointer (some ⟨sty, 0, none⟩), .agg (a.cells lv)] w fun e w' => e = .returned (.bool true) ∧ ActQ B stx sty st2 w (stepA a X) A w' := by
  obtain ⟨kind, h, n, s, t, l⟩ := a
  obtain ⟨hs1, hs2, _⟩ := hok
  dsimp only at hs1 hs2
  dsimp only at hlv hk
  unfold ActD.cells
  dsimp only
  obtain ⟨la, lc, rfl, hlc, hlcell⟩ := hlv
  have HLV := hid (show StrsB B w (.slice la l.length lc) l from ⟨la, lc, rfl, hlc, hlcell⟩)
  obtain ⟨ln, hln⟩ : ∃ ln, ln = l.length := ⟨_, rfl⟩
  rw [← hln] at HLV ⊢
  obtain ⟨w1, hw1⟩ : ∃ w1, w1 = w.alloc (.cells #[.int .i64 kind, .int .i64 h, .int .i64 n, .string ⟨s.toArray⟩, .string ⟨t.toArray⟩, .slice la ln lc] 25) := ⟨_, rfl⟩
  have hb1 : Below w.heap.size w w1 := by rw [hw1]; exact belowA _ _
  have hg1 : w1.heap[w.heap.size]? = some (.cells #[.int .i64 kind, .int .i64 h, .int .i64 n, .string ⟨s.toArray⟩, .string ⟨t.toArray⟩, .slice la ln lc] 25 (0, 0)) := by rw [hw1]; exact heap_alloc_new _ _
  have hBw := hj.low
  have hbB : Below B w w1 := hb1.mono hBw
  have J1 := hid (hj.on hb1)
  have M1 := hid (hml.below hb1)
  have L1 := hid (HLV.out.low hbB)
  have X1 := hid (KeepX.of hb1)
  have B1 := hid hbB
  have G1 := hid hg1
  have c0 : w1.cell? ⟨w.heap.size, 0, none⟩ = some (.int .i64 kind) := by rw [Lib.cell_of_heap hg1]; rfl
  have fields : ∀ u : World, u.heap[w.heap.size]? = some (.cells #[.int .i64 kind, .int .i64 h, .int .i64 n, .string ⟨s.toArray⟩, .string ⟨t.toArray⟩, .slice la ln lc] 25 (0, 0)) →
      u.cell? ⟨w.heap.size, 1, none⟩ = some (.int .i64 h) ∧ u.cell? ⟨w.heap.size, 2, none⟩ = some (.int .i64 n) ∧ u.cell? ⟨w.heap.size, 3, none⟩ = some (.string ⟨s.toArray⟩) ∧ u.cell? ⟨w.heap.size, 4, none⟩ = some (.string ⟨t.toArray⟩) ∧ u.cell? ⟨w.heap.size, 5, none⟩ = some (.slice la ln lc) := by
    intro u hu
    refine ⟨?_, ?_, ?_, ?_, ?_⟩ <;> (rw [Lib.cell_of_heap hu]; rfl)
  have FD := hid fields
  have HW1 := hid hw1
  obtain ⟨d1, d2, d3, d4, d5⟩ := fields w1 hg1
  clear fields hw1 hb1 hbB hlcell hln
  subst hk
  rw [show stepA ⟨2, h, n, s, t, l⟩ X = (copyA X h).2 from rfl]
  have HPR := hid (J1.out.progX (fun v S h1 h3 => by have h9 := copyA_fn h1 h (by rw [shape_lenS h3]; omega); rw [h3] at h9; exact h9))
  generalize (copyA X h).2 = X' at HPR ⊢
  generalize (.tuple #[.int .i64 (copyA X h).1.1, .int .i64 (copyA X h).1.2] : Value) = r at HPR
  clear hj hml hX FD hg1
  go_enter Tryz.func39, Tryz.ntmps39
  go_wp2_with fail
  rw [← HW1.out]
  (with_reducible refine HPR.out.mono ?_); rintro e w2 ⟨rfl, hj2, hb2, hx2⟩
  have QQ := hid (show ActQ B stx sty st2 w X' A w2 from ⟨A, hj2, rfl, B1.out.trans hb2, X1.out.trans hx2⟩)
  clear hj2 hb2 hx2 c0 d1 d2 d3 d4 d5
  go_wp2
  go_ret
  exact ⟨rfl, QQ.out⟩
set_option maxRecDepth 100000 in
set_option maxHeartbeats 4000000 in
theorem act5_fn (hj : J3 B stx sty st2 w X A (AR A)) (hml : ML w) (hX : X.length ≤ 1000) (a : ActD) (lv : Value) (hlv : StrsB B w lv a.l) (hok : a.ok) (hk : a.kind = 5) :
    Calls Tryz.prog 39 #[.pointer (some ⟨stx, 0, none⟩), .pointer (some ⟨sty, 0, none⟩), .agg (a.cells lv)] w fun e w' => e = .returned (.bool true) ∧ ActQ B stx sty st2 w (stepA a X) A w' := by
  obtain ⟨kind, h, n, s, t, l⟩ := a
  obtain ⟨hs1, hs2, _⟩ := hok
  dsimp only at hs1 hs2
  dsimp only at hlv hk
  unfold ActD.cells
  dsimp only
  obtain ⟨la, lc, rfl, hlc, hlcell⟩ := hlv
  have HLV := hid (show StrsB B w (.slice la l.length lc) l from ⟨la, lc, rfl, hlc, hlcell⟩)
  obtain ⟨ln, hln⟩ : ∃ ln, ln = l.length := ⟨_, rfl⟩
  rw [← hln] at HLV ⊢
  obtain ⟨w1, hw1⟩ : ∃ w1, w1 = w.alloc (.cells #[.int .i64 kind, .int .i64 h, .int .i64 n, .string ⟨s.toArray⟩, .string ⟨t.toArray⟩, .slice la ln lc] 25) := ⟨_, rfl⟩
  have hb1 : Below w.heap.size w w1 := by rw [hw1]; exact belowA _ _
  have hg1 : w1.heap[w.heap.size]? = some (.cells #[.int .i64 kind, .int .i64 h, .int .i64 n, .string ⟨s.toArray⟩, .string ⟨t.toArray⟩, .slice la ln lc] 25 (0, 0)) := by rw [hw1]; exact heap_alloc_new _ _
  have hBw := hj.low
  have hbB : Below B w w1 := hb1.mono hBw
  have J1 := hid (hj.on hb1)
  have M1 := hid (hml.below hb1)
  have L1 := hid (HLV.out.low hbB)
  have X1 := hid (KeepX.of hb1)
  have B1 := hid hbB
  have G1 := hid hg1
  have c0 : w1.cell? ⟨w.heap.size, 0, none⟩ = some (.int .i64 kind) := by rw [Lib.cell_of_heap hg1]; rfl
  have fields : ∀ u : World, u.heap[w.heap.size]? = some (.cells #[.int .i64 kind, .int .i64 h, .int .i64 n, .string ⟨s.toArray⟩, .string ⟨t.toArray⟩, .slice la ln lc] 25 (0, 0)) →
      u.cell? ⟨w.heap.size, 1, none⟩ = some (.int .i64 h) ∧ u.cell? ⟨w.heap.size, 2, none⟩ = some (.int .i64 n) ∧ u.cell? ⟨w.heap.size, 3, none⟩ = some (.string ⟨s.toArray⟩) ∧ u.cell? ⟨w.heap.size, 4, none⟩ = some (.string ⟨t.toArray⟩) ∧ u.cell? ⟨w.heap.size, 5, none⟩ = some (.slice la ln lc) := by
    intro u hu
    refine ⟨?_, ?_, ?_, ?_, ?_⟩ <;> (rw [Lib.cell_of_heap hu]; rfl)
  have FD := hid fields
  have HW1 := hid hw1
  obtain ⟨d1, d2, d3, d4, d5⟩ := fields w1 hg1
  clear fields hw1 hb1 hbB hlcell hln
  subst hk
  rw [show stepA ⟨5, h, n, s, t, l⟩ X = (appendA X h s).2 from rfl]
  have HPR := hid (J1.out.progX (fun v S h1 h3 => by have h9 := appendA_fn h1 M1.out h s (by rw [shape_lenS h3]; omega) (by omega); rw [h3] at h9; exact h9))
  generalize (appendA X h s).2 = X' at HPR ⊢
  generalize (.int .i64 (appendA X h s).1 : Value) = r at HPR
  clear hj hml hX FD hg1
  go_enter Tryz.func39, Tryz.ntmps39
  go_wp2_with fail
  rw [← HW1.out]
  (with_reducible refine HPR.out.mono ?_); rintro e w2 ⟨rfl, hj2, hb2, hx2⟩
  have QQ := hid (show ActQ B stx sty st2 w X' A w2 from ⟨A, hj2, rfl, B1.out.trans hb2, X1.out.trans hx2⟩)
  clear hj2 hb2 hx2 c0 d1 d2 d3 d4 d5
  go_wp2
  go_ret
  exact ⟨rfl, QQ.out⟩
set_option maxRecDepth 100000 in
set_option maxHeartbeats 4000000 in
theorem act6_fn (hj : J3 B stx sty st2 w X A (AR A)) (hml : ML w) (hX : X.length ≤ 1000) (a : ActD) (lv : Value) (hlv : StrsB B w lv a.l) (hok : a.ok) (hk : a.kind = 6) :
    Calls Tryz.prog 39 #[.pointer (some ⟨stx, 0, none⟩), .pointer (some ⟨sty, 0, none⟩), .agg (a.cells lv)] w fun e w' => e = .returned (.bool true) ∧ ActQ B stx sty st2 w (stepA a X) A w' := by
  obtain ⟨kind, h, n, s, t, l⟩ := a
  obtain ⟨hs1, hs2, _⟩ := hok
  dsimp only at hs1 hs2
  dsimp only at hlv hk
  unfold ActD.cells
  dsimp only
  obtain ⟨la, lc, rfl, hlc, hlcell⟩ := hlv
  have HLV := hid (show StrsB B w (.slice la l.length lc) l from ⟨la, lc, rfl, hlc, hlcell⟩)
  obtain ⟨ln, hln⟩ : ∃ ln, ln = l.length := ⟨_, rfl⟩
  rw [← hln] at HLV ⊢
  obtain ⟨w1, hw1⟩ : ∃ w1, w1 = w.alloc (.cells #[.int .i64 kind, .int .i64 h, .int .i64 n, .string ⟨s.toArray⟩, .string ⟨t.toArray⟩, .slice la ln lc] 25) := ⟨_, rfl⟩
  have hb1 : Below w.heap.size w w1 := by rw [hw1]; exact belowA _ _
  have hg1 : w1.heap[w.heap.size]? = some (.cells #[.int .i64 kind, .int .i64 h, .int .i64 n, .string ⟨s.toArray⟩, .string ⟨t.toArray⟩, .slice la ln lc] 25 (0, 0)) := by rw [hw1]; exact heap_alloc_new _ _
  have hBw := hj.low
  have hbB : Below B w w1 := hb1.mono hBw
  have J1 := hid (hj.on hb1)
  have M1 := hid (hml.below hb1)
  have L1 := hid (HLV.out.low hbB)
  have X1 := hid (KeepX.of hb1)
  have B1 := hid hbB
  have G1 := hid hg1
  have c0 : w1.cell? ⟨w.heap.size, 0, none⟩ = some (.int .i64 kind) := by rw [Lib.cell_of_heap hg1]; rfl
  have fields : ∀ u : World, u.heap[w.heap.size]? = some (.cells #[.int .i64 kind, .int .i64 h, .int .i64 n, .string ⟨s.toArray⟩, .string ⟨t.toArray⟩, .slice la ln lc] 25 (0, 0)) →
      u.cell? ⟨w.heap.size, 1, none⟩ = some (.int .i64 h) ∧ u.cell? ⟨w.heap.size, 2, none⟩ = some (.int .i64 n) ∧ u.cell? ⟨w.heap.size, 3, none⟩ = some (.string ⟨s.toArray⟩) ∧ u.cell? ⟨w.heap.size, 4, none⟩ = some (.string ⟨t.toArray⟩) ∧ u.cell? ⟨w.heap.size, 5, none⟩ = some (.slice la ln lc) := by
    intro u hu
    refine ⟨?_, ?_, ?_, ?_, ?_⟩ <;> (rw [Lib.cell_of_heap hu]; rfl)
  have FD := hid fields
  have HW1 := hid hw1
  obtain ⟨d1, d2, d3, d4, d5⟩ := fields w1 hg1
  clear fields hw1 hb1 hbB hlcell hln
  subst hk
  rw [show stepA ⟨6, h, n, s, t, l⟩ X = (putA X h n s).2 from rfl]
  have HPR := hid (J1.out.progX (fun v S h1 h3 => by have h9 := putA_fn h1 M1.out h n s (by rw [shape_lenS h3]; omega) (by omega); rw [h3] at h9; exact h9))
  generalize (putA X h n s).2 = X' at HPR ⊢
  generalize (.int .i64 (putA X h n s).1 : Value) = r at HPR
  clear hj hml hX FD hg1
  go_enter Tryz.func39, Tryz.ntmps39
  go_wp2_with fail
  rw [← HW1.out]
  (with_reducible refine HPR.out.mono ?_); rintro e w2 ⟨rfl, hj2, hb2, hx2⟩
  have QQ := hid (show ActQ B stx sty st2 w X' A w2 from ⟨A, hj2, rfl, B1.out.trans hb2, X1.out.trans hx2⟩)
  clear hj2 hb2 hx2 c0 d1 d2 d3 d4 d5
  go_wp2
  go_ret
  exact ⟨rfl, QQ.out⟩
set_option maxRecDepth 100000 in
set_option maxHeartbeats 4000000 in
theorem act7_fn (hj : J3 B stx sty st2 w X A (AR A)) (hml : ML w) (hX : X.length ≤ 1000) (a : ActD) (lv : Value) (hlv : StrsB B w lv a.l) (hok : a.ok) (hk : a.kind = 7) :
    Calls Tryz.prog 39 #[.pointer (some ⟨stx, 0, none⟩), .pointer (some ⟨sty, 0, none⟩), .agg (a.cells lv)] w fun e w' => e = .returned (.bool true) ∧ ActQ B stx sty st2 w (stepA a X) A w' := by
  obtain ⟨kind, h, n, s, t, l⟩ := a
  obtain ⟨hs1, hs2, _⟩ := hok
  dsimp only at hs1 hs2
  dsimp only at hlv hk
  unfold ActD.cells
  dsimp only
  obtain ⟨la, lc, rfl, hlc, hlcell⟩ := hlv
  have HLV := hid (show StrsB B w (.slice la l.length lc) l from ⟨la, lc, rfl, hlc, hlcell⟩)
  obtain ⟨ln, hln⟩ : ∃ ln, ln = l.length := ⟨_, rfl⟩
  rw [← hln] at HLV ⊢
  obtain ⟨w1, hw1⟩ : ∃ w1, w1 = w.alloc (.cells #[.int .i64 kind, .int .i64 h, .int .i64 n, .string ⟨s.toArray⟩, .string ⟨t.toArray⟩, .slice la ln lc] 25) := ⟨_, rfl⟩
  have hb1 : Below w.heap.size w w1 := by rw [hw1]; exact belowA _ _
  have hg1 : w1.heap[w.heap.size]? = some (.cells #[.int .i64 kind, .int .i64 h, .int .i64 n, .string ⟨s.toArray⟩, .string ⟨t.toArray⟩, .slice la ln lc] 25 (0, 0)) := by rw [hw1]; exact heap_alloc_new _ _
  have hBw := hj.low
  have hbB : Below B w w1 := hb1.mono hBw
  have J1 := hid (hj.on hb1)
  have M1 := hid (hml.below hb1)
  have L1 := hid (HLV.out.low hbB)
  have X1 := hid (KeepX.of hb1)
  have B1 := hid hbB
  have G1 := hid hg1
  have c0 : w1.cell? ⟨w.heap.size, 0, none⟩ = some (.int .i64 kind) := by rw [Lib.cell_of_heap hg1]; rfl
  have fields : ∀ u : World, u.heap[w.heap.size]? = some (.cells #[.int .i64 kind, .int .i64 h, .int .i64 n, .string ⟨s.toArray⟩, .string ⟨t.toArray⟩, .slice la ln lc] 25 (0, 0)) →
      u.cell? ⟨w.heap.size, 1, none⟩ = some (.int .i64 h) ∧ u.cell? ⟨w.heap.size, 2, none⟩ = some (.int .i64 n) ∧ u.cell? ⟨w.heap.size, 3, none⟩ = some (.string ⟨s.toArray⟩) ∧ u.cell? ⟨w.heap.size, 4, none⟩ = some (.string ⟨t.toArray⟩) ∧ u.cell? ⟨w.heap.size, 5, none⟩ = some (.slice la ln lc) := by
    intro u hu
    refine ⟨?_, ?_, ?_, ?_, ?_⟩ <;> (rw [Lib.cell_of_heap hu]; rfl)
  have FD := hid fields
  have HW1 := hid hw1
  obtain ⟨d1, d2, d3, d4, d5⟩ := fields w1 hg1
  clear fields hw1 hb1 hbB hlcell hln
  subst hk
  rw [show stepA ⟨7, h, n, s, t, l⟩ X = (enterKeyA X h s t).2 from rfl]
  have HPR := hid (J1.out.progX (fun v S h1 h3 => by have h9 := enterKeyA_fn h1 M1.out h s t (by rw [shape_lenS h3]; omega) (by omega); rw [h3] at h9; exact h9))
  generalize (enterKeyA X h s t).2 = X' at HPR ⊢
  generalize (.int .i64 (enterKeyA X h s t).1 : Value) = r at HPR
  clear hj hml hX FD hg1
  go_enter Tryz.func39, Tryz.ntmps39
  go_wp2_with fail
  rw [← HW1.out]
  (with_reducible refine HPR.out.mono ?_); rintro e w2 ⟨rfl, hj2, hb2, hx2⟩
  have QQ := hid (show ActQ B stx sty st2 w X' A w2 from ⟨A, hj2, rfl, B1.out.trans hb2, X1.out.trans hx2⟩)
  clear hj2 hb2 hx2 c0 d1 d2 d3 d4 d5
  go_wp2
  go_ret
  exact ⟨rfl, QQ.out⟩
set_option maxRecDepth 100000 in
set_option maxHeartbeats 4000000 in
theorem act4_fn (hj : J3 B stx sty st2 w X A (AR A)) (hml : ML w) (hmB : 0 < B) (a : ActD) (lv : Value) (hlv : StrsB B w lv a.l) (hk : a.kind = 4) (htx : txA X = txA A) (hag : AR (elemA A a.h a.n).2 = AR A) :
    Calls Tryz.prog 39 #[.pointer (some ⟨stx, 0, none⟩), .pointer (some ⟨sty, 0, none⟩), .agg (a.cells lv)] w fun e w' => e = .returned (.bool true) ∧ ActQ B stx sty st2 w (stepA a X) A w' := by
  obtain ⟨kind, h, n, s, t, l⟩ := a
  dsimp only at hlv hk hag
  unfold ActD.cells
  dsimp only
  obtain ⟨la, lc, rfl, hlc, hlcell⟩ := hlv
  have HLV := hid (show StrsB B w (.slice la l.length lc) l from ⟨la, lc, rfl, hlc, hlcell⟩)
  obtain ⟨ln, hln⟩ : ∃ ln, ln = l.length := ⟨_, rfl⟩
  rw [← hln] at HLV ⊢
  obtain ⟨w1, hw1⟩ : ∃ w1, w1 = w.alloc (.cells #[.int .i64 kind, .int .i64 h, .int .i64 n, .string ⟨s.toArray⟩, .string ⟨t.toArray⟩, .slice la ln lc] 25) := ⟨_, rfl⟩
  have hb1 : Below w.heap.size w w1 := by rw [hw1]; exact belowA _ _
  have hg1 : w1.heap[w.heap.size]? = some (.cells #[.int .i64 kind, .int .i64 h, .int .i64 n, .string ⟨s.toArray⟩, .string ⟨t.toArray⟩, .slice la ln lc] 25 (0, 0)) := by rw [hw1]; exact heap_alloc_new _ _
  have hBw := hj.low
  have hbB : Below B w w1 := hb1.mono hBw
  have J1 := hid (hj.on hb1)
  have M1 := hid (hml.below hb1)
  have L1 := hid (HLV.out.low hbB)
  have X1 := hid (KeepX.of hb1)
  have B1 := hid hbB
  have G1 := hid hg1
  have c0 : w1.cell? ⟨w.heap.size, 0, none⟩ = some (.int .i64 kind) := by rw [Lib.cell_of_heap hg1]; rfl
  have fields : ∀ u : World, u.heap[w.heap.size]? = some (.cells #[.int .i64 kind, .int .i64 h, .int .i64 n, .string ⟨s.toArray⟩, .string ⟨t.toArray⟩, .slice la ln lc] 25 (0, 0)) →
      u.cell? ⟨w.heap.size, 1, none⟩ = some (.int .i64 h) ∧ u.cell? ⟨w.heap.size, 2, none⟩ = some (.int .i64 n) ∧ u.cell? ⟨w.heap.size, 3, none⟩ = some (.string ⟨s.toArray⟩) ∧ u.cell? ⟨w.heap.size, 4, none⟩ = some (.string ⟨t.toArray⟩) ∧ u.cell? ⟨w.heap.size, 5, none⟩ = some (.slice la ln lc) := by
    intro u hu
    refine ⟨?_, ?_, ?_, ?_, ?_⟩ <;> (rw [Lib.cell_of_heap hu]; rfl)
  have FD := hid fields
  have HW1 := hid hw1
  obtain ⟨d1, d2, d3, d4, d5⟩ := fields w1 hg1
  clear fields hw1 hb1 hbB hlcell hln
  subst hk
  rw [show stepA ⟨4, h, n, s, t, l⟩ X = (elemA X h n).2 from rfl]
  have hfx := J1.out.fitX
  have hfa := J1.out.fit
  have hsame : (elemA X h n).1 = (elemA A h n).1 := by rw [elem_txA hfx, elem_txA hfa, htx]
  have htx4 : txA (elemA A h n).2 = txA A := by rw [txA_AR, hag, ← txA_AR]
  have HTX := hid htx4
  have HPR := hid (show Calls Tryz.prog 16 #[.pointer (some ⟨stx, 0, none⟩), .int .i64 h, .int .i64 n] w1 fun e w' => e = .returned (.tuple #[.string ⟨(elemA A h n).1.1.toArray⟩, .int .i64 (elemA A h n).1.2]) ∧ J3 B stx sty st2 w' (elemA X h n).2 A (AR A) ∧ Below B w1 w' ∧ KeepX w1 w' from
    J1.out.progX (fun v S h1 h3 => by have h9 := elemA_fn h1 M1.out h n; rw [h3, hsame] at h9; exact h9))
  have HPY := hid (show ∀ (u : World) (Y : ShA), J3 B stx sty st2 u Y A (AR A) → ML u → Calls Tryz.prog 16 #[.pointer (some ⟨sty, 0, none⟩), .int .i64 h, .int .i64 n] u fun e u' => e = .returned (.tuple #[.string ⟨(elemA A h n).1.1.toArray⟩, .int .i64 (elemA A h n).1.2]) ∧ J3 B stx sty st2 u' Y (elemA A h n).2 (AR (elemA A h n).2) ∧ Below B u u' ∧ KeepX u u' from fun u Y hu hm => by
    rw [hag]
    exact hu.both fun Q hq => hq.prog (fun v S h1 h3 => by have h9 := elemA_fn h1 hm h n; rw [h3] at h9; exact h9))
  have KP := hid (show ∀ u' : World, KeepX w1 u' → u'.heap[w.heap.size]? = some (.cells #[.int .i64 4, .int .i64 h, .int .i64 n, .string ⟨s.toArray⟩, .string ⟨t.toArray⟩, .slice la ln lc] 25 (0, 0)) from fun u' hk => hk _ _ _ _ hg1 (by decide))
  generalize (elemA A h n).1 = r at HPR HPY
  generalize (elemA A h n).2 = A' at HPY HTX
  generalize (elemA X h n).2 = X' at HPR ⊢
  obtain ⟨q, z⟩ := r
  dsimp only at HPR HPY
  have HLT := hid (show ∀ u : World, Below B w1 u → ML u from fun u hb => M1.out.lowB hmB hb)
  clear hj hml hg1 hfx hfa hsame htx4 htx hag
  go_enter Tryz.func39, Tryz.ntmps39
  go_wp2_with fail
  rw [← HW1.out]
  (with_reducible refine HPR.out.mono ?_); rintro e w2 ⟨rfl, hj2, hb2, hx2⟩
  obtain ⟨e1, e2, e3, e4, e5⟩ := FD.out w2 (KP.out w2 hx2)
  have HPY2 := hid (HPY.out w2 _ hj2 (HLT.out w2 hb2))
  have HB2 := hid hb2
  have HX2 := hid hx2
  clear hj2 hb2 hx2 c0 d1 d2 d3 d4 d5
  go_wp2_with fail
  (with_reducible refine HPY2.out.mono ?_); rintro e w3 ⟨rfl, hj3, hb3, hx3⟩
  have QQ := hid (show ActQ B stx sty st2 w X' A w3 from ⟨A', hj3, HTX.out, B1.out.trans (HB2.out.trans hb3), X1.out.trans (HX2.out.trans hx3)⟩)
  clear hj3 hb3 hx3
  go_wp2
  go_ret
  exact ⟨rfl, QQ.out⟩
set_option maxRecDepth 100000 in
set_option maxHeartbeats 4000000 in
theorem actN_fn (hj : J3 B stx sty st2 w X A (AR A)) (hml : ML w) (a : ActD) (lv : Value) (hlv : StrsB B w lv a.l) (hk : a.kind ≠ 0 ∧ a.kind ≠ 1 ∧ a.kind ≠ 2 ∧ a.kind ≠ 3 ∧ a.kind ≠ 4 ∧ a.kind ≠ 5 ∧ a.kind ≠ 6 ∧ a.kind ≠ 7 ∧ a.kind ≠ 8) :
    Calls Tryz.prog 39 #[.pointer (some ⟨stx, 0, none⟩), .pointer (some ⟨sty, 0, none⟩), .agg (a.cells lv)] w fun e w' => e = .returned (.bool true) ∧ ActQ B stx sty st2 w (stepA a X) A w' := by
  obtain ⟨kind, h, n, s, t, l⟩ := a
  dsimp only at hlv hk
  unfold ActD.cells
  dsimp only
  obtain ⟨la, lc, rfl, hlc, hlcell⟩ := hlv
  have HLV := hid (show StrsB B w (.slice la l.length lc) l from ⟨la, lc, rfl, hlc, hlcell⟩)
  obtain ⟨ln, hln⟩ : ∃ ln, ln = l.length := ⟨_, rfl⟩
  rw [← hln] at HLV ⊢
  obtain ⟨w1, hw1⟩ : ∃ w1, w1 = w.alloc (.cells #[.int .i64 kind, .int .i64 h, .int .i64 n, .string ⟨s.toArray⟩, .string ⟨t.toArray⟩, .slice la ln lc] 25) := ⟨_, rfl⟩
  have hb1 : Below w.heap.size w w1 := by rw [hw1]; exact belowA _ _
  have hg1 : w1.heap[w.heap.size]? = some (.cells #[.int .i64 kind, .int .i64 h, .int .i64 n, .string ⟨s.toArray⟩, .string ⟨t.toArray⟩, .slice la ln lc] 25 (0, 0)) := by rw [hw1]; exact heap_alloc_new _ _
  have hBw := hj.low
  have hbB : Below B w w1 := hb1.mono hBw
  have J1 := hid (hj.on hb1)
  have M1 := hid (hml.below hb1)
  have L1 := hid (HLV.out.low hbB)
  have X1 := hid (KeepX.of hb1)
  have B1 := hid hbB
  have G1 := hid hg1
  have c0 : w1.cell? ⟨w.heap.size, 0, none⟩ = some (.int .i64 kind) := by rw [Lib.cell_of_heap hg1]; rfl
  have fields : ∀ u : World, u.heap[w.heap.size]? = some (.cells #[.int .i64 kind, .int .i64 h, .int .i64 n, .string ⟨s.toArray⟩, .string ⟨t.toArray⟩, .slice la ln lc] 25 (0, 0)) →
      u.cell? ⟨w.heap.size, 1, none⟩ = some (.int .i64 h) ∧ u.cell? ⟨w.heap.size, 2, none⟩ = some (.int .i64 n) ∧ u.cell? ⟨w.heap.size, 3, none⟩ = some (.string ⟨s.toArray⟩) ∧ u.cell? ⟨w.heap.size, 4, none⟩ = some (.string ⟨t.toArray⟩) ∧ u.cell? ⟨w.heap.size, 5, none⟩ = some (.slice la ln lc) := by
    intro u hu
    refine ⟨?_, ?_, ?_, ?_, ?_⟩ <;> (rw [Lib.cell_of_heap hu]; rfl)
  have FD := hid fields
  have HW1 := hid hw1
  obtain ⟨d1, d2, d3, d4, d5⟩ := fields w1 hg1
  clear fields hw1 hb1 hbB hlcell hln
  obtain ⟨k0, k1, k2, k3, k4, k5, k6, k7, k8⟩ := hk
  have e0 : (kind == 0) = false := by rw [beq_eq_false_iff_ne]; exact k0
  have e1 : (kind == 1) = false := by rw [beq_eq_false_iff_ne]; exact k1
  have e2 : (kind == 2) = false := by rw [beq_eq_false_iff_ne]; exact k2
  have e4 : (kind == 4) = false := by rw [beq_eq_false_iff_ne]; exact k4
  have e5 : (kind == 5) = false := by rw [beq_eq_false_iff_ne]; exact k5
  have e6 : (kind == 6) = false := by rw [beq_eq_false_iff_ne]; exact k6
  have e7 : (kind == 7) = false := by rw [beq_eq_false_iff_ne]; exact k7
  rw [show stepA ⟨kind, h, n, s, t, l⟩ X = X by unfold stepA; rw [if_neg k0, if_neg k1, if_neg k2, if_neg k3, if_neg k4, if_neg k5, if_neg k6, if_neg k7, if_neg k8]]
  have QQ := hid (show ActQ B stx sty st2 w X A w1 from ⟨A, J1.out, rfl, B1.out, X1.out⟩)
  clear hj hml FD hg1 k0 k1 k2 k3 k4 k5 k6 k7 k8
  go_enter Tryz.func39, Tryz.ntmps39
  go_wp2
  rw [← HW1.out]
  go_ret
  exact ⟨rfl, QQ.out⟩
theorem act_fn (hj : J3 B stx sty st2 w X A (AR A)) (hml : ML w) (hmB : 0 < B) (hX : X.length ≤ 1000) (a : ActD) (lv : Value) (hlv : StrsB B w lv a.l) (hok : a.ok) (h3 : a.kind ≠ 3) (h8 : a.kind ≠ 8) (htx : txA X = txA A ∨ a.kind ≠ 4) (hag : a.kind = 4 → AR (elemA A a.h a.n).2 = AR A) :
    Calls Tryz.prog 39 #[.pointer (some ⟨stx, 0, none⟩), .pointer (some ⟨sty, 0, none⟩), .agg (a.cells lv)] w fun e w' => e = .returned (.bool true) ∧ ActQ B stx sty st2 w (stepA a X) A w' := by
  by_cases h0 : a.kind = 0
  · exact act0_fn hj hml hX a lv hlv hok h0
  by_cases h1 : a.kind = 1
  · exact act1_fn hj hml hX a lv hlv hok h1
  by_cases h2 : a.kind = 2
  · exact act2_fn hj hml hX a lv hlv hok h2
  by_cases h5 : a.kind = 5
  · exact act5_fn hj hml hX a lv hlv hok h5
  by_cases h6 : a.kind = 6
  · exact act6_fn hj hml hX a lv hlv hok h6
  by_cases h7 : a.kind = 7
  · exact act7_fn hj hml hX a lv hlv hok h7
  by_cases h4 : a.kind = 4
  · exact act4_fn hj hml hmB a lv hlv h4 (htx.resolve_right fun h => h h4) (hag h4)
  exact actN_fn hj hml a lv hlv ⟨h0, h1, h2, h3, h4, h5, h6, h7, h8⟩
end
end Go.Proofs.YtabhkoklcjhlpaaGreatDoor.Pz
