/-
  Part K11 of the proofs of this seat: contracts of functions and plain facts, merged from 4 texts.
-/
import Derived.Deep.Cut
import Derived.Test.YtkgpmkkodpjdfaaGreatDoorK0
import Derived.Test.YtkgpmkkodpjdfaaGreatDoorK1
import Derived.Test.YtkgpmkkodpjdfaaGreatDoorK2
import Derived.Test.YtkgpmkkodpjdfaaGreatDoorK3
import Derived.Test.YtkgpmkkodpjdfaaGreatDoorK4
import Derived.Test.YtkgpmkkodpjdfaaGreatDoorK5
import Derived.Test.YtkgpmkkodpjdfaaGreatDoorK6
import Derived.Test.YtkgpmkkodpjdfaaGreatDoorK7
import Derived.Test.YtkgpmkkodpjdfaaGreatDoorK8
import Derived.Test.YtkgpmkkodpjdfaaGreatDoorK9
import Derived.Test.YtkgpmkkodpjdfaaGreatDoorK10
/-
  The reference 06: a script between brackets.
-/
namespace Go.Proofs.YtkgpmkkodpjdfaaGreatDoor.Pz
open Go.RowKit
theorem RrAt.deep {w : World} {rb : Nat} {s : Str} {d d' : Nat} {g : Told} {u : Value} (h : RrAt w rb s d g) (hu : u = .int .i64 (d' : Int)) : RrAt (w.setCell ⟨rb, 1, none⟩ u) rb s d' g := by
  subst hu
  unfold RrAt at *
  simp [World.setCell, Array.getElem?_modify, h]
theorem RrAt.told {w : World} {rb : Nat} {s : Str} {d : Nat} {g : Told} (h : RrAt w rb s d g) (a b c : Bool) : RrAt (((w.setCell ⟨rb, 2, none⟩ (.bool a)).setCell ⟨rb, 3, none⟩ (.bool b)).setCell ⟨rb, 4, none⟩ (.bool c)) rb s d ⟨a, b, c⟩ := by
  unfold RrAt at *
  simp [World.setCell, Array.getElem?_modify, h]
theorem RrAt.free {w : World} {rb : Nat} {s : Str} {d : Nat} {g : Told} (h : RrAt w rb s d g) (o : Nat) : w.frozen? ⟨rb, o, none⟩ = false := Lib.frozen_of_heap h o
set_option maxRecDepth 100000 in
set_option maxHeartbeats 4000000 in
theorem bracketR {d : Nat} {l : Str} (ih : CmdsRC true (d + 1) l) : ScriptRC d l := by
  intro w rb s i g hs hd h ha
  have hrb0 := h.lt
  have hil := ha.lt
  obtain ⟨c0, c1, c2, c3, c4⟩ := h.cells
  have z1 := h.free 1
  have z2 := h.free 2
  have z3 := h.free 3
  have z4 := h.free 4
  obtain ⟨N, hN⟩ : ∃ N, N = w.heap.size := ⟨_, rfl⟩
  obtain ⟨R, hR⟩ : ∃ R, R = script d l := ⟨_, rfl⟩
  rw [← hR]
  have HR := hid hR
  have HN := hid hN
  have HRR := hid h
  have HA := hid ha
  clear hR hN h ha
  by_cases hd100 : d = 100
  · subst hd100
    have hR2 : R = .halt .deep := by rw [HR.out, script]; rfl
    have hrr : RrAt (w.setCell ⟨rb, 1, none⟩ (.int .i64 (101 : Int))) rb s 101 g := HRR.out.deep rfl
    have hbu : But rb N w (w.setCell ⟨rb, 1, none⟩ (.int .i64 (101 : Int))) := (But.refl rb N w).setCell (.inl rfl) _
    have hnl : N ≤ (w.setCell ⟨rb, 1, none⟩ (.int .i64 (101 : Int))).heap.size := by rw [HN.out]; simp [World.setCell]
    have HRH := hid hrr
    have HBU := hid hbu
    have HNL := hid hnl
    have hszw : (w.setCell ⟨rb, 1, none⟩ (.int .i64 (101 : Int))).heap.size = w.heap.size := by simp [World.setCell]
    have HSZ := hid hszw
    clear hrr hbu hnl hszw
    have HR2 := hid hR2
    clear hR2
    go_enter Tryz.func65, Tryz.ntmps65
    go_wp2_with fail
    refine bodyPost_ret (results_tc (cs := #[.int .i64 4, .int .i64 0, .bool false]) (fr := (0, 0)) rfl _ rfl (by first | exact heap_alloc_new _ _ | (rw [← HSZ.out]; exact heap_alloc_new _ _)) Tryz.underlying63 rfl Tryz.infoF) rfl ?_
    rw [HR2.out]
    refine ⟨⟨0, rfl⟩, .inr (HRH.out.below (below1 _ _)), ?_⟩
    rw [← HN.out]
    exact HBU.out.alloc HNL.out _
  · have hdd : ¬ ((d : Int) + 1 > 100) := by omega
    obtain ⟨gs, gv, gc⟩ := g
    obtain ⟨X, hX⟩ : ∃ X, X = (((w.setCell ⟨rb, 1, none⟩ (.int .i64 ((d : Int) + 1))).setCell ⟨rb, 2, none⟩ (.bool true)).setCell ⟨rb, 3, none⟩ (.bool true)).setCell ⟨rb, 4, none⟩ (.bool true) := ⟨_, rfl⟩
    have hXs : X.heap.size = w.heap.size := by rw [hX]; simp [World.setCell]
    have hXr : RrAt X rb s (d + 1) all3 := by rw [hX]; exact (HRR.out.deep (by go_num)).told true true true
    have hXb : But rb N w X := by rw [hX]; exact ((((But.refl rb N w).setCell (.inl rfl) _).setCell (.inl rfl) _).setCell (.inl rfl) _).setCell (.inl rfl) _
    have hb2 := below2 X (.cells #[.int .i64 0, .int .i64 0, .bool false] 63) (.cells #[.bool gs, .bool gv, .bool gc] 22)
    have hnw := new2 X (.cells #[.int .i64 0, .int .i64 0, .bool false] 63) (.cells #[.bool gs, .bool gv, .bool gc] 22)
    have hcall : Calls Tryz.prog 76 #[.pointer (some ⟨rb, 0, none⟩), .int .i64 ((i : Int) + 1), .bool true] ((X.alloc (.cells #[.int .i64 0, .int .i64 0, .bool false] 63)).alloc (.cells #[.bool gs, .bool gv, .bool gc] 22)) _ :=
      ih _ rb s (i + 1) hs (by omega) (hXr.below hb2) HA.out.tail
    have hszW0 : ((X.alloc (.cells #[.int .i64 0, .int .i64 0, .bool false] 63)).alloc (.cells #[.bool gs, .bool gv, .bool gc] 22)).heap.size = N + 1 + 1 := by simp [hXs, HN.out]
    rw [hXs, ← HN.out] at hnw
    have hbW0 : But rb N w ((X.alloc (.cells #[.int .i64 0, .int .i64 0, .bool false] 63)).alloc (.cells #[.bool gs, .bool gv, .bool gc] 22)) := (hXb.alloc (by rw [hXs, HN.out]; exact Nat.le_refl _) _).alloc (by simp [hXs, HN.out]) _
    have hall : ∃ W0, W0 = ((X.alloc (.cells #[.int .i64 0, .int .i64 0, .bool false] 63)).alloc (.cells #[.bool gs, .bool gv, .bool gc] 22)) := ⟨_, rfl⟩
    obtain ⟨W0, hW0⟩ := hall
    rw [← hW0] at hcall hszW0 hnw hbW0
    rw [hX] at hW0
    have HNW := hid hnw
    have HBW := hid hbW0
    have HSW := hid hszW0
    have hNw : N + 1 + 1 = w.heap.size + 1 + 1 := by rw [HN.out]
    have hrbN : rb < N := by rw [HN.out]; exact hrb0
    have HNw := hid HN.out
    have HC := hid hcall
    have HW0 := hid hW0
    clear hcall hW0 hX hXs hXr hXb hb2 hnw hbW0 hszW0 hNw
    go_enter Tryz.func65, Tryz.ntmps65
    go_wp2_with fail
    rw [← HW0.out]
    (with_reducible refine HC.out.mono ?_); intro e W1 h1
    clear c0 c1 c2 c3 c4 z1 z2 z3 z4
    have fin : ∀ (dd : Nat) (W : World), RrAt W1 rb s dd all3 → But rb (N + 1 + 1) W0 W1 → True := fun _ _ _ _ => trivial
    cases hco : commands true (d + 1) l with
    | halt hh =>
      obtain ⟨E, A, O, hfc, hE0, hE8, hE1⟩ := faultC_shape s hh
      rw [hco] at h1
      obtain ⟨rfl, hrh, hbut⟩ := (show e = .returned (.tuple #[.slice none 0 0, .int .i64 0, .agg (faultC s hh)]) ∧ RrHalt W1 rb s (d + 1) all3 ∧ But rb W0.heap.size W0 W1 from h1)
      rw [HSW.out] at hbut
      have hR2 : R = .halt hh := by rw [HR.out, script, if_neg (by simpa [maxDeep] using hd100), hco]
      have hfl : W1.heap[N]? = some (.cells #[.int .i64 0, .int .i64 0, .bool false] 63 (0, 0)) := (hbut.block N (by omega) (by omega)).trans HNW.out.1
      have hto : W1.heap[N + 1]? = some (.cells #[.bool gs, .bool gv, .bool gc] 22 (0, 0)) := (hbut.block (N + 1) (by omega) (by omega)).trans HNW.out.2
      rw [HNw.out] at hfl hto
      obtain ⟨x0, x1, x2⟩ := flt_cells hfl
      obtain ⟨t0, t1, t2⟩ := flt_cells hto
      have y0 := Lib.frozen_of_heap hfl 0
      have y1 := Lib.frozen_of_heap hfl 1
      have y2 := Lib.frozen_of_heap hfl 2
      have hsz1 : w.heap.size + 1 + 1 ≤ W1.heap.size := by rw [← HNw.out]; have := hbut.size; rw [HSW.out] at this; exact this
      have hlt1 : w.heap.size + 1 < W1.heap.size := by omega
      have hlt0 : w.heap.size < W1.heap.size := by omega
      have hltr : rb < W1.heap.size := by omega
      have HR2 := hid hR2
      have HBT := hid hbut
      have HFL := hid hfl
      clear hR2 hbut hfl hto h1 hco
      rcases hrh with hrd | hrd
      · obtain ⟨c0, c1, c2, c3, c4⟩ := hrd.cells
        have z1 := hrd.free 1
        have z2 := hrd.free 2
        have z3 := hrd.free 3
        have z4 := hrd.free 4
        rw [hfc]
        go_wp2
        refine at_world fun W hW => ?_
        obtain ⟨Y, hY⟩ : ∃ Y, Y = (((W1.setCell ⟨rb, 2, none⟩ (.bool gs)).setCell ⟨rb, 3, none⟩ (.bool gv)).setCell ⟨rb, 4, none⟩ (.bool gc)).setCell ⟨rb, 1, none⟩ (.int .i64 (d : Int)) := ⟨_, rfl⟩
        rw [← hY] at hW
        have hYs : Y.heap.size = W1.heap.size := by rw [hY]; simp [World.setCell]
        have hYr : RrAt Y rb s (d) ⟨gs, gv, gc⟩ := by rw [hY]; exact (hrd.told gs gv gc).deep (by go_num)
        have hYb : But rb N w Y := by rw [hY]; exact ((((HBW.out.trans (HBT.out.mono (by omega))).setCell (.inl rfl) _).setCell (.inl rfl) _).setCell (.inl rfl) _).setCell (.inl rfl) _
        have hnr : N ≠ rb := by omega
        have hYf : Y.heap[N]? = some (.cells #[.int .i64 0, .int .i64 0, .bool false] 63 (0, 0)) := by
          rw [hY, Below.heap_setCell _ _ _ _ (fun e => hnr e), Below.heap_setCell _ _ _ _ (fun e => hnr e), Below.heap_setCell _ _ _ _ (fun e => hnr e), Below.heap_setCell _ _ _ _ (fun e => hnr e), HNw.out]
          exact HFL.out
        have hNY : N < Y.heap.size := by rw [hYs, HNw.out]; exact hlt0
        have hWf : W.heap[N]? = some (.cells #[.int .i64 0, .int .i64 0, .bool false] 63 (0, 0)) := by rw [hW]; exact ((below1 Y _).block N hNY).trans hYf
        rw [HNw.out] at hWf
        have hWl : W.heap[W1.heap.size]? = some (.cells #[.int .i64 E, .int .i64 A, .bool O] 63 (0, 0)) := by rw [hW, ← hYs]; exact heap_alloc_new _ _
        have hWr : RrAt W rb s (d) ⟨gs, gv, gc⟩ := by rw [hW]; exact hYr.below (below1 _ _)
        have hWb : But rb N w W := by rw [hW]; exact hYb.alloc (Nat.le_of_lt hNY) _
        clear c0 c1 c2 c3 c4 z1 z2 z3 z4 x0 x1 x2 t0 t1 t2 y0 y1 y2
        obtain ⟨x0, x1, x2⟩ := flt_cells hWf
        obtain ⟨l0, l1, l2⟩ := flt_cells hWl
        have y0 := Lib.frozen_of_heap hWf 0
        have y1 := Lib.frozen_of_heap hWf 1
        have y2 := Lib.frozen_of_heap hWf 2
        have HWF := hid hWf
        have HWR := hid hWr
        have HWB := hid hWb
        clear hW hY hYs hYr hYb hYf hNY hWf hWl hWr hWb hrd
        go_region
        go_wp2
        refine bodyPost_ret (results_tc rfl _ rfl (set3 HWF.out _ _ _) Tryz.underlying63 rfl Tryz.infoF) rfl ?_
        rw [HR2.out]
        refine ⟨⟨0, by rw [hfc]; rfl⟩, .inl (set_rd (by omega) HWR.out), ?_⟩
        rw [← HNw.out]
        exact (set_but HWB.out).drew
      · obtain ⟨c0, c1, c2, c3, c4⟩ := hrd.cells
        have z1 := hrd.free 1
        have z2 := hrd.free 2
        have z3 := hrd.free 3
        have z4 := hrd.free 4
        rw [hfc]
        go_wp2
        refine at_world fun W hW => ?_
        obtain ⟨Y, hY⟩ : ∃ Y, Y = (((W1.setCell ⟨rb, 2, none⟩ (.bool gs)).setCell ⟨rb, 3, none⟩ (.bool gv)).setCell ⟨rb, 4, none⟩ (.bool gc)).setCell ⟨rb, 1, none⟩ (.int .i64 ((d : Int) + 1)) := ⟨_, rfl⟩
        rw [← hY] at hW
        have hYs : Y.heap.size = W1.heap.size := by rw [hY]; simp [World.setCell]
        have hYr : RrAt Y rb s (d + 1) ⟨gs, gv, gc⟩ := by rw [hY]; exact (hrd.told gs gv gc).deep (by go_num)
        have hYb : But rb N w Y := by rw [hY]; exact ((((HBW.out.trans (HBT.out.mono (by omega))).setCell (.inl rfl) _).setCell (.inl rfl) _).setCell (.inl rfl) _).setCell (.inl rfl) _
        have hnr : N ≠ rb := by omega
        have hYf : Y.heap[N]? = some (.cells #[.int .i64 0, .int .i64 0, .bool false] 63 (0, 0)) := by
          rw [hY, Below.heap_setCell _ _ _ _ (fun e => hnr e), Below.heap_setCell _ _ _ _ (fun e => hnr e), Below.heap_setCell _ _ _ _ (fun e => hnr e), Below.heap_setCell _ _ _ _ (fun e => hnr e), HNw.out]
          exact HFL.out
        have hNY : N < Y.heap.size := by rw [hYs, HNw.out]; exact hlt0
        have hWf : W.heap[N]? = some (.cells #[.int .i64 0, .int .i64 0, .bool false] 63 (0, 0)) := by rw [hW]; exact ((below1 Y _).block N hNY).trans hYf
        rw [HNw.out] at hWf
        have hWl : W.heap[W1.heap.size]? = some (.cells #[.int .i64 E, .int .i64 A, .bool O] 63 (0, 0)) := by rw [hW, ← hYs]; exact heap_alloc_new _ _
        have hWr : RrAt W rb s (d + 1) ⟨gs, gv, gc⟩ := by rw [hW]; exact hYr.below (below1 _ _)
        have hWb : But rb N w W := by rw [hW]; exact hYb.alloc (Nat.le_of_lt hNY) _
        clear c0 c1 c2 c3 c4 z1 z2 z3 z4 x0 x1 x2 t0 t1 t2 y0 y1 y2
        obtain ⟨x0, x1, x2⟩ := flt_cells hWf
        obtain ⟨l0, l1, l2⟩ := flt_cells hWl
        have y0 := Lib.frozen_of_heap hWf 0
        have y1 := Lib.frozen_of_heap hWf 1
        have y2 := Lib.frozen_of_heap hWf 2
        have HWF := hid hWf
        have HWR := hid hWr
        have HWB := hid hWb
        clear hW hY hYs hYr hYb hYf hNY hWf hWl hWr hWb hrd
        go_region
        go_wp2
        refine bodyPost_ret (results_tc rfl _ rfl (set3 HWF.out _ _ _) Tryz.underlying63 rfl Tryz.infoF) rfl ?_
        rw [HR2.out]
        refine ⟨⟨0, by rw [hfc]; rfl⟩, .inr (set_rd (by omega) HWR.out), ?_⟩
        rw [← HNw.out]
        exact (set_but HWB.out).drew
    | ok cs r =>
      rw [hco] at h1
      obtain ⟨v, rfl, hrd, _, hbut⟩ := h1
      rw [HSW.out] at hbut
      have hfl : W1.heap[N]? = some (.cells #[.int .i64 0, .int .i64 0, .bool false] 63 (0, 0)) := (hbut.block N (by omega) (by omega)).trans HNW.out.1
      have hto : W1.heap[N + 1]? = some (.cells #[.bool gs, .bool gv, .bool gc] 22 (0, 0)) := (hbut.block (N + 1) (by omega) (by omega)).trans HNW.out.2
      rw [HNw.out] at hfl hto
      obtain ⟨x0, x1, x2⟩ := flt_cells hfl
      obtain ⟨t0, t1, t2⟩ := flt_cells hto
      have y0 := Lib.frozen_of_heap hfl 0
      have y1 := Lib.frozen_of_heap hfl 1
      have y2 := Lib.frozen_of_heap hfl 2
      have hsz1 : w.heap.size + 1 + 1 ≤ W1.heap.size := by rw [← HNw.out]; have := hbut.size; rw [HSW.out] at this; exact this
      have hlt1 : w.heap.size + 1 < W1.heap.size := by omega
      have hlt0 : w.heap.size < W1.heap.size := by omega
      have hltr : rb < W1.heap.size := by omega
      have hrs := (cmds_ok true (d + 1) l cs r hco)
      have HBT := hid hbut
      have HFL := hid hfl
      have hlen := HA.out.len
      simp only [List.length_cons] at hlen
      have hrl := hrs.1.length_le
      clear hbut hfl hto
      cases r with
      | nil =>
        have hR2 : R = .halt (.lacks (l.length + 1)) := by rw [HR.out, script, if_neg (by simpa [maxDeep] using hd100), hco]
        have HR2 := hid hR2
        clear hR2 hco hrs
        obtain ⟨c0, c1, c2, c3, c4⟩ := hrd.cells
        have z1 := hrd.free 1
        have z2 := hrd.free 2
        have z3 := hrd.free 3
        have z4 := hrd.free 4
        go_wp2
        refine at_world fun W hW => ?_
        obtain ⟨Y, hY⟩ : ∃ Y, Y = (((W1.setCell ⟨rb, 2, none⟩ (.bool gs)).setCell ⟨rb, 3, none⟩ (.bool gv)).setCell ⟨rb, 4, none⟩ (.bool gc)).setCell ⟨rb, 1, none⟩ (.int .i64 (d : Int)) := ⟨_, rfl⟩
        rw [← hY] at hW
        have hYs : Y.heap.size = W1.heap.size := by rw [hY]; simp [World.setCell]
        have hYr : RrAt Y rb s (d) ⟨gs, gv, gc⟩ := by rw [hY]; exact (hrd.told gs gv gc).deep (by go_num)
        have hYb : But rb N w Y := by rw [hY]; exact ((((HBW.out.trans (HBT.out.mono (by omega))).setCell (.inl rfl) _).setCell (.inl rfl) _).setCell (.inl rfl) _).setCell (.inl rfl) _
        have hnr : N ≠ rb := by omega
        have hYf : Y.heap[N]? = some (.cells #[.int .i64 0, .int .i64 0, .bool false] 63 (0, 0)) := by
          rw [hY, Below.heap_setCell _ _ _ _ (fun e => hnr e), Below.heap_setCell _ _ _ _ (fun e => hnr e), Below.heap_setCell _ _ _ _ (fun e => hnr e), Below.heap_setCell _ _ _ _ (fun e => hnr e), HNw.out]
          exact HFL.out
        have hNY : N < Y.heap.size := by rw [hYs, HNw.out]; exact hlt0
        have hWf : W.heap[N]? = some (.cells #[.int .i64 0, .int .i64 0, .bool false] 63 (0, 0)) := by rw [hW]; exact ((below1 Y _).block N hNY).trans hYf
        rw [HNw.out] at hWf
        have hWl : W.heap[W1.heap.size]? = some (.cells #[.int .i64 2, .int .i64 (i : Nat), .bool true] 63 (0, 0)) := by rw [hW, ← hYs]; exact heap_alloc_new _ _
        have hWr : RrAt W rb s (d) ⟨gs, gv, gc⟩ := by rw [hW]; exact hYr.below (below1 _ _)
        have hWb : But rb N w W := by rw [hW]; exact hYb.alloc (Nat.le_of_lt hNY) _
        clear c0 c1 c2 c3 c4 z1 z2 z3 z4 x0 x1 x2 t0 t1 t2 y0 y1 y2
        obtain ⟨x0, x1, x2⟩ := flt_cells hWf
        obtain ⟨l0, l1, l2⟩ := flt_cells hWl
        have y0 := Lib.frozen_of_heap hWf 0
        have y1 := Lib.frozen_of_heap hWf 1
        have y2 := Lib.frozen_of_heap hWf 2
        have HWF := hid hWf
        have HWR := hid hWr
        have HWB := hid hWb
        clear hW hY hYs hYr hYb hYf hNY hWf hWl hWr hWb hrd
        go_region
        go_wp2
        refine bodyPost_ret (results_tc rfl _ rfl (set3 HWF.out _ _ _) Tryz.underlying63 rfl Tryz.infoF) rfl ?_
        rw [HR2.out]
        refine ⟨⟨-1, ?_⟩, .inl (set_rd (by omega) HWR.out), ?_⟩
        · show Ending.returned (.tuple #[_, .agg #[.int .i64 2, .int .i64 (i : Nat), .bool true]]) = _
          rw [show i = s.length - (l.length + 1) by omega]
          rfl
        · rw [← HNw.out]
          exact (set_but HWB.out).drew
      | cons c r =>
        have hR2 : ∃ x, R = .ok x r := by
          refine ⟨l.take (l.length - (c :: r).length), ?_⟩
          rw [HR.out, script, if_neg (by simpa [maxDeep] using hd100), hco]
        obtain ⟨x, hR2⟩ := hR2
        have HR2 := hid hR2
        have hnn : ¬ (((s.length - (c :: r).length : Nat) : Int) < 0) := by omega
        obtain ⟨zz, hzz⟩ : ∃ zz, zz = s.length - (c :: r).length := ⟨_, rfl⟩
        have hze : s.length - r.length - 1 = zz := by rw [hzz]; simp; omega
        have HZ := hid hze
        rw [← hzz] at hnn
        clear hR2 hco hrs hze
        have hif : (if (c :: r).isEmpty = true then (-1 : Int) else ((s.length - (c :: r).length : Nat) : Int)) = (zz : Int) := by rw [← hzz]; rfl
        rw [hif]
        clear hif hzz
        obtain ⟨c0, c1, c2, c3, c4⟩ := hrd.cells
        have z1 := hrd.free 1
        have z2 := hrd.free 2
        have z3 := hrd.free 3
        have z4 := hrd.free 4
        go_wp2
        refine at_world fun W hW => ?_
        obtain ⟨Y, hY⟩ : ∃ Y, Y = (((W1.setCell ⟨rb, 2, none⟩ (.bool gs)).setCell ⟨rb, 3, none⟩ (.bool gv)).setCell ⟨rb, 4, none⟩ (.bool gc)).setCell ⟨rb, 1, none⟩ (.int .i64 (d : Int)) := ⟨_, rfl⟩
        rw [← hY] at hW
        have hYs : Y.heap.size = W1.heap.size := by rw [hY]; simp [World.setCell]
        have hYr : RrAt Y rb s (d) ⟨gs, gv, gc⟩ := by rw [hY]; exact (hrd.told gs gv gc).deep (by go_num)
        have hYb : But rb N w Y := by rw [hY]; exact ((((HBW.out.trans (HBT.out.mono (by omega))).setCell (.inl rfl) _).setCell (.inl rfl) _).setCell (.inl rfl) _).setCell (.inl rfl) _
        have hnr : N ≠ rb := by omega
        have hYf : Y.heap[N]? = some (.cells #[.int .i64 0, .int .i64 0, .bool false] 63 (0, 0)) := by
          rw [hY, Below.heap_setCell _ _ _ _ (fun e => hnr e), Below.heap_setCell _ _ _ _ (fun e => hnr e), Below.heap_setCell _ _ _ _ (fun e => hnr e), Below.heap_setCell _ _ _ _ (fun e => hnr e), HNw.out]
          exact HFL.out
        have hNY : N < Y.heap.size := by rw [hYs, HNw.out]; exact hlt0
        have hWf : W.heap[N]? = some (.cells #[.int .i64 0, .int .i64 0, .bool false] 63 (0, 0)) := by rw [hW]; exact ((below1 Y _).block N hNY).trans hYf
        rw [HNw.out] at hWf
        have hWl : W.heap[W1.heap.size]? = some (.cells #[.int .i64 0, .int .i64 0, .bool false] 63 (0, 0)) := by rw [hW, ← hYs]; exact heap_alloc_new _ _
        have hWr : RrAt W rb s (d) ⟨gs, gv, gc⟩ := by rw [hW]; exact hYr.below (below1 _ _)
        have hWb : But rb N w W := by rw [hW]; exact hYb.alloc (Nat.le_of_lt hNY) _
        clear c0 c1 c2 c3 c4 z1 z2 z3 z4 x0 x1 x2 t0 t1 t2 y0 y1 y2
        obtain ⟨x0, x1, x2⟩ := flt_cells hWf
        obtain ⟨l0, l1, l2⟩ := flt_cells hWl
        have y0 := Lib.frozen_of_heap hWf 0
        have y1 := Lib.frozen_of_heap hWf 1
        have y2 := Lib.frozen_of_heap hWf 2
        have HWF := hid hWf
        have HWR := hid hWr
        have HWB := hid hWb
        clear hW hY hYs hYr hYb hYf hNY hWf hWl hWr hWb hrd
        go_region
        go_wp2
        refine bodyPost_ret (results_tc rfl _ rfl (set3 HWF.out _ _ _) Tryz.underlying63 rfl Tryz.infoF) rfl ?_
        rw [HR2.out]
        refine ⟨?_, set_rd (by omega) HWR.out, ?_⟩
        · rw [HZ.out]
          rfl
        · rw [← HNw.out]
          exact (set_but HWB.out).drew
end Go.Proofs.YtkgpmkkodpjdfaaGreatDoor.Pz
/-
  The reference 06: a variable.
-/
namespace Go.Proofs.YtkgpmkkodpjdfaaGreatDoor.Pz
open Go.RowKit
theorem firstI_skip (n : Str) (f : Int) : ∀ (a b : Str) (k : Nat), ((k + a.length : Nat) : Int) ≤ f → firstI n f k (a ++ b) = firstI n f (k + a.length) b
  | [], b, k, _ => rfl
  | c :: a, b, k, h => by
    simp only [List.length_cons] at h
    rw [List.cons_append, firstI, decide_eq_false (by omega), Bool.false_and, if_neg (by simp), firstI_skip n f a b (k + 1) (by omega)]
    simp only [List.length_cons]
    rw [Nat.add_assoc, Nat.add_comm 1]
theorem firstI_upTo (f : Int) : ∀ (b : Str) (k : Nat), f ≤ (k : Int) → firstI [125] f k b = match upTo b with | some (x, _) => ((k + x.length : Nat) : Int) | none => -1
  | [], k, _ => rfl
  | c :: t, k, h => by
    have ih := firstI_upTo f t (k + 1) (by omega)
    rw [firstI, decide_eq_true h, Bool.true_and]
    have hp : ([125] : Str).isPrefixOf (c :: t) = (c == 125) := by
      simp only [List.isPrefixOf, Bool.and_true]
      by_cases hc : c = 125
      · subst hc; rfl
      · rw [show (c == 125) = false by simpa using hc]
        simpa using fun e => hc e.symm
    rw [hp]
    show _ = match (if c == 125 then some ([], t) else pre [c] (upTo t)) with | some (x, _) => ((k + x.length : Nat) : Int) | none => -1
    by_cases hc : (c == 125) = true
    · rw [if_pos hc, if_pos hc]
      simp
    · rw [if_neg hc, if_neg hc, ih]
      cases upTo t with
      | none => rfl
      | some y =>
        obtain ⟨x, r⟩ := y
        show ((k + 1 + x.length : Nat) : Int) = ((k + ([c] ++ x).length : Nat) : Int)
        simp
        omega
theorem first_brace {s l : Str} {i : Nat} (h : At s (36 :: 123 :: l) i) : firstI [125] ((i : Int) + 2) 0 s = match upTo l with | some (x, _) => ((i + 2 + x.length : Nat) : Int) | none => -1 := by
  have h2 := h.tail.tail
  have hlen := h2.len
  have hs : s = s.take (i + 1 + 1) ++ l := by rw [← h2.rest]; exact (List.take_append_drop _ _).symm
  have hl : (s.take (i + 1 + 1)).length = i + 2 := by rw [List.length_take]; omega
  have h3 := firstI_skip [125] ((i : Int) + 2) (s.take (i + 1 + 1)) l 0 (by rw [hl]; omega)
  rw [← hs, hl] at h3
  rw [h3, firstI_upTo _ _ _ (by omega)]
  simp
theorem set4h {w : World} {b : Nat} {a0 a1 a2 a3 : Value} {T : TypeId} (h : w.heap[b]? = some (.cells #[a0, a1, a2, a3] T (0, 0))) (x y z u : Value) :
    ((((w.setCell ⟨b, 0, none⟩ x).setCell ⟨b, 1, none⟩ y).setCell ⟨b, 2, none⟩ z).setCell ⟨b, 3, none⟩ u).heap[b]? = some (.cells #[x, y, z, u] T (0, 0)) := by
  simp [World.setCell, Array.getElem?_modify, h]
/-- the two results in memory -/
structure VB (rb N : Nat) (s : Str) (w W : World) (T : Array Value) : Prop where
  tok : W.heap[N]? = some (.cells T 33 (0, 0))
  flt : W.heap[N + 1]? = some (.cells #[.int .i64 0, .int .i64 0, .bool false] 63 (0, 0))
  but : But rb N w W
def zT : Array Value := #[.int .i64 0, .string ⟨#[]⟩, .bool false, .slice none 0 0]
theorem VB.size {rb N : Nat} {s : Str} {w W : World} {T : Array Value} (h : VB rb N s w W T) : N + 1 < W.heap.size := (Array.getElem?_eq_some_iff.1 h.flt).1
theorem VB.below {rb N : Nat} {s : Str} {w W W' : World} {T : Array Value} (h : VB rb N s w W T) (hb : Below W.heap.size W W') : VB rb N s w W' T := by
  have := h.size
  exact ⟨(hb.block N (by omega)).trans h.tok, (hb.block (N + 1) (by omega)).trans h.flt, h.but.trans (but_of_below (hb.mono (by omega)) rb)⟩
theorem VB.call {rb N : Nat} {s : Str} {w W W' : World} {T : Array Value} (h : VB rb N s w W T) (hrb : rb < N) (hb : But rb W.heap.size W W') : VB rb N s w W' T := by
  have := h.size
  exact ⟨(hb.block N (by omega) (by omega)).trans h.tok, (hb.block (N + 1) (by omega) (by omega)).trans h.flt, h.but.trans (hb.mono (by omega))⟩
theorem VB.drewN {rb N : Nat} {s : Str} {w W : World} {T : Array Value} (h : VB rb N s w W T) (n : Nat) : VB rb N s w (W.drewN n) T := ⟨h.tok, h.flt, h.but.drewN n⟩
theorem VB.facts {rb N : Nat} {s : Str} {w W : World} {a b c d : Value} (h : VB rb N s w W #[a, b, c, d]) : (W.cell? ⟨N, 0, none⟩ = some a ∧ W.cell? ⟨N, 1, none⟩ = some b ∧ W.cell? ⟨N, 2, none⟩ = some c ∧ W.cell? ⟨N, 3, none⟩ = some d) ∧
    (W.cell? ⟨N + 1, 0, none⟩ = some (.int .i64 0) ∧ W.cell? ⟨N + 1, 1, none⟩ = some (.int .i64 0) ∧ W.cell? ⟨N + 1, 2, none⟩ = some (.bool false)) ∧ ∀ o, W.frozen? ⟨N, o, none⟩ = false ∧ W.frozen? ⟨N + 1, o, none⟩ = false :=
  ⟨⟨by rw [Lib.cell_of_heap h.tok]; rfl, by rw [Lib.cell_of_heap h.tok]; rfl, by rw [Lib.cell_of_heap h.tok]; rfl, by rw [Lib.cell_of_heap h.tok]; rfl⟩, flt_cells h.flt, fun o => ⟨Lib.frozen_of_heap h.tok o, Lib.frozen_of_heap h.flt o⟩⟩
/-- both results are stored -/
theorem VB.put {rb N : Nat} {s : Str} {w W : World} {a b c d : Value} (h : VB rb N s w W #[a, b, c, d]) (hrb : rb < N) (x0 x1 x2 x3 y0 y1 y2 : Value) :
    let Y := ((((((W.setCell ⟨N, 0, none⟩ x0).setCell ⟨N, 1, none⟩ x1).setCell ⟨N, 2, none⟩ x2).setCell ⟨N, 3, none⟩ x3).setCell ⟨N + 1, 0, none⟩ y0).setCell ⟨N + 1, 1, none⟩ y1).setCell ⟨N + 1, 2, none⟩ y2
    Y.heap[N]? = some (.cells #[x0, x1, x2, x3] 33 (0, 0)) ∧ Y.heap[N + 1]? = some (.cells #[y0, y1, y2] 63 (0, 0)) ∧ But rb N w Y ∧ ∀ k, k ≠ N → k ≠ N + 1 → Y.heap[k]? = W.heap[k]? := by
  intro Y
  have hn : N ≠ N + 1 := by omega
  have hn' : N + 1 ≠ N := by omega
  have e1 : ((((W.setCell ⟨N, 0, none⟩ x0).setCell ⟨N, 1, none⟩ x1).setCell ⟨N, 2, none⟩ x2).setCell ⟨N, 3, none⟩ x3).heap[N + 1]? = some (.cells #[.int .i64 0, .int .i64 0, .bool false] 63 (0, 0)) := by
    rw [Below.heap_setCell _ _ _ _ (fun e => hn' e), Below.heap_setCell _ _ _ _ (fun e => hn' e), Below.heap_setCell _ _ _ _ (fun e => hn' e), Below.heap_setCell _ _ _ _ (fun e => hn' e)]
    exact h.flt
  refine ⟨?_, set3 e1 _ _ _, ?_, fun k h1 h2 => ?_⟩
  · rw [Below.heap_setCell _ _ _ _ (fun e => hn e), Below.heap_setCell _ _ _ _ (fun e => hn e), Below.heap_setCell _ _ _ _ (fun e => hn e)]
    exact set4h h.tok _ _ _ _
  · exact ((((((h.but.setCell (.inr (Nat.le_refl _)) _).setCell (.inr (Nat.le_refl _)) _).setCell (.inr (Nat.le_refl _)) _).setCell (.inr (Nat.le_refl _)) _).setCell (.inr (Nat.le_succ _)) _).setCell (.inr (Nat.le_succ _)) _).setCell (.inr (Nat.le_succ _)) _
  · rw [Below.heap_setCell _ _ _ _ (fun e => h2 e), Below.heap_setCell _ _ _ _ (fun e => h2 e), Below.heap_setCell _ _ _ _ (fun e => h2 e), Below.heap_setCell _ _ _ _ (fun e => h1 e), Below.heap_setCell _ _ _ _ (fun e => h1 e), Below.heap_setCell _ _ _ _ (fun e => h1 e), Below.heap_setCell _ _ _ _ (fun e => h1 e)]
end Go.Proofs.YtkgpmkkodpjdfaaGreatDoor.Pz
/-
  The reference 06: a variable: what its walks share.
-/
namespace Go.Proofs.YtkgpmkkodpjdfaaGreatDoor.Pz
open Go.RowKit
theorem ret_vii {v f : Value} {k : IntKind} {a b : Int} (h : a = b) : Ending.returned (.tuple #[v, .int k a, f]) = .returned (.tuple #[v, .int k b, f]) := by rw [h]
structure VK (rb N q : Nat) (s : Str) (d : Nat) (g : Told) (w : World) (x : Str) (b : Bool) (v : Value) (W : World) : Prop where
  rd : RrAt W rb s d g
  vb : VB rb N s w W #[.int .i64 0, .string ⟨#[]⟩, .bool false, .slice none 0 0]
  tk : W.heap[q]? = some (.cells #[.int .i64 2, .string ⟨x.toArray⟩, .bool b, v] 33 (0, 0))
theorem VK.qc {rb N q : Nat} {s : Str} {d : Nat} {g : Told} {w : World} {x : Str} {b : Bool} {v : Value} {W : World} (h : VK rb N q s d g w x b v W) : W.cell? ⟨q, 0, none⟩ = some (.int .i64 2) ∧ W.cell? ⟨q, 1, none⟩ = some (.string ⟨x.toArray⟩) ∧ W.cell? ⟨q, 2, none⟩ = some (.bool b) ∧ W.cell? ⟨q, 3, none⟩ = some v :=
  ⟨by rw [Lib.cell_of_heap h.tk]; rfl, by rw [Lib.cell_of_heap h.tk]; rfl, by rw [Lib.cell_of_heap h.tk]; rfl, by rw [Lib.cell_of_heap h.tk]; rfl⟩
theorem VK.below {rb N q : Nat} {s : Str} {d : Nat} {g : Told} {w : World} {x : Str} {b : Bool} {v : Value} {W W' : World} (h : VK rb N q s d g w x b v W) (hb : Below W.heap.size W W') : VK rb N q s d g w x b v W' :=
  ⟨h.rd.below hb, h.vb.below hb, (hb.block q (Array.getElem?_eq_some_iff.1 h.tk).1).trans h.tk⟩
theorem VB.setrb {rb N : Nat} {s : Str} {w W : World} {T : Array Value} (h : VB rb N s w W T) (hrb : rb < N) (u : Value) : VB rb N s w (W.setCell ⟨rb, 1, none⟩ u) T := by
  have h1 : N ≠ rb := by omega
  have h2 : N + 1 ≠ rb := by omega
  exact ⟨(Below.heap_setCell _ _ _ _ (fun e => h1 e)).trans h.tok, (Below.heap_setCell _ _ _ _ (fun e => h2 e)).trans h.flt, h.but.setCell (.inl rfl) _⟩
theorem VK.setrb {rb N q : Nat} {s : Str} {d d' : Nat} {g : Told} {w : World} {x : Str} {b : Bool} {v : Value} {W : World} (h : VK rb N q s d g w x b v W) (hrb : rb < N) (u : Value) (hu : u = .int .i64 (d' : Int)) : VK rb N q s d' g w x b v (W.setCell ⟨rb, 1, none⟩ u) := by
  have h1 : q ≠ rb := cells_ne h.tk h.rd (by decide)
  exact ⟨h.rd.deep hu, h.vb.setrb hrb u, (Below.heap_setCell _ _ _ _ (fun e => h1 e)).trans h.tk⟩
theorem VK.drew {rb N q : Nat} {s : Str} {d : Nat} {g : Told} {w : World} {x : Str} {b : Bool} {v : Value} {W : World} (h : VK rb N q s d g w x b v W) : VK rb N q s d g w x b v W.drew := ⟨h.rd, h.vb.drewN 1, h.tk⟩
end Go.Proofs.YtkgpmkkodpjdfaaGreatDoor.Pz
/-
  The reference 06: a variable with an index: what its walk shares.
-/
namespace Go.Proofs.YtkgpmkkodpjdfaaGreatDoor.Pz
open Go.RowKit
theorem set4_2 {w : World} {b : Nat} {a0 a1 a2 a3 : Value} {T : TypeId} (h : w.heap[b]? = some (.cells #[a0, a1, a2, a3] T (0, 0))) (x : Value) : (w.setCell ⟨b, 2, none⟩ x).heap[b]? = some (.cells #[a0, a1, x, a3] T (0, 0)) := by
  simp [World.setCell, Array.getElem?_modify, h]
theorem set4_3 {w : World} {b : Nat} {a0 a1 a2 a3 : Value} {T : TypeId} (h : w.heap[b]? = some (.cells #[a0, a1, a2, a3] T (0, 0))) (x : Value) : (w.setCell ⟨b, 3, none⟩ x).heap[b]? = some (.cells #[a0, a1, a2, x] T (0, 0)) := by
  simp [World.setCell, Array.getElem?_modify, h]
theorem VB.setq {rb N q : Nat} {s : Str} {w W : World} {T : Array Value} (h : VB rb N s w W T) (hq : N + 1 < q) (o : Nat) (u : Value) : VB rb N s w (W.setCell ⟨q, o, none⟩ u) T := by
  have h1 : N ≠ q := by omega
  have h2 : N + 1 ≠ q := by omega
  exact ⟨(Below.heap_setCell _ _ _ _ (fun e => h1 e)).trans h.tok, (Below.heap_setCell _ _ _ _ (fun e => h2 e)).trans h.flt, h.but.setCell (.inr (show N ≤ q by omega)) _⟩
theorem VK.setq2 {rb N q : Nat} {s : Str} {d : Nat} {g : Told} {w : World} {x : Str} {b b' : Bool} {v : Value} {W : World} (h : VK rb N q s d g w x b v W) (hq : N + 1 < q) : VK rb N q s d g w x b' v (W.setCell ⟨q, 2, none⟩ (.bool b')) := by
  have h1 : rb ≠ q := (cells_ne h.tk h.rd (by decide)).symm
  exact ⟨(Below.heap_setCell _ _ _ _ (fun e => h1 e)).trans h.rd, h.vb.setq hq _ _, set4_2 h.tk _⟩
theorem VK.setq3 {rb N q : Nat} {s : Str} {d : Nat} {g : Told} {w : World} {x : Str} {b : Bool} {v v' : Value} {W : World} (h : VK rb N q s d g w x b v W) (hq : N + 1 < q) : VK rb N q s d g w x b v' (W.setCell ⟨q, 3, none⟩ v') := by
  have h1 : rb ≠ q := (cells_ne h.tk h.rd (by decide)).symm
  exact ⟨(Below.heap_setCell _ _ _ _ (fun e => h1 e)).trans h.rd, h.vb.setq hq _ _, set4_3 h.tk _⟩
end Go.Proofs.YtkgpmkkodpjdfaaGreatDoor.Pz
