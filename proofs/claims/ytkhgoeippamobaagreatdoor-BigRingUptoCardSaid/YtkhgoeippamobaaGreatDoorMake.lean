/-
  A row that the call makes, and stores into it.
-/
import Derived.Test.YtkhgoeippamobaaGreatDoorOwn
namespace Go.Proofs.YtkhgoeippamobaaGreatDoor
open Go.RowKit
theorem Own.cell {ik : IntKind} {e : TypeId} {w : World} {base g n cap : Nat} {f : Nat → Nat} (h : Own ik e w base (.slice (some ⟨g, 0, none⟩) n cap) n f) (i : Nat) (hi : i < n) : w.cell? ⟨g, i, none⟩ = some (.int ik ((f i : Nat) : Int)) := by
  have := World.ownsRow.cellAt h i (by omega)
  rw [cellsK_get ik f n i hi] at this
  exact this
theorem Own.free {ik : IntKind} {e : TypeId} {w : World} {base g n cap : Nat} {f : Nat → Nat} (h : Own ik e w base (.slice (some ⟨g, 0, none⟩) n cap) n f) (i : Nat) : w.frozen? ⟨g, i, none⟩ = false := World.ownsRow.frozenAt h i
theorem Own.base_le {ik : IntKind} {e : TypeId} {w : World} {base g n cap : Nat} {f : Nat → Nat} (h : Own ik e w base (.slice (some ⟨g, 0, none⟩) n cap) n f) : base ≤ g := by
  obtain ⟨hl, ⟨hv, _⟩ | ⟨g', cap', cur, hv, hb, _⟩⟩ := h
  · simp at hv
  · simp only [Value.slice.injEq, Option.some.injEq, Addr.mk.injEq, and_true, true_and] at hv
    omega
theorem Own.lt {ik : IntKind} {e : TypeId} {w : World} {base g n cap : Nat} {f : Nat → Nat} (h : Own ik e w base (.slice (some ⟨g, 0, none⟩) n cap) n f) : g < w.heap.size := by
  obtain ⟨hl, ⟨hv, _⟩ | ⟨g', cap', cur, hv, hb, hh, _⟩⟩ := h
  · simp at hv
  · simp only [Value.slice.injEq, Option.some.injEq, Addr.mk.injEq, and_true, true_and] at hv
    rw [← hv.1] at hh
    exact (Array.getElem?_eq_some_iff.1 hh).1
theorem cellsK_set (ik : IntKind) (f : Nat → Nat) (n i x : Nat) : (cellsK ik f n).set i (.int ik ((x : Nat) : Int)) = cellsK ik (fun j => if j = i then x else f j) n := by
  apply List.ext_getElem?
  intro j
  by_cases hj : j < n
  · rw [cellsK_get _ _ _ _ hj, List.getElem?_set, cellsK_length]
    by_cases he : i = j
    · subst he; simp [hj]
    · have he' : ¬ j = i := fun h => he h.symm
      simp [he, he', cellsK_get ik f n j hj]
  · rw [List.getElem?_eq_none (by rw [List.length_set, cellsK_length]; omega), List.getElem?_eq_none (by rw [cellsK_length]; omega)]
theorem Own.store {ik : IntKind} {e : TypeId} {w : World} {base g n cap : Nat} {f : Nat → Nat} (h : Own ik e w base (.slice (some ⟨g, 0, none⟩) n cap) n f) (i x : Nat) : Own ik e (w.setCell ⟨g, i, none⟩ (.int ik ((x : Nat) : Int))) base (.slice (some ⟨g, 0, none⟩) n cap) n (fun j => if j = i then x else f j) := by
  have := (World.ownsRow.stored h i (.int ik ((x : Nat) : Int))).1
  rw [cellsK_set] at this
  exact this
/-- behind a store to another block -/
theorem Own.other {ik : IntKind} {e : TypeId} {w : World} {base g n cap : Nat} {f : Nat → Nat} (h : Own ik e w base (.slice (some ⟨g, 0, none⟩) n cap) n f) (a : Addr) (u : Value) (ha : a.block ≠ g) : Own ik e (w.setCell a u) base (.slice (some ⟨g, 0, none⟩) n cap) n f := by
  obtain ⟨hl, ⟨hv, h0⟩ | ⟨g', cap', cur, hv, hb, hh, hr⟩⟩ := h
  · exact ⟨hl, .inl ⟨hv, h0⟩⟩
  · have hv' := hv
    simp only [Value.slice.injEq, Option.some.injEq, Addr.mk.injEq, and_true, true_and] at hv'
    exact ⟨hl, .inr ⟨g', cap', cur, hv, hb, by rw [Below.heap_setCell _ _ _ _ (by omega)]; exact hh, hr⟩⟩
/-- behind steps that keep what lies below a number -/
theorem Own.keep {ik : IntKind} {e : TypeId} {w w' : World} {base B : Nat} {v : Value} {n : Nat} {f : Nat → Nat} (h : Own ik e w base v n f) (hb : Below B w w') (hB : w.heap.size ≤ B) : Own ik e w' base v n f := by
  obtain ⟨hl, ⟨hv, h0⟩ | ⟨g', cap', cur, hv, hg, hh, hr⟩⟩ := h
  · exact ⟨hl, .inl ⟨hv, h0⟩⟩
  · exact ⟨hl, .inr ⟨g', cap', cur, hv, hg, by rw [hb.block g' (by have := (Array.getElem?_eq_some_iff.1 hh).1; omega)]; exact hh, hr⟩⟩
theorem Own.len_eq {ik : IntKind} {e : TypeId} {w : World} {base n n' : Nat} {v : Value} {f g : Nat → Nat} (h : Own ik e w base v n f) (hn : n = n') (hf : f = g) : Own ik e w base v n' g := by
  subst hn; subst hf; exact h
theorem Own.keepAt {ik : IntKind} {e : TypeId} {w w' : World} {base B g n cap : Nat} {f : Nat → Nat} (h : Own ik e w base (.slice (some ⟨g, 0, none⟩) n cap) n f) (hb : Below B w w') (hB : g < B) : Own ik e w' base (.slice (some ⟨g, 0, none⟩) n cap) n f := by
  obtain ⟨hl, ⟨hv, h0⟩ | ⟨g', cap', cur, hv, hg, hh, hr⟩⟩ := h
  · exact ⟨hl, .inl ⟨hv, h0⟩⟩
  · have hv' := hv
    simp only [Value.slice.injEq, Option.some.injEq, Addr.mk.injEq, and_true, true_and] at hv'
    exact ⟨hl, .inr ⟨g', cap', cur, hv, hg, by rw [hb.block g' (by omega)]; exact hh, hr⟩⟩
theorem Own.addr {ik : IntKind} {e : TypeId} {w : World} {base n cap : Nat} {a : Option Addr} {f : Nat → Nat} (h : Own ik e w base (.slice a n cap) n f) (hn : 0 < n) : ∃ g, a = some ⟨g, 0, none⟩ := by
  obtain ⟨hl, ⟨hv, h0⟩ | ⟨g', cap', cur, hv, hg, hh, hr⟩⟩ := h
  · omega
  · simp only [Value.slice.injEq, true_and] at hv
    exact ⟨g', hv.1⟩
theorem cellsK_make (ik : IntKind) (n : Nat) : (madeCells (Value.int ik 0).cells (n * 1)).toList = cellsK ik (fun _ => 0) n := by
  have e : (Value.int ik 0).cells = #[.int ik 0] := rfl
  rw [e, toList_madeCells_one]
  apply List.ext_getElem?
  intro j
  by_cases hj : j < n
  · rw [cellsK_get _ _ _ _ hj]; simp [hj]
  · rw [List.getElem?_eq_none (by simp; omega), List.getElem?_eq_none (by rw [cellsK_length]; omega)]
section
variable {ops : Array Oper} {rest : List Oper} {o : Oper} {a : Act} {Q : Exit → Act → World → Prop}
/-- 'make(nat, n)' -/
theorem mk_u32 (w : World) (hgd : o.guard = none) (l c : Operand) (ho : o.op = Op.makeSlice 47 l c) (base n : Nat) (L C : Int) (hl : a.eval l = .int .i64 L) (hc : a.eval c = .int .i64 C) (hL : L = (n : Int)) (hC : C = (n : Int)) (hn : n ≤ 1000000000000) (hbase : base ≤ w.heap.size)
    (h : ∀ w', Own .u32 75 w' base (.slice (some ⟨w.heap.size, 0, none⟩) n n) n (fun _ => 0) → Below base w w' → w'.heap.size = w.heap.size + 1 → Below w.heap.size w w' → wpList Tryz.prog ops Q rest (a.put o.dst (.slice (some ⟨w.heap.size, 0, none⟩) n n)) w') :
    wpList Tryz.prog ops Q (o :: rest) a w := by
  obtain ⟨i0, hi, hz0, hz1, hz2⟩ := info_parts Tryz.info75
  subst hL
  subst hC
  have hm := run_make (P := Tryz.prog) w 47 75 i0 (.int .u32 0) Tryz.underlying47 hi hz0 .i64 .i64 n n (by omega) (by omega) (by rw [hz2]; omega) (by omega)
  refine wpList_plain hgd fun K hK' => ?_
  unfold Oper.wp
  simp only [Int.toNat_natCast] at hm
  simp [execOp, ho, hl, hc, hm, Result.andThen]
  refine hK' _ _ (h _ ?_ ?_ ?_ ?_)
  · have := World.ownsRow_lit (e := 75) (size := 1) w (madeCells (Value.int IntKind.u32 0).cells (n * 1)) n hbase (by unfold maxLen; omega) (size_madeCells _ _)
    unfold Own
    rw [← cellsK_make]
    rw [hz1]
    exact this
  · exact (Below.refl base w).alloc hbase _
  · simp
  · exact (Below.refl _ w).alloc (Nat.le_refl _) _
/-- 'make(nat, l, c)' -/
theorem mk2_u32 (w : World) (hgd : o.guard = none) (l c : Operand) (ho : o.op = Op.makeSlice 47 l c) (base n m : Nat) (L C : Int) (hl : a.eval l = .int .i64 L) (hc : a.eval c = .int .i64 C) (hL : L = (n : Int)) (hC : C = (m : Int)) (hnm : n ≤ m) (hn : m ≤ 1000000000000) (hbase : base ≤ w.heap.size)
    (h : ∀ w', Own .u32 75 w' base (.slice (some ⟨w.heap.size, 0, none⟩) n m) n (fun _ => 0) → Below base w w' → w'.heap.size = w.heap.size + 1 → Below w.heap.size w w' → wpList Tryz.prog ops Q rest (a.put o.dst (.slice (some ⟨w.heap.size, 0, none⟩) n m)) w') :
    wpList Tryz.prog ops Q (o :: rest) a w := by
  obtain ⟨i0, hi, hz0, hz1, hz2⟩ := info_parts Tryz.info75
  subst hL
  subst hC
  have hm := run_make (P := Tryz.prog) w 47 75 i0 (.int .u32 0) Tryz.underlying47 hi hz0 .i64 .i64 n m (by omega) (by omega) (by rw [hz2]; omega) (by omega)
  refine wpList_plain hgd fun K hK' => ?_
  unfold Oper.wp
  simp only [Int.toNat_natCast] at hm
  simp [execOp, ho, hl, hc, hm, Result.andThen]
  refine hK' _ _ (h _ ?_ ?_ ?_ ?_)
  · have := World.ownsRow_lit (e := 75) (size := 1) w (madeCells (Value.int IntKind.u32 0).cells (m * 1)) m hbase (by unfold maxLen; omega) (size_madeCells _ _)
    refine Own.cut (n := m) ?_ hnm
    unfold Own
    rw [← cellsK_make]
    rw [hz1]
    exact this
  · exact (Below.refl base w).alloc hbase _
  · simp
  · exact (Below.refl _ w).alloc (Nat.le_refl _) _
end
end Go.Proofs.YtkhgoeippamobaaGreatDoor
