/-
  Slices that a call has made itself: rows of digits, one element appended.
-/
import Derived.Test.YtkhgoeippamobaaGreatDoorRep
namespace Go.Proofs.YtkhgoeippamobaaGreatDoor
open Go.RowKit
/-- the cells of a row -/
def cellsK (ik : IntKind) (f : Nat → Nat) (n : Nat) : List Value := (List.range n).map fun i => .int ik ((f i : Nat) : Int)
theorem cellsK_length (ik : IntKind) (f : Nat → Nat) (n : Nat) : (cellsK ik f n).length = n := by simp [cellsK]
theorem cellsK_succ (ik : IntKind) (f : Nat → Nat) (n : Nat) : cellsK ik f (n + 1) = cellsK ik f n ++ [.int ik ((f n : Nat) : Int)] := by
  simp [cellsK, List.range_succ]
theorem cellsK_zero (ik : IntKind) (f : Nat → Nat) : cellsK ik f 0 = [] := rfl
theorem cellsK_get (ik : IntKind) (f : Nat → Nat) (n i : Nat) (h : i < n) : (cellsK ik f n)[i]? = some (.int ik ((f i : Nat) : Int)) := by
  simp [cellsK, h]
theorem cellsK_take (ik : IntKind) (f : Nat → Nat) (n k : Nat) (h : k ≤ n) : (cellsK ik f n).take k = cellsK ik f k := by
  apply List.ext_getElem?
  intro i
  rw [List.getElem?_take]
  by_cases hi : i < k
  · rw [if_pos hi, cellsK_get _ _ _ _ (by omega), cellsK_get _ _ _ _ hi]
  · rw [if_neg hi, List.getElem?_eq_none (by rw [cellsK_length]; omega)]
theorem cellsK_congr (ik : IntKind) (f g : Nat → Nat) (n : Nat) (h : ∀ i, i < n → f i = g i) : cellsK ik f n = cellsK ik g n := by
  simp only [cellsK]
  apply List.map_congr_left
  intro i hi
  rw [h i (List.mem_range.1 hi)]
/-- a slice of the call's own that holds a row -/
def Own (ik : IntKind) (e : TypeId) (w : World) (base : Nat) (v : Value) (n : Nat) (f : Nat → Nat) : Prop := w.ownsRow base e 1 v n (cellsK ik f n)
theorem Own.row {ik : IntKind} {e : TypeId} {w : World} {base : Nat} {v : Value} {n : Nat} {f : Nat → Nat} (h : Own ik e w base v n f) : Row ik w v n f := by
  have h0 : w.ownsRow base e 1 v n (cellsK ik f n) := h
  obtain ⟨hl, ⟨rfl, rfl⟩ | ⟨g, cap, cur, rfl, hb, hh, hc, hm, hs, ht⟩⟩ := h
  · exact ⟨none, 0, rfl, Nat.le_refl _, fun h => absurd h (by omega)⟩
  · refine ⟨some ⟨g, 0, none⟩, cap, rfl, hc, fun h => ⟨g, 0, rfl, (Array.getElem?_eq_some_iff.1 hh).1, fun i hi => ?_⟩⟩
    have := World.ownsRow.cellAt h0 i (by omega)
    rw [cellsK_get ik f n i hi] at this
    rw [Nat.zero_add]
    exact this
theorem Own.cut {ik : IntKind} {e : TypeId} {w : World} {base : Nat} {a : Option Addr} {n k cap : Nat} {f : Nat → Nat} (h : Own ik e w base (.slice a n cap) n f) (hk : k ≤ n) : Own ik e w base (.slice a k cap) k f := by
  obtain ⟨hl, ⟨hv, rfl⟩ | ⟨g, cap, cur, hv, hb, hh, hc, hm, hs, ht⟩⟩ := h
  · obtain rfl : k = 0 := by omega
    simp only [Value.slice.injEq] at hv
    obtain ⟨rfl, _, rfl⟩ := hv
    exact World.ownsRow_nil _ _ _ _
  · simp only [Value.slice.injEq] at hv
    obtain ⟨rfl, _, rfl⟩ := hv
    refine ⟨by rw [cellsK_length]; omega, .inr ⟨g, cap, cur, rfl, hb, hh, by omega, hm, hs, ?_⟩⟩
    rw [← cellsK_take ik f n k hk, ← ht, List.take_take]
    congr 1
    omega
theorem Own.mono {ik : IntKind} {e : TypeId} {w : World} {base base' : Nat} {v : Value} {n : Nat} {f : Nat → Nat} (h : Own ik e w base v n f) (hb : base' ≤ base) : Own ik e w base' v n f := by
  obtain ⟨hl, ⟨hv, h0⟩ | ⟨g, cap, cur, hv, hg, hr⟩⟩ := h
  · exact ⟨hl, .inl ⟨hv, h0⟩⟩
  · exact ⟨hl, .inr ⟨g, cap, cur, hv, Nat.le_trans hb hg, hr⟩⟩
theorem Own.congr {ik : IntKind} {e : TypeId} {w : World} {base : Nat} {v : Value} {n : Nat} {f g : Nat → Nat} (h : Own ik e w base v n f) (hf : ∀ i, i < n → f i = g i) : Own ik e w base v n g := by
  unfold Own; rw [← cellsK_congr ik f g n hf]; exact h
theorem Own.nil {ik : IntKind} {e : TypeId} {w : World} {base : Nat} {f : Nat → Nat} : Own ik e w base (.slice none 0 0) 0 f := World.ownsRow_nil _ _ _ _
theorem Own.shape {ik : IntKind} {e : TypeId} {w : World} {base : Nat} {v : Value} {n : Nat} {f : Nat → Nat} (h : Own ik e w base v n f) : ∃ a cap, v = .slice a n cap := by
  obtain ⟨a, cap, rfl, _⟩ := h.row
  exact ⟨a, cap, rfl⟩
/-- behind a new block -/
theorem Own.alloc {ik : IntKind} {e : TypeId} {w : World} {base : Nat} {v : Value} {n : Nat} {f : Nat → Nat} (h : Own ik e w base v n f) (o : Obj) : Own ik e (w.alloc o) base v n f := World.ownsRow.alloc h o
/-- behind a step that keeps what lies below a number: the row lies below it -/
theorem Row.keep {ik : IntKind} {w w' : World} {v : Value} {n : Nat} {f : Nat → Nat} (h : Row ik w v n f) (hb : Below w.heap.size w w') : Row ik w' v n f := h.below hb
theorem Tryz.info75 : (Tryz.prog.info? 75).map (fun i => (i.zero, i.size, i.bytes)) = some (some (.int .u32 0), 1, 4) := by kernel_rfl
theorem Tryz.info3 : (Tryz.prog.info? 3).map (fun i => (i.zero, i.size, i.bytes)) = some (some (.int .i64 0), 1, 8) := by kernel_rfl
section
variable {w : World} {ops : Array Oper} {rest : List Oper} {o : Oper} {a : Act} {Q : Exit → Act → World → Prop}
/-- 'append(s, x)', s a row of the call's own -/
theorem app_u32 (hgd : o.guard = none) (s x : Operand)
    (ho : o.op = .call { callee := .builtin .append, args := #[s, x], argTypes := #[47, 47] })
    (base : Nat) (v : Value) (n : Nat) (f : Nat → Nat) (hs : a.eval s = v) (hown : Own .u32 75 w base v n f)
    (X : Int) (hx : a.eval x = .slice (some ⟨w.heap.size, 0, none⟩) 1 1) (hX : X = ((f n : Nat) : Int)) (hn : n ≤ 1000000000000) (hbase : base ≤ w.heap.size)
    (h : ∀ v' w', Own .u32 75 w' base v' (n + 1) f → Below base w w' → wpList Tryz.prog ops Q rest (a.put o.dst v') w') :
    wpList Tryz.prog ops Q (o :: rest) a (w.alloc (.cells #[.int .u32 X] 75)) := by
  subst hX
  obtain ⟨i0, hi, hz0, hz1, hz2⟩ := info_parts Tryz.info75
  refine wpList_append_own _ hgd s x 47 ho base 75 i0 (.int .u32 0) 1 4 Tryz.underlying47 hi hz0 hz1 hz2 rfl (by decide) v n _ hs (World.ownsRow.alloc hown _)
    ⟨w.heap.size, 0, none⟩ 1 1 [.int .u32 ((f n : Nat) : Int)] hx rfl (cell_one_new _ _ _) (by intro u hu; simp at hu; subst hu; rfl) (by unfold maxLen; omega) (by omega) (by simp; omega) ?_
  intro v' w' hown' hgrow _
  refine h v' w' (by unfold Own; rw [cellsK_succ]; exact hown') ?_
  refine (((Below.refl base w).alloc hbase _).grown hgrow (by simp; omega) ?_)
  intro k hk
  obtain ⟨hl, ⟨hv, h0⟩ | ⟨g, cap, cur, hv, hg, hr⟩⟩ := hown
  · subst hv; cases hk
  · subst hv
    simp [Value.ownBlock] at hk
    omega
end
/-- a fresh canonical number -/
def Fresh (n : Nat) (w : World) (e : Ending) (w' : World) : Prop := ∃ v, e = .returned v ∧ Own .u32 75 w' w.heap.size v (nlen n) (D n) ∧ Below w.heap.size w w'
theorem trimmed_own {v : Value} {base n k : Nat} {w : World} (h : Own .u32 75 w base v k (D n)) (hk : k ≤ 1000000000) (hn : n < 2 ^ (32 * k)) :
    Calls Tryz.prog 119 #[v] w fun e w' => (∃ v', e = .returned v' ∧ Own .u32 75 w base v' (nlen n) (D n)) ∧ w = w' := by
  obtain ⟨a, cap, rfl⟩ := h.shape
  refine (trimmed_row h.row hk hn).mono ?_
  rintro e w' ⟨rfl, rfl⟩
  exact ⟨⟨_, rfl, h.cut ((nlen_le_iff n k).2 hn)⟩, rfl⟩
theorem Own.nat {w : World} {base : Nat} {v : Value} {n : Nat} (h : Own .u32 75 w base v (nlen n) (D n)) : NatRep w v n := h.row
end Go.Proofs.YtkhgoeippamobaaGreatDoor
