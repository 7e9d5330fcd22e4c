/-
  The reference: decimal digits.
-/
import Derived.Test.YtkhgoeippamobaaGreatDoorRefB
namespace Go.Proofs.YtkhgoeippamobaaGreatDoor
open Go.RowKit
theorem Tryz.infoInt : (Tryz.prog.info? 3).map (fun i => (i.zero, i.size, i.bytes)) = some (some (.int .i64 0), 1, 8) := by kernel_rfl
/-- a number as the reference's nat: its decimal digits -/
def DecRep (w : World) (v : Value) (n : Nat) : Prop := Row .i64 w v (dlen 10 n) (dgt 10 n)
def OwnDec (w : World) (base : Nat) (v : Value) (n : Nat) : Prop := Own .i64 3 w base v (dlen 10 n) (dgt 10 n)
theorem DecRep.below {w w' : World} {v : Value} {n : Nat} (h : DecRep w v n) (hb : Below w.heap.size w w') : DecRep w' v n := Row.below h hb
theorem OwnDec.dec {w : World} {base : Nat} {v : Value} {n : Nat} (h : OwnDec w base v n) : DecRep w v n := Own.row h
theorem DecRep.shape {w : World} {v : Value} {n : Nat} (h : DecRep w v n) : ∃ a cap, v = .slice a (dlen 10 n) cap := by
  obtain ⟨a, cap, rfl, _⟩ := h
  exact ⟨a, cap, rfl⟩
section
variable {w : World} {ops : Array Oper} {rest : List Oper} {o : Oper} {a : Act} {Q : Exit → Act → World → Prop}
/-- 'append(s, x)', s a row of ints of the call's own -/
theorem app_i64 (hgd : o.guard = none) (s x : Operand)
    (ho : o.op = .call { callee := .builtin .append, args := #[s, x], argTypes := #[54, 54] })
    (base : Nat) (v : Value) (n : Nat) (f : Nat → Nat) (hs : a.eval s = v) (hown : Own .i64 3 w base v n f)
    (X : Int) (hx : a.eval x = .slice (some ⟨w.heap.size, 0, none⟩) 1 1) (hX : X = ((f n : Nat) : Int)) (hn : n ≤ 1000000000000) (hbase : base ≤ w.heap.size)
    (h : ∀ v' w', Own .i64 3 w' base v' (n + 1) f → Below base w w' → wpList Tryz.prog ops Q rest (a.put o.dst v') w') :
    wpList Tryz.prog ops Q (o :: rest) a (w.alloc (.cells #[.int .i64 X] 3)) := by
  subst hX
  obtain ⟨i0, hi, hz0, hz1, hz2⟩ := info_parts Tryz.infoInt
  refine wpList_append_own _ hgd s x 54 ho base 3 i0 (.int .i64 0) 1 8 Tryz.underlying54 hi hz0 hz1 hz2 rfl (by decide) v n _ hs (World.ownsRow.alloc hown _)
    ⟨w.heap.size, 0, none⟩ 1 1 [.int .i64 ((f n : Nat) : Int)] hx rfl (cell_one_new _ _ _) (by intro u hu; simp at hu; subst hu; rfl) (by unfold maxLen; omega) (by omega) (by simp; omega) ?_
  intro v' w' hown' hgrow _
  refine h v' w' (by unfold Own; rw [cellsK_succ]; exact hown') ?_
  refine (((Below.refl base w).alloc hbase _).grown hgrow (by simp; omega) ?_)
  intro k hk
  obtain ⟨hl, ⟨hv, h0⟩ | ⟨g, cap, cur, hv, hg, hr⟩⟩ := hown
  · subst hv; cases hk
  · subst hv
    simp [Value.ownBlock] at hk
    omega
end
theorem dgt_top (n j : Nat) (h : n < 10 ^ (j + 1)) (h0 : dgt 10 n j = 0) : n < 10 ^ j := by
  unfold dgt at h0
  rw [Nat.pow_succ] at h
  have hp : 0 < 10 ^ j := Nat.pow_pos (by decide)
  generalize 10 ^ j = X at *
  have h1 : n / X < 10 := by rw [Nat.div_lt_iff_lt_mul hp]; omega
  have h2 : n / X = 0 := by
    generalize n / X = e at *
    omega
  exact (Nat.div_eq_zero_iff_lt hp).1 h2
theorem dlen_of_top (n j : Nat) (h : n < 10 ^ j) (h0 : j = 0 ∨ dgt 10 n (j - 1) ≠ 0) : dlen 10 n = j := by
  have h1 := (dlen_le_iff 10 n j (by decide)).2 h
  rcases h0 with rfl | h0
  · omega
  · have h2 : ¬ dlen 10 n ≤ j - 1 := by
      intro h3
      have h4 := (dlen_le_iff 10 n (j - 1) (by decide)).1 h3
      apply h0
      unfold dgt
      rw [Nat.div_eq_of_lt h4]
    omega
set_option maxHeartbeats 1000000 in
theorem trimmedD_row {a : Option Addr} {cap n k : Nat} {w : World} (h : Row .i64 w (.slice a k cap) k (dgt 10 n)) (hk : k ≤ 1000000000) (hn : n < 10 ^ k) :
    Calls Tryz.prog 116 #[.slice a k cap] w fun e w' => e = .returned (.slice a (dlen 10 n) cap) ∧ w' = w := by
  obtain ⟨a', cap', hv, hcap, hcell⟩ := h
  simp only [Value.slice.injEq, true_and] at hv
  obtain ⟨rfl, rfl⟩ := hv
  have hl := (dlen_le_iff 10 n k (by decide)).2 hn
  clear hn
  go_enter Tryz.func116, Tryz.ntmps116
  go_wp2
  go_loop [0] (fun v => ∃ j : Nat, v = .slice a j cap ∧ dlen 10 n ≤ j ∧ j ≤ k) (fun v => lenOf v)
  case atStart => exact ⟨k, rfl, hl, Nat.le_refl _⟩
  case round =>
    obtain ⟨j, rfl, h1, h2⟩ := hrel
    by_cases hj : j = 0
    · subst hj
      go_wp2
      go_ret
      have hz : dlen 10 n = 0 := by omega
      exact ⟨by rw [hz]; rfl, rfl⟩
    · obtain ⟨b, off, rfl, hlt, hc⟩ := hcell (by omega)
      have hcj := hc (j - 1) (by omega)
      have hj' : ((j : Int) - 1) = ((j - 1 : Nat) : Int) := by omega
      by_cases hd : dgt 10 n (j - 1) = 0
      · have hd' : ((dgt 10 n (j - 1) : Nat) : Int) = 0 := by omega
        go_wp2
        go_round
        case rel =>
          refine ⟨j - 1, by go_num, ?_, by omega⟩
          exact (dlen_le_iff 10 n _ (by decide)).2 (dgt_top n (j - 1) (by rw [Nat.sub_add_cancel (by omega)]; exact (dlen_le_iff 10 n _ (by decide)).1 h1) hd)
        case measure => simp [lenOf] <;> omega
      · have hd' : (((dgt 10 n (j - 1) : Nat) : Int) == 0) = false := by rw [beq_eq_false_iff_ne]; omega
        have hz : dlen 10 n = j := dlen_of_top n j ((dlen_le_iff 10 n _ (by decide)).1 h1) (.inr hd)
        have HZ := hid hz
        clear hz
        go_wp2
        go_ret
        exact ⟨by rw [HZ.out]; rfl, rfl⟩
end Go.Proofs.YtkhgoeippamobaaGreatDoor
