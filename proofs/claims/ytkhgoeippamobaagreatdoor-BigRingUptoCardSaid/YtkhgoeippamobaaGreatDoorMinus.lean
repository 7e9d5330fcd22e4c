/-
  The difference of two numbers, the first one not below the second.
-/
import Derived.Test.YtkhgoeippamobaaGreatDoorPlus
namespace Go.Proofs.YtkhgoeippamobaaGreatDoor
open Go.RowKit Go.Shelf
attribute [local go_sem] Oper.semAt_some
/-- between two rounds of the sum: the digits so far, the carry -/
def MinusAt (w : World) (va vb : Value) (pre : List (Nat × Nat)) (W : World) : Prop :=
  (((∃ v, Boxed W w.heap.size 47 v ∧ W.ownsRow w.heap.size 75 1 v pre.length (cellsK .u32 (D (lowP pre)) pre.length) ∧ True) ∧ Boxed W (w.heap.size + 1) 98 (.int .u64 (borP pre))) ∧ (Boxed W (w.heap.size + 1 + 1) 47 va ∧ Boxed W (w.heap.size + 1 + 1 + 1) 47 vb)) ∧ Below w.heap.size w W
set_option maxRecDepth 100000 in
set_option maxHeartbeats 2000000 in
theorem minus_nat {v u : Value} {m n : Nat} {w : World} (hv : NatRep w v m) (hu : NatRep w u n) (hm : nlen m ≤ 100000000) (hn : nlen n ≤ 100000000) (hnm : n ≤ m) :
    Calls Tryz.prog 124 #[v, u] w (Fresh (m - n) w) := by
  obtain ⟨a, cap, rfl⟩ := hv.shape
  obtain ⟨a', cap', rfl⟩ := hu.shape
  refine (callsIn_wide (n := 5)).1 ?_
  refine callsIn_of_wp_marks Tryz.func124 rfl trivial ?_ rfl
  simp only [Tryz.ntmps124, List.size_toArray, List.length_cons, List.length_nil, Nat.reduceAdd, Nat.reduceSub, Array.replicate_succ, Array.replicate_zero, List.push_toArray, List.append_toArray, List.nil_append, List.cons_append]
  gi_wp2_with (refine ⟨trivial, ?_⟩; gi_at_call 135; refine (callsIn_wide.2 (digits_any _ _ _ _ _ _ _)).mono ?_; rintro e w' ⟨rfl, rfl⟩)
  obtain ⟨i0, hi, hz0, hz1, hz2⟩ := info_parts Tryz.info75
  have bO := Boxed.new w 47 (.slice none 0 0)
  have bC := Boxed.new (w.alloc (.cells #[.slice none 0 0] 47)) 98 (.int .u64 0)
  have bA := Boxed.new ((w.alloc (.cells #[.slice none 0 0] 47)).alloc (.cells #[.int .u64 0] 98)) 47 (.slice a (nlen m) cap)
  have bB := Boxed.new (((w.alloc (.cells #[.slice none 0 0] 47)).alloc (.cells #[.int .u64 0] 98)).alloc (.cells #[.slice a (nlen m) cap] 47)) 47 (.slice a' (nlen n) cap')
  simp only [World.size_alloc] at bC bA bB
  have hB0 : Below w.heap.size w ((((w.alloc (.cells #[.slice none 0 0] 47)).alloc (.cells #[.int .u64 0] 98)).alloc (.cells #[.slice a (nlen m) cap] 47)).alloc (.cells #[.slice a' (nlen n) cap'] 47)) :=
    ((((Below.refl _ w).alloc (Nat.le_refl _) _).alloc (by simp) _).alloc (by simp; omega) _).alloc (by simp; omega) _
  obtain ⟨W0, hW0⟩ : ∃ W0, ((((w.alloc (.cells #[.slice none 0 0] 47)).alloc (.cells #[.int .u64 0] 98)).alloc (.cells #[.slice a (nlen m) cap] 47)).alloc (.cells #[.slice a' (nlen n) cap'] 47)) = W0 := ⟨_, rfl⟩
  have hs0 : W0.heap.size = w.heap.size + 4 := by rw [← hW0]; simp
  have bO0 : Boxed W0 w.heap.size 47 (.slice none 0 0) := by rw [← hW0]; exact ((bO.alloc _).alloc _).alloc _
  have bC0 : Boxed W0 (w.heap.size + 1) 98 (.int .u64 0) := by rw [← hW0]; exact (bC.alloc _).alloc _
  have bA0 : Boxed W0 (w.heap.size + 1 + 1) 47 (.slice a (nlen m) cap) := by rw [← hW0]; exact bA.alloc _
  have bB0 : Boxed W0 (w.heap.size + 1 + 1 + 1) 47 (.slice a' (nlen n) cap') := by rw [← hW0]; exact bB
  rw [hW0] at hB0 ⊢
  clear bO bC bA bB hW0
  refine wpIn_rangeFunc_ownF rfl (by omega) (gf := 145) (lb := #[.pointer (some ⟨w.heap.size + 1 + 1, 0, none⟩), .pointer (some ⟨w.heap.size + 1 + 1 + 1, 0, none⟩)]) rfl trivial (enters_of Tryz.func145 (by kernel_rfl) rfl)
    (digits_stops (B := w.heap.size) hm hn _ bA0 bB0 (fun W' h => hv.below (hB0.trans h)) (fun W' h => hu.below (hB0.trans h)) (by omega)) KpD.trans (kpD_b (by omega) (by omega) (by omega)) (Below.refl _ _) (fun _ => rfl)
    (MinusAt w (.slice a (nlen m) cap) (.slice a' (nlen n) cap')) (fun _ _ _ => False)
    (OwnFrom.and (OwnFrom.and (OwnFrom.and (Go.Own.from (holdsRow_own w.heap.size w.heap.size 47 75 1 (fun pre => pre.length) (fun pre => cellsK .u32 (D (lowP pre)) pre.length) (fun _ _ => True)) _) (Go.Own.from (boxed_own' (w.heap.size + 1) 98 (fun pre => .int .u64 (borP pre))) _)) (OwnFrom.and (Go.Own.from (boxed_own' (w.heap.size + 1 + 1) 47 (fun _ => .slice a (nlen m) cap)) _) (Go.Own.from (boxed_own' (w.heap.size + 1 + 1 + 1) 47 (fun _ => .slice a' (nlen n) cap')) _))) (ownFrom_below (Nat.le_refl _) (by omega)))
    (fun _ _ _ _ _ hs _ _ => hs)
    ⟨⟨⟨⟨_, bO0, World.ownsRow_nil _ _ _ _, trivial⟩, bC0⟩, bA0, bB0⟩, hB0⟩
    (fun x => { tmps := #[.slice a (nlen m) cap, .slice a' (nlen n) cap', undef, undef, .slice none 0 0, .pointer (some ⟨w.heap.size, 0, none⟩), .pointer (some ⟨w.heap.size + 1, 0, none⟩), .int .u64 ((x.1 % 4294967296 : Nat) : Int), .int .u64 ((x.2 % 4294967296 : Nat) : Int), undef, .slice a (nlen m) cap, .slice a' (nlen n) cap', .func (.func 145) #[] #[.pointer (some ⟨w.heap.size + 1 + 1, 0, none⟩), .pointer (some ⟨w.heap.size + 1 + 1 + 1, 0, none⟩)], .int .u64 ((x.1 % 4294967296 : Nat) : Int), .int .u64 ((x.2 % 4294967296 : Nat) : Int), undef, undef, undef, undef, undef, undef, undef, undef, undef, undef, undef, undef, undef, undef], defers := [] }) ?assign ?body ?done ?stop
  case assign =>
    intro l x W K hK
    unfold encP
    gi_wp2
    exact hK
  case body =>
    rintro l pre x W ⟨⟨⟨⟨v, hv', hrow, _⟩, hcar⟩, hbA, hbB⟩, hB⟩ hlt
    have hp1 : x.1 % 4294967296 < 4294967296 := Nat.mod_lt _ (by decide)
    have hp2 : x.2 % 4294967296 < 4294967296 := Nat.mod_lt _ (by decide)
    have hc1 := borP_le pre
    have hw1 := dP_wrap pre x
    have hw2 : ((dP pre x : Nat) : Int) % 4294967296 = ((D (lowP (pre ++ [x])) pre.length : Nat) : Int) := by rw [← dP_mod]; omega
    have hw3 := (dP_bor pre x).1
    generalize x.1 % 4294967296 = p1 at *
    generalize x.2 % 4294967296 = p2 at *
    have hcO := hv'.cell
    have hcC := hcar.cell
    have hfC := hcar.frozen
    gi_wp2_with (gi_at_builtin; refine wpListIn_append_own _ rfl _ _ 47 rfl w.heap.size 75 i0 (.int .u32 0) 1 4 Tryz.underlying47 hi hz0 hz1 hz2 rfl (by decide) _ _ _ rfl (hrow.alloc _) ⟨W.heap.size, 0, none⟩ 1 1 [.int .u32 ((D (lowP (pre ++ [x])) pre.length : Nat) : Int)] rfl rfl (cell_one_new _ _ _) (by simp [Value.oneCell']) (by unfold maxLen; omega) (by omega) (by have := hB.size; simp; omega) ?_; intro v' w1 hown' hgrow _; obtain ⟨g', cap', rfl⟩ := ownsRow_succ hown'; obtain ⟨hv2, hv3, hr3, hk3, hb3⟩ := hv'.appended (by decide) hrow (by have := hB.size; omega) (Nat.le_refl _) hown' hgrow; have hc2 := hv2.cell; have hf2 := hv2.frozen; have hcar2 := (hcar.alloc _).kept hgrow (hcar.not_row (by decide) hrow); have hbA2 := (hbA.alloc _).kept hgrow (hbA.not_row (by decide) hrow); have hbB2 := (hbB.alloc _).kept hgrow (hbB.not_row (by decide) hrow); clear hgrow; have hc3 := hcar2.cell; have hf3 := hcar2.frozen)
    obtain ⟨w3, hw3e⟩ : ∃ w3, w1.setCell ⟨w.heap.size, 0, none⟩ (.slice (some ⟨g', 0, none⟩) (pre.length + 1) cap') = w3 := ⟨_, rfl⟩
    have gs1 : w1.grownBy w3 (some w.heap.size) := by rw [← hw3e]; exact grownBy_setCell' _ _ _
    rw [hw3e] at hv3 hr3 hk3 hb3 ⊢
    have gs2 : w3.grownBy (w3.setCell ⟨w.heap.size + 1, 0, none⟩ (.int .u64 ((borP (pre ++ [x]) : Nat) : Int))) (some (w.heap.size + 1)) := grownBy_setCell' _ _ _
    have hcar3 := hcar2.kept gs1 (by simp)
    have hA3 := (hbA2.kept gs1 (by simp <;> omega)).kept gs2 (by simp)
    have hB3 := (hbB2.kept gs1 (by simp <;> omega)).kept gs2 (by simp <;> omega)
    have hlow : cellsK .u32 (D (lowP pre)) pre.length ++ [.int .u32 ((D (lowP (pre ++ [x])) pre.length : Nat) : Int)] = cellsK .u32 (D (lowP (pre ++ [x]))) (pre ++ [x]).length := by
      rw [List.length_append, List.length_singleton, cellsK_succ, cellsK_congr _ _ _ _ (fun i hi => lowP_low pre x i hi)]
    have hb4 : Below w.heap.size W (w3.setCell ⟨w.heap.size + 1, 0, none⟩ (.int .u64 ((borP (pre ++ [x]) : Nat) : Int))) := hb3.setCell (p := ⟨w.heap.size + 1, 0, none⟩) (by simp) _
    have hr4 := hr3.kept gs2 (.inr (hcar3.not_row (by decide) hr3).symm)
    rw [hlow] at hr4
    refine ⟨hk3.trans (KeepsOthers.setCell _ _ _), ⟨hb4, hA3.trans hbA.symm, hB3.trans hbB.symm⟩, ⟨⟨⟨⟨.slice (some ⟨g', 0, none⟩) (pre.length + 1) cap', hv3.kept gs2 (by simp), ?_, trivial⟩, hcar3.set _⟩, hA3, hB3⟩, hB.trans hb4⟩⟩
    rw [List.length_append, List.length_singleton] at hr4 ⊢
    exact hr4
  case done =>
    rintro Dd ys W hD rfl ⟨⟨⟨⟨v, hv', hrow, _⟩, hcar⟩, hbA, hbB⟩, hB⟩ hK
    have hcO := hv'.cell
    have hown : Own .u32 75 W w.heap.size v (max (nlen m) (nlen n) + 1) (D (m - n)) := by
      have h1 : lowP (pairs m n (max (nlen m) (nlen n) + 1)) = m - n := lowP_all m n hnm
      rw [pairs_length, h1] at hrow
      exact hrow
    have hcall := hid (callsIn_wide (n := 4).2 (trimmed_own hown (by omega) (Nat.lt_of_le_of_lt (Nat.sub_le m n) (Nat.lt_of_le_of_lt (Nat.le_add_right m n) (sum_lt m n)))))
    gi_wp2_with (refine ⟨trivial, ?_⟩; gi_at_call 119; (with_reducible refine hcall.out.mono ?_); rintro e w' ⟨⟨v2, rfl, hown2⟩, rfl⟩)
    refine ⟨by simp, .inl ⟨_, _, rfl, run_takeDeferred hK, ?_⟩⟩
    exact ⟨_, results_tmp rfl _ _ _, v2, rfl, ownsRow_putObj hown2 _ hK rfl, hB.trans (belowK_b (w := w) (Nat.le_refl _) W Dd _ _ (by omega) hK rfl rfl)⟩
  case stop =>
    rintro Dd c pre W _ _ h _
    exact h.elim
end Go.Proofs.YtkhgoeippamobaaGreatDoor
