/-
  The sum of two numbers.
-/
import Derived.Test.YtkhgoeippamobaaGreatDoorIter
import Derived.Test.YtkhgoeippamobaaGreatDoorMake
import Derived.Test.YtkhgoeippamobaaGreatDoorPlusMath
import Derived.RangeFuncBox
namespace Go.Proofs.YtkhgoeippamobaaGreatDoor
open Go.RowKit Go.Shelf
attribute [local go_sem] Oper.semAt_some
theorem kpD_b {B p q : Nat} {w : World} (hB : B ≤ w.heap.size) (hp : p < w.heap.size) (hq : q < w.heap.size) (W : World) (l : Nat) (o o' : Obj) (hl : w.heap.size ≤ l) (h : W.heap[l]? = some o) (h1 : o.isCells = false) (h2 : o.isWalk = false) : KpD B p q W (W.putObj l o') :=
  ⟨belowK_b hB W l o o' hl h h1 h2, World.putObj_heap_other (by omega), World.putObj_heap_other (by omega)⟩
theorem boxed_own' {β : Type} (B : Nat) (t : TypeId) (f : β → Value) : Go.Own (fun s W => Boxed W B t (f s)) := by
  rintro s X Y row hv hg hrow
  refine Boxed.kept hv hg (fun e' => ?_)
  obtain ⟨o, ho, hc⟩ := hrow B e'.symm
  rw [show X.heap[B]? = _ from hv] at ho; cases ho; cases hc
/-- between two rounds of the sum: the digits so far, the carry -/
def PlusAt (w : World) (va vb : Value) (pre : List (Nat × Nat)) (W : World) : Prop :=
  (((∃ v, Boxed W w.heap.size 47 v ∧ W.ownsRow w.heap.size 75 1 v pre.length (cellsK .u32 (D (sumP pre)) pre.length) ∧ True) ∧ Boxed W (w.heap.size + 1) 98 (.int .u64 (carP pre))) ∧ (Boxed W (w.heap.size + 1 + 1) 47 va ∧ Boxed W (w.heap.size + 1 + 1 + 1) 47 vb)) ∧ Below w.heap.size w W
set_option maxRecDepth 100000 in
set_option maxHeartbeats 2000000 in
theorem plus_nat {v u : Value} {m n : Nat} {w : World} (hv : NatRep w v m) (hu : NatRep w u n) (hm : nlen m ≤ 100000000) (hn : nlen n ≤ 100000000) :
    Calls Tryz.prog 112 #[v, u] w (Fresh (m + n) w) := by
  obtain ⟨a, cap, rfl⟩ := hv.shape
  obtain ⟨a', cap', rfl⟩ := hu.shape
  refine (callsIn_wide (n := 5)).1 ?_
  refine callsIn_of_wp_marks Tryz.func112 rfl trivial ?_ rfl
  simp only [Tryz.ntmps112, List.size_toArray, List.length_cons, List.length_nil, Nat.reduceAdd, Nat.reduceSub, Array.replicate_succ, Array.replicate_zero, List.push_toArray, List.append_toArray, List.nil_append, List.cons_append]
  gi_wp2_with (refine ⟨trivial, ?_⟩; gi_at_call 135; refine (callsIn_wide.2 (digits_any _ _ _ _ _ _ _)).mono ?_; rintro e w' ⟨rfl, rfl⟩)
  obtain ⟨i0, hi, hz0, hz1, hz2⟩ := info_parts Tryz.info75
  have bO := Boxed.new w 47 (.slice none 0 0)
  have bC := Boxed.new (w.alloc (.cells #[.slice none 0 0] 47)) 98 (.int .u64 0)
  have bA := Boxed.new ((w.alloc (.cells #[.slice none 0 0] 47)).alloc (.cells #[.int .u64 0] 98)) 47 (.slice a (nlen m) cap)
  have bB := Boxed.new (((w.alloc (.cells #[.slice none 0 0] 47)).alloc (.cells #[.int .u64 0] 98)).alloc (.cells #[.slice a (nlen m) cap] 47)) 47 (.slice a' (nlen n) cap')
  simp only [World.size_alloc] at bC bA bB
  have hB0 : Below w.heap.size w ((((w.alloc (.cells #[.slice none 0 0] 47)).alloc (.cells #[.int .u64 0] 98)).alloc (.cells #[.slice a (nlen m) cap] 47)).alloc (.cells #[.slice a' (nlen n) cap'] 47)) :=
    ((((Below.refl _ w).alloc (Nat.le_refl _) _).alloc (by simp) _).alloc (by simp; omega) _).alloc (by simp; omega) _
  obtain ⟨W0, hW0⟩ : ∃ W0, ((((w.alloc (.cells #[.slice none 0 0] 47)).alloc (.cells #[.int .u64 0] 98)).alloc (.cells #[.slice a (nlen m) cap] 47)).alloc (.cells #[.slice a' (nlen n) cap'] 47)) = W0 := ⟨_, rfl⟩
  have hs0 : W0.heap.size = w.heap.size + 4 := by rw [← hW0]; simp
  have bO0 : Boxed W0 w.heap.size 47 (.slice none 0 0) := by rw [← hW0]; exact ((bO.alloc _).alloc _).alloc _
  have bC0 : Boxed W0 (w.heap.size + 1) 98 (.int .u64 0) := by rw [← hW0]; exact (bC.alloc _).alloc _
  have bA0 : Boxed W0 (w.heap.size + 1 + 1) 47 (.slice a (nlen m) cap) := by rw [← hW0]; exact bA.alloc _
  have bB0 : Boxed W0 (w.heap.size + 1 + 1 + 1) 47 (.slice a' (nlen n) cap') := by rw [← hW0]; exact bB
  rw [hW0] at hB0 ⊢
  clear bO bC bA bB hW0
  refine wpIn_rangeFunc_ownF rfl (by omega) (gf := 145) (lb := #[.pointer (some ⟨w.heap.size + 1 + 1, 0, none⟩), .pointer (some ⟨w.heap.size + 1 + 1 + 1, 0, none⟩)]) rfl trivial (enters_of Tryz.func145 (by kernel_rfl) rfl)
    (digits_stops (B := w.heap.size) hm hn _ bA0 bB0 (fun W' h => hv.below (hB0.trans h)) (fun W' h => hu.below (hB0.trans h)) (by omega)) KpD.trans (kpD_b (by omega) (by omega) (by omega)) (Below.refl _ _) (fun _ => rfl)
    (PlusAt w (.slice a (nlen m) cap) (.slice a' (nlen n) cap')) (fun _ _ _ => False)
    (OwnFrom.and (OwnFrom.and (OwnFrom.and (Go.Own.from (holdsRow_own w.heap.size w.heap.size 47 75 1 (fun pre => pre.length) (fun pre => cellsK .u32 (D (sumP pre)) pre.length) (fun _ _ => True)) _) (Go.Own.from (boxed_own' (w.heap.size + 1) 98 (fun pre => .int .u64 (carP pre))) _)) (OwnFrom.and (Go.Own.from (boxed_own' (w.heap.size + 1 + 1) 47 (fun _ => .slice a (nlen m) cap)) _) (Go.Own.from (boxed_own' (w.heap.size + 1 + 1 + 1) 47 (fun _ => .slice a' (nlen n) cap')) _))) (ownFrom_below (Nat.le_refl _) (by omega)))
    (fun _ _ _ _ _ hs _ _ => hs)
    ⟨⟨⟨⟨_, bO0, World.ownsRow_nil _ _ _ _, trivial⟩, bC0⟩, bA0, bB0⟩, hB0⟩
    (fun x => { tmps := #[.slice a (nlen m) cap, .slice a' (nlen n) cap', undef, undef, .slice none 0 0, .pointer (some ⟨w.heap.size, 0, none⟩), .pointer (some ⟨w.heap.size + 1, 0, none⟩), .int .u64 ((x.1 % 4294967296 : Nat) : Int), .int .u64 ((x.2 % 4294967296 : Nat) : Int), .slice a (nlen m) cap, .slice a' (nlen n) cap', .func (.func 145) #[] #[.pointer (some ⟨w.heap.size + 1 + 1, 0, none⟩), .pointer (some ⟨w.heap.size + 1 + 1 + 1, 0, none⟩)], .int .u64 ((x.1 % 4294967296 : Nat) : Int), .int .u64 ((x.2 % 4294967296 : Nat) : Int), undef, undef, undef, undef, undef, undef, undef, undef, undef, undef, undef, undef, undef, undef], defers := [] }) ?assign ?body ?done ?stop
  case assign =>
    intro l x W K hK
    unfold encP
    gi_wp2
    exact hK
  case body =>
    rintro l pre x W ⟨⟨⟨⟨v, hv', hrow, _⟩, hcar⟩, hbA, hbB⟩, hB⟩ hlt
    have hp1 : x.1 % 4294967296 < 4294967296 := Nat.mod_lt _ (by decide)
    have hp2 : x.2 % 4294967296 < 4294967296 := Nat.mod_lt _ (by decide)
    have hc1 := carP_le pre
    have hT : tP pre x = carP pre + (x.1 % 4294967296 + x.2 % 4294967296) := rfl
    generalize x.1 % 4294967296 = p1 at *
    generalize x.2 % 4294967296 = p2 at *
    have hw1 : ((carP pre : Nat) : Int) + ((p1 : Int) + (p2 : Int)) = ((tP pre x : Nat) : Int) := by omega
    have hw2 : ((tP pre x : Nat) : Int) % 4294967296 = ((D (sumP (pre ++ [x])) pre.length : Nat) : Int) := by rw [← tP_mod]; omega
    have hw3 : ((tP pre x : Nat) : Int) / 4294967296 = ((carP (pre ++ [x]) : Nat) : Int) := by rw [← tP_div]; omega
    have htl : tP pre x < 8589934593 := by omega
    clear hT
    have hcO := hv'.cell
    have hcC := hcar.cell
    have hfC := hcar.frozen
    obtain ⟨W1, hW1⟩ : ∃ W1, W.setCell ⟨w.heap.size + 1, 0, none⟩ (.int .u64 ((tP pre x : Nat) : Int)) = W1 := ⟨_, rfl⟩
    have HW1 := hid hW1
    have hs1 : W1.heap.size = W.heap.size := by rw [← hW1]; simp
    have hg1 : W.grownBy W1 (some (w.heap.size + 1)) := by rw [← hW1]; exact grownBy_setCell' _ _ _
    have hv1 : Boxed W1 w.heap.size 47 v := hv'.kept hg1 (by simp)
    have hcar1 : Boxed W1 (w.heap.size + 1) 98 (.int .u64 ((tP pre x : Nat) : Int)) := by rw [← hW1]; exact hcar.set _
    have hrow1 : W1.ownsRow w.heap.size 75 1 v pre.length (cellsK .u32 (D (sumP pre)) pre.length) := hrow.kept hg1 (.inr (hcar.not_row (by decide) hrow).symm)
    have hbA1 := hbA.kept hg1 (by simp <;> omega)
    have hbB1 := hbB.kept hg1 (by simp <;> omega)
    have hB1 : Below w.heap.size W W1 := by rw [← hW1]; exact (Below.refl _ _).setCell (p := ⟨w.heap.size + 1, 0, none⟩) (by simp) _
    have hko : KeepsOthers W W1 := by rw [← hW1]; exact KeepsOthers.setCell _ _ _
    clear hW1
    gi_wp2_with (gi_at_builtin; rw [HW1.out]; refine wpListIn_append_own _ rfl _ _ 47 rfl w.heap.size 75 i0 (.int .u32 0) 1 4 Tryz.underlying47 hi hz0 hz1 hz2 rfl (by decide) _ _ _ rfl (hrow1.alloc _) ⟨W.heap.size, 0, none⟩ 1 1 [.int .u32 ((D (sumP (pre ++ [x])) pre.length : Nat) : Int)] rfl rfl (by rw [← hs1]; exact cell_one_new _ _ _) (by simp [Value.oneCell']) (by unfold maxLen; omega) (by omega) (by have := hB.size; simp; omega) ?_; intro v' w1 hown' hgrow _; obtain ⟨g', cap', rfl⟩ := ownsRow_succ hown'; obtain ⟨hv2, hv3, hr3, hk3, hb3⟩ := hv1.appended (by decide) hrow1 (by have := hB.size; omega) (Nat.le_refl _) hown' hgrow; have hc2 := hv2.cell; have hf2 := hv2.frozen; have hcar2 := (hcar1.alloc _).kept hgrow (hcar1.not_row (by decide) hrow1); have hbA2 := (hbA1.alloc _).kept hgrow (hbA1.not_row (by decide) hrow1); have hbB2 := (hbB1.alloc _).kept hgrow (hbB1.not_row (by decide) hrow1); clear hgrow; have hc3 := hcar2.cell; have hf3 := hcar2.frozen)
    obtain ⟨w3, hw3e⟩ : ∃ w3, w1.setCell ⟨w.heap.size, 0, none⟩ (.slice (some ⟨g', 0, none⟩) (pre.length + 1) cap') = w3 := ⟨_, rfl⟩
    have gs1 : w1.grownBy w3 (some w.heap.size) := by rw [← hw3e]; exact grownBy_setCell' _ _ _
    rw [hw3e] at hv3 hr3 hk3 hb3 ⊢
    have gs2 : w3.grownBy (w3.setCell ⟨w.heap.size + 1, 0, none⟩ (.int .u64 ((carP (pre ++ [x]) : Nat) : Int))) (some (w.heap.size + 1)) := grownBy_setCell' _ _ _
    have hcar3 := hcar2.kept gs1 (by simp)
    have hA3 := (hbA2.kept gs1 (by simp <;> omega)).kept gs2 (by simp)
    have hB3 := (hbB2.kept gs1 (by simp <;> omega)).kept gs2 (by simp <;> omega)
    have hlow : cellsK .u32 (D (sumP pre)) pre.length ++ [.int .u32 ((D (sumP (pre ++ [x])) pre.length : Nat) : Int)] = cellsK .u32 (D (sumP (pre ++ [x]))) (pre ++ [x]).length := by
      rw [List.length_append, List.length_singleton, cellsK_succ, cellsK_congr _ _ _ _ (fun i hi => tP_low pre x i hi)]
    have hb4 : Below w.heap.size W (w3.setCell ⟨w.heap.size + 1, 0, none⟩ (.int .u64 ((carP (pre ++ [x]) : Nat) : Int))) := (hB1.trans hb3).setCell (p := ⟨w.heap.size + 1, 0, none⟩) (by simp) _
    have hr4 := hr3.kept gs2 (.inr (hcar3.not_row (by decide) hr3).symm)
    rw [hlow] at hr4
    refine ⟨hko.trans (hk3.trans (KeepsOthers.setCell _ _ _)), ⟨hb4, hA3.trans hbA.symm, hB3.trans hbB.symm⟩, ⟨⟨⟨⟨.slice (some ⟨g', 0, none⟩) (pre.length + 1) cap', hv3.kept gs2 (by simp), ?_, trivial⟩, hcar3.set _⟩, hA3, hB3⟩, hB.trans hb4⟩⟩
    rw [List.length_append, List.length_singleton] at hr4 ⊢
    exact hr4
  case done =>
    rintro Dd ys W hD rfl ⟨⟨⟨⟨v, hv', hrow, _⟩, hcar⟩, hbA, hbB⟩, hB⟩ hK
    have hcO := hv'.cell
    have hown : Own .u32 75 W w.heap.size v (max (nlen m) (nlen n) + 1) (D (m + n)) := by
      have h1 : sumP (pairs m n (max (nlen m) (nlen n) + 1)) = m + n := sumP_all m n
      rw [pairs_length, h1] at hrow
      exact hrow
    have hcall := hid (callsIn_wide (n := 4).2 (trimmed_own hown (by omega) (sum_lt m n)))
    gi_wp2_with (refine ⟨trivial, ?_⟩; gi_at_call 119; (with_reducible refine hcall.out.mono ?_); rintro e w' ⟨⟨v2, rfl, hown2⟩, rfl⟩)
    refine ⟨by simp, .inl ⟨_, _, rfl, run_takeDeferred hK, ?_⟩⟩
    exact ⟨_, results_tmp rfl _ _ _, v2, rfl, ownsRow_putObj hown2 _ hK rfl, hB.trans (belowK_b (w := w) (Nat.le_refl _) W Dd _ _ (by omega) hK rfl rfl)⟩
  case stop =>
    rintro Dd c pre W _ _ h _
    exact h.elim
end Go.Proofs.YtkhgoeippamobaaGreatDoor
