/-
  Part KF of the proofs of this seat: contracts of functions and plain facts, merged from 3 texts.
-/
import Derived.Test.YtabhkoklcjhlpaaGreatDoorK0
import Derived.Test.YtabhkoklcjhlpaaGreatDoorK1
import Derived.Test.YtabhkoklcjhlpaaGreatDoorK2
import Derived.Test.YtabhkoklcjhlpaaGreatDoorK3
import Derived.Test.YtabhkoklcjhlpaaGreatDoorK4
import Derived.Test.YtabhkoklcjhlpaaGreatDoorK5
import Derived.Test.YtabhkoklcjhlpaaGreatDoorK6
import Derived.Test.YtabhkoklcjhlpaaGreatDoorK7
import Derived.Test.YtabhkoklcjhlpaaGreatDoorK8
import Derived.Test.YtabhkoklcjhlpaaGreatDoorK9
import Derived.Test.YtabhkoklcjhlpaaGreatDoorKA
import Derived.Test.YtabhkoklcjhlpaaGreatDoorKB
import Derived.Test.YtabhkoklcjhlpaaGreatDoorKC
import Derived.Test.YtabhkoklcjhlpaaGreatDoorKD
import Derived.Test.YtabhkoklcjhlpaaGreatDoorKE
/-
  The reference's store: in memory, at, Text, Face, Count, NewStore.
-/
namespace Go.Proofs.YtabhkoklcjhlpaaGreatDoor.Pz
open Go.RowKit
structure RV where
  b : Nat
  t : Str
  n : Int
abbrev ShR := List (Str × Int)
def shapeR (R : List RV) : ShR := R.map fun x => (x.t, x.n)
theorem shapeR_len (R : List RV) : (shapeR R).length = R.length := by simp [shapeR]
theorem shapeR_set (R : List RV) (i : Nat) (y : RV) : shapeR (R.set i y) = (shapeR R).set i (y.t, y.n) := by simp [shapeR, List.map_set]
theorem shapeR_app (R : List RV) (y : RV) : shapeR (R ++ [y]) = shapeR R ++ [(y.t, y.n)] := by simp [shapeR]
theorem pickA_shapeR (R : List RV) (h : Int) : pickA (shapeR R) h = (pickA R h).map fun x => (x.t, x.n) := by
  unfold pickA shapeR
  split
  · rw [List.getElem?_map]
  · rfl
theorem pickA_some {α : Type} {S : List α} {h : Int} {x : α} (hp : pickA S h = some x) : ∃ i : Nat, h = i ∧ S[i]? = some x := by
  unfold pickA at hp
  split at hp
  · exact ⟨h.toNat, by omega, hp⟩
  · cases hp
structure RStAt (B st : Nat) (w : World) (v : Value) (R : List RV) : Prop where
  blk : w.heap[st]? = some (.cells #[v] 105 (0, 0))
  row : w.ownsRow B 43 1 v R.length (ptrs (R.map RV.b))
  nd : (R.map RV.b).Nodup
  val : ∀ x ∈ R, RVal w x.b x.t x.n
  low : B ≤ st ∧ B ≤ w.heap.size ∧ ∀ x ∈ R, B ≤ x.b
def footR (st : Nat) (v : Value) (R : List RV) : List Nat := st :: (v.ownBlock.toList ++ R.map RV.b)
theorem footR_mem {st : Nat} {v : Value} {R : List RV} {k : Nat} : k ∈ footR st v R ↔ k = st ∨ v.ownBlock = some k ∨ ∃ x ∈ R, x.b = k := by
  unfold footR
  simp only [List.mem_cons, List.mem_append, Option.mem_toList, List.mem_map]
def RStep (B st : Nat) (w : World) (v : Value) (R : List RV) (w' : World) (A : ShR) : Prop :=
  ∃ v' R', RStAt B st w' v' R' ∧ shapeR R' = A ∧ Only (footR st v R) w w' ∧ ∀ k ∈ footR st v' R', k ∈ footR st v R ∨ w.heap.size ≤ k
section
variable {B st : Nat} {w w' : World} {v : Value} {R : List RV}
theorem RStAt.shape (h : RStAt B st w v R) : ∃ a c, v = .slice a R.length c := by
  rcases h.row.2 with ⟨rfl, h0⟩ | ⟨g, cap, cur, rfl, _⟩
  · exact ⟨none, 0, by rw [h0]⟩
  · exact ⟨_, _, rfl⟩
theorem RStAt.lt (h : RStAt B st w v R) {k : Nat} (hk : k ∈ footR st v R) : k < w.heap.size ∧ B ≤ k := by
  rcases footR_mem.1 hk with rfl | hk | ⟨x, hx, rfl⟩
  · exact ⟨(Array.getElem?_eq_some_iff.1 h.blk).1, h.low.1⟩
  · exact ⟨(ownsRow_lt h.row k hk).1, ownsRow_base h.row k hk⟩
  · exact ⟨(Array.getElem?_eq_some_iff.1 (h.val x hx)).1, h.low.2.2 x hx⟩
theorem RStAt.noStr (h : RStAt B st w v R) {k : Nat} (hk : k ∈ footR st v R) (cur : Array Value) : w.heap[k]? ≠ some (Obj.cells cur 9 (0, 0)) := by
  intro hc
  rcases footR_mem.1 hk with rfl | hk | ⟨x, hx, rfl⟩
  · exact kinds_ne hc h.blk (by decide) rfl
  · obtain ⟨_, cur2, h2⟩ := ownsRow_lt h.row k hk
    exact kinds_ne hc h2 (by decide) rfl
  · exact kinds_ne hc (h.val x hx) (by decide) rfl
theorem RStAt.other {A : List Nat} (h : RStAt B st w v R) (ho : Only A w w') (hA : ∀ k ∈ footR st v R, k ∉ A) : RStAt B st w' v R :=
  ⟨ho.cells h.blk (hA _ (footR_mem.2 (.inl rfl))), ownsRow_heap2 h.row fun g _ hg hc => ho.cells hc (hA g (footR_mem.2 (.inr (.inl hg)))), h.nd, fun x hx => ho.cells (h.val x hx) (hA _ (footR_mem.2 (.inr (.inr ⟨x, hx, rfl⟩)))), ⟨h.low.1, Nat.le_trans h.low.2.1 ho.size, h.low.2.2⟩⟩
theorem RStAt.on (h : RStAt B st w v R) (hb : Below w.heap.size w w') : RStAt B st w' v R := h.other (A := []) (Only.of hb []) (by simp)
theorem RStAt.same (h : RStAt B st w v R) (hb : Below w.heap.size w w') : RStep B st w v R w' (shapeR R) := ⟨v, R, h.on hb, rfl, Only.of hb _, fun _ hk => .inl hk⟩
/-- a value is written -/
theorem RStAt.wroteAt (h : RStAt B st w v R) {i : Nat} {x : RV} (hi : R[i]? = some x) (ho : Only [x.b] w w') {t : Str} {n : Int} (hv : RVal w' x.b t n) : RStAt B st w' v (R.set i ⟨x.b, t, n⟩) := by
  have hil := (List.getElem?_eq_some_iff.1 hi).1
  have hxe := (List.getElem?_eq_some_iff.1 hi).2
  have hxm : x ∈ R := by rw [← hxe]; exact List.getElem_mem hil
  have mb : (R.set i ⟨x.b, t, n⟩).map RV.b = R.map RV.b := by
    rw [List.map_set]
    exact set_self (by rw [List.getElem?_map, hi]; rfl)
  have n1 : st ≠ x.b := kinds_ne h.blk (h.val x hxm) (by decide)
  have n2 : ∀ g cur, v.ownBlock = some g → w.heap[g]? = some (.cells cur 43 (0, 0)) → g ≠ x.b := fun g cur _ hc => kinds_ne hc (h.val x hxm) (by decide)
  refine ⟨ho.cells h.blk (by simp [n1]), ?_, by rw [mb]; exact h.nd, fun y hy => ?_, ⟨h.low.1, Nat.le_trans h.low.2.1 ho.size, fun y hy => ?_⟩⟩
  · rw [mb, List.length_set]
    exact ownsRow_heap2 h.row fun g cur hg hc => ho.cells hc (by simp [n2 g cur hg hc])
  · obtain ⟨j, hj, rfl⟩ := List.mem_iff_getElem.1 hy
    by_cases hji : i = j
    · subst hji
      simpa using hv
    · have hj' : j < R.length := by simpa using hj
      rw [List.getElem_set_ne hji]
      refine ho.cells (h.val _ (List.getElem_mem hj')) ?_
      simp only [List.mem_singleton]
      intro e
      have h1 : (R.map RV.b)[j]'(by simpa using hj') = (R.map RV.b)[i]'(by simpa using hil) := by
        rw [List.getElem_map, List.getElem_map, e, hxe]
      exact hji ((List.getElem_inj h.nd).1 h1).symm
  · obtain ⟨j, hj, rfl⟩ := List.mem_iff_getElem.1 hy
    by_cases hji : i = j
    · subst hji
      simpa using h.low.2.2 x hxm
    · have hj' : j < R.length := by simpa using hj
      rw [List.getElem_set_ne hji]
      exact h.low.2.2 _ (List.getElem_mem hj')
theorem RStAt.wrote (h : RStAt B st w v R) {i : Nat} {x : RV} (hi : R[i]? = some x) (ho : Only [x.b] w w') {t : Str} {n : Int} (hv : RVal w' x.b t n) : RStep B st w v R w' ((shapeR R).set i (t, n)) := by
  have hxm : x ∈ R := List.mem_of_getElem? hi
  have mb : (R.set i ⟨x.b, t, n⟩).map RV.b = R.map RV.b := by
    rw [List.map_set]
    exact set_self (by rw [List.getElem?_map, hi]; rfl)
  refine ⟨v, R.set i ⟨x.b, t, n⟩, h.wroteAt hi ho hv, shapeR_set _ _ _, ho.more ?_, fun k hk => ?_⟩
  · intro k hk
    simp only [List.mem_singleton] at hk
    subst hk
    exact footR_mem.2 (.inr (.inr ⟨x, hxm, rfl⟩))
  · left
    unfold footR at hk ⊢
    rwa [mb] at hk
theorem RStAt.at (h : RStAt B st w v R) {i : Nat} (hi : i < R.length) : ∃ g c, v = .slice (some ⟨g, 0, none⟩) R.length c ∧ w.cell? ⟨g, i, none⟩ = some (.pointer (some ⟨R[i].b, 0, none⟩)) := by
  rcases h.row.2 with ⟨_, h0⟩ | ⟨g, cap, cur, e, _⟩
  · omega
  · have hc := World.ownsRow.cells h.row (show v.ownBlock = some g by rw [e]; rfl) i (.pointer (some ⟨R[i].b, 0, none⟩)) (by simp [ptrs, hi])
    rw [add_none, Nat.zero_add] at hc
    exact ⟨g, cap, e, hc⟩
def atP (o : Option RV) : Value := match o with
  | some x => .pointer (some ⟨x.b, 0, none⟩)
  | none => .pointer none
set_option maxRecDepth 100000 in
theorem at_fn (h : RStAt B st w v R) (k : Int) :
    Calls Tryz.prog 97 #[.pointer (some ⟨st, 0, none⟩), .int .i64 k] w fun e w' => e = .returned (atP (pickA R k)) ∧ w' = w := by
  unfold pickA
  by_cases h0 : 0 ≤ k
  · obtain ⟨i, rfl⟩ := Int.eq_ofNat_of_zero_le h0
    rw [if_pos h0, Int.toNat_natCast]
    by_cases hi : i < R.length
    · rw [List.getElem?_eq_getElem hi]
      obtain ⟨g, c, rfl, hc⟩ := h.at hi
      obtain ⟨n, hn⟩ : ∃ n, n = R.length := ⟨_, rfl⟩
      have c0 : w.cell? ⟨st, 0, none⟩ = some (.slice (some ⟨g, 0, none⟩) n c) := by rw [Lib.cell_of_heap h.blk, hn]; rfl
      generalize R[i] = p at hc ⊢
      rw [← hn] at hi
      have hlt : ¬ ((i : Int) < 0) := by omega
      have hge : ¬ ((i : Int) ≥ (n : Int)) := by omega
      clear h hn
      unfold atP
      dsimp only
      go_enter Tryz.func97, Tryz.ntmps97
      go_wp2
      go_ret
      exact ⟨rfl, rfl⟩
    · rw [List.getElem?_eq_none (by omega)]
      obtain ⟨a, c, rfl⟩ := h.shape
      obtain ⟨n, hn⟩ : ∃ n, n = R.length := ⟨_, rfl⟩
      have c0 : w.cell? ⟨st, 0, none⟩ = some (.slice a n c) := by rw [Lib.cell_of_heap h.blk, hn]; rfl
      rw [← hn] at hi
      have hlt : ¬ ((i : Int) < 0) := by omega
      have hge : (i : Int) ≥ (n : Int) := by omega
      clear h hn
      unfold atP
      dsimp only
      go_enter Tryz.func97, Tryz.ntmps97
      go_wp2
      go_ret
      exact ⟨rfl, rfl⟩
  · rw [if_neg h0]
    have hlt : k < 0 := by omega
    clear h
    unfold atP
    dsimp only
    go_enter Tryz.func97, Tryz.ntmps97
    have hun : undef = .tuple #[] := rfl
    go_wp2
    go_ret
    exact ⟨rfl, rfl⟩
theorem newStoreR_fn (w : World) : Calls Tryz.prog 36 #[] w fun e w' => e = .returned (.pointer (some ⟨w.heap.size, 0, none⟩)) ∧ RStAt w.heap.size w.heap.size w' (.slice none 0 0) [] ∧ Below w.heap.size w w' := by
  have hb := belowA w (.cells #[.slice none 0 0] 105)
  have h0 : RStAt w.heap.size w.heap.size (w.alloc (.cells #[.slice none 0 0] 105)) (.slice none 0 0) [] := ⟨heap_alloc_new _ _, World.ownsRow_nil _ _ _ _, by simp, by simp, ⟨Nat.le_refl _, hb.size, by simp⟩⟩
  have H0 := hid h0
  have HB := hid hb
  clear h0 hb
  go_enter Tryz.func36, Tryz.ntmps36
  go_wp2
  go_ret
  exact ⟨rfl, H0.out, HB.out⟩
theorem count_fn (h : RStAt B st w v R) : Calls Tryz.prog 40 #[.pointer (some ⟨st, 0, none⟩)] w fun e w' => e = .returned (.int .i64 (R.length : Nat)) ∧ w' = w := by
  obtain ⟨a, c, rfl⟩ := h.shape
  have c0 : w.cell? ⟨st, 0, none⟩ = some (.slice a R.length c) := by rw [Lib.cell_of_heap h.blk]; rfl
  clear h
  go_enter Tryz.func40, Tryz.ntmps40
  go_wp2
  go_ret
  exact ⟨rfl, rfl⟩
def textR (A : ShR) (k : Int) : Str × Int := match pickA A k with
  | none => ([], 5)
  | some p => (p.1, 0)
def faceR (A : ShR) (k : Int) : Int × Int := match pickA A k with
  | none => (0, 5)
  | some p => (p.2, 0)
set_option maxRecDepth 100000 in
theorem textSR_fn (h : RStAt B st w v R) (k : Int) :
    Calls Tryz.prog 77 #[.pointer (some ⟨st, 0, none⟩), .int .i64 k] w fun e w' => e = .returned (.tuple #[.string ⟨(textR (shapeR R) k).1.toArray⟩, .int .i64 (textR (shapeR R) k).2]) ∧ w' = w := by
  unfold textR
  rw [pickA_shapeR]
  have HA := at_fn h k
  cases hp : pickA R k with
  | none =>
    rw [hp] at HA
    have HA := hid HA
    clear h hp
    unfold atP at HA
    dsimp only [Option.map] at HA ⊢
    go_enter Tryz.func77, Tryz.ntmps77
    go_wp2_with fail
    (with_reducible refine HA.out.mono ?_); rintro e w1 ⟨rfl, hw⟩; subst hw
    go_wp2
    go_ret2
    exact ⟨rfl, rfl⟩
  | some x =>
    rw [hp] at HA
    have HA := hid HA
    obtain ⟨i, rfl, hi⟩ := pickA_some hp
    have hv := h.val x (List.mem_of_getElem? hi)
    have c0 : w.cell? ⟨x.b, 0, none⟩ = some (.string ⟨x.t.toArray⟩) := by rw [Lib.cell_of_heap hv]; rfl
    clear h hp hv hi
    unfold atP at HA
    dsimp only [Option.map] at HA ⊢
    go_enter Tryz.func77, Tryz.ntmps77
    go_wp2_with fail
    (with_reducible refine HA.out.mono ?_); rintro e w1 ⟨rfl, hw⟩; subst hw
    go_wp2
    go_ret2
    exact ⟨rfl, rfl⟩
set_option maxRecDepth 100000 in
theorem faceSR_fn (h : RStAt B st w v R) (k : Int) :
    Calls Tryz.prog 78 #[.pointer (some ⟨st, 0, none⟩), .int .i64 k] w fun e w' => e = .returned (.tuple #[.int .i64 (faceR (shapeR R) k).1, .int .i64 (faceR (shapeR R) k).2]) ∧ w' = w := by
  unfold faceR
  rw [pickA_shapeR]
  have HA := at_fn h k
  cases hp : pickA R k with
  | none =>
    rw [hp] at HA
    have HA := hid HA
    clear h hp
    unfold atP at HA
    dsimp only [Option.map] at HA ⊢
    go_enter Tryz.func78, Tryz.ntmps78
    go_wp2_with fail
    (with_reducible refine HA.out.mono ?_); rintro e w1 ⟨rfl, hw⟩; subst hw
    go_wp2
    go_ret2
    exact ⟨rfl, rfl⟩
  | some x =>
    rw [hp] at HA
    have HA := hid HA
    obtain ⟨i, rfl, hi⟩ := pickA_some hp
    have hv := h.val x (List.mem_of_getElem? hi)
    have c0 : w.cell? ⟨x.b, 1, none⟩ = some (.int .i64 x.n) := by rw [Lib.cell_of_heap hv]; rfl
    clear h hp hv hi
    unfold atP at HA
    dsimp only [Option.map] at HA ⊢
    go_enter Tryz.func78, Tryz.ntmps78
    go_wp2_with fail
    (with_reducible refine HA.out.mono ?_); rintro e w1 ⟨rfl, hw⟩; subst hw
    go_wp2
    go_ret2
    exact ⟨rfl, rfl⟩
end
end Go.Proofs.YtabhkoklcjhlpaaGreatDoor.Pz
/-
  The reference's store: Add, Make, Copy.
-/
namespace Go.Proofs.YtabhkoklcjhlpaaGreatDoor.Pz
open Go.RowKit
theorem Tryz.infoRV : (Tryz.prog.info? 43).map (fun i => (i.zero, i.size, i.bytes)) = some (some (.pointer none), 1, 8) := by kernel_rfl
theorem app_ptr {w : World} {ops : Array Oper} {rest : List Oper} {o : Oper} {a : Act} {Q : Exit → Act → World → Prop} (hgd : o.guard = none) (s x : Operand)
    (ho : o.op = .call { callee := .builtin .append, args := #[s, x], argTypes := #[103, 103] }) (B : Nat) (v : Value) (n p : Nat) (bs : List Nat)
    (hs : a.eval s = v) (hown : w.ownsRow B 43 1 v n (ptrs bs)) (hx : a.eval x = .slice (some ⟨w.heap.size, 0, none⟩) 1 1) (hB : B ≤ w.heap.size) (hl : n ≤ 10000000)
    (h : ∀ v' w', w'.ownsRow B 43 1 v' (n + 1) (ptrs (bs ++ [p])) → w.grownBy w' v.ownBlock → (∀ g, v'.ownBlock = some g → v.ownBlock = some g ∨ w.heap.size ≤ g) → wpList Tryz.prog ops Q rest (a.put o.dst v') w') :
    wpList Tryz.prog ops Q (o :: rest) a (w.alloc (.cells #[.pointer (some ⟨p, 0, none⟩)] 43)) := by
  obtain ⟨i0, hi, hz0, hz1, hz2⟩ := info_parts Tryz.infoRV
  refine wpList_append_own_at _ hgd s x 103 ho B 43 i0 (.pointer none) 1 8 Tryz.underlying103 hi hz0 hz1 hz2 rfl (by decide) v n (ptrs bs) hs (World.ownsRow.alloc hown _) ⟨w.heap.size, 0, none⟩ 1 1 [.pointer (some ⟨p, 0, none⟩)] hx rfl (cell_one_new _ _ _) (by simp [Value.oneCell']) ?_ ?_ ?_ ?_
  · unfold maxLen; omega
  · omega
  · simp; omega
  · intro v' w' hrow hg _ hat
    refine h v' w' ?_ ?_ ?_
    · have : ptrs bs ++ [.pointer (some ⟨p, 0, none⟩)] = ptrs (bs ++ [p]) := by simp [ptrs]
      rw [← this]
      exact hrow
    · refine ⟨hg.os, hg.tape, hg.output, ?_, fun k hk hr => ?_⟩
      · have := hg.size; simp at this; omega
      · rw [hg.block k (by simp; omega) hr]
        exact Below.heap_alloc _ _ _ (by omega)
    · intro g hgv
      rcases hat with h2 | h2
      · exact .inl (by rw [← h2]; exact hgv)
      · rw [h2] at hgv
        have := Option.some.inj hgv
        (try simp at this)
        exact .inr (by omega)
theorem app_ptr_op {w : World} {o : Oper} {a : Act} {K : Act → World → Prop} {Q : Exit → Act → World → Prop} (s x : Operand)
    (ho : o.op = .call { callee := .builtin .append, args := #[s, x], argTypes := #[103, 103] }) (B : Nat) (v : Value) (n p : Nat) (bs : List Nat)
    (hs : a.eval s = v) (hown : w.ownsRow B 43 1 v n (ptrs bs)) (hx : a.eval x = .slice (some ⟨w.heap.size, 0, none⟩) 1 1) (hB : B ≤ w.heap.size) (hl : n ≤ 10000000)
    (h : ∀ v' w', w'.ownsRow B 43 1 v' (n + 1) (ptrs (bs ++ [p])) → w.grownBy w' v.ownBlock → (∀ g, v'.ownBlock = some g → v.ownBlock = some g ∨ w.heap.size ≤ g) → K (a.put o.dst v') w') :
    o.wp Tryz.prog a (w.alloc (.cells #[.pointer (some ⟨p, 0, none⟩)] 43)) K Q := by
  obtain ⟨i0, hi, hz0, hz1, hz2⟩ := info_parts Tryz.infoRV
  obtain ⟨v', w', hr, hrow, hg, _, hat⟩ := run_append_own_at (P := Tryz.prog) (w.alloc (.cells #[.pointer (some ⟨p, 0, none⟩)] 43)) B 103 o.type 43 i0 (.pointer none) 1 8 Tryz.underlying103 hi hz0 hz1 hz2 rfl (by decide) v n (ptrs bs) (World.ownsRow.alloc hown _) ⟨w.heap.size, 0, none⟩ 1 1 [.pointer (some ⟨p, 0, none⟩)] rfl (cell_one_new _ _ _) (by simp [Value.oneCell']) (by unfold maxLen; omega) (by omega) (by simp; omega)
  unfold Oper.wp execOp
  simp only [ho, resolve, invoke, builtin, Sem.run_bind, Sem.run_pure, Result.andThen_ok, List.map_toArray, List.map_cons, List.map_nil, hs, hx, hr]
  refine h v' w' ?_ ?_ ?_
  · have : ptrs bs ++ [.pointer (some ⟨p, 0, none⟩)] = ptrs (bs ++ [p]) := by simp [ptrs]
    rw [← this]
    exact hrow
  · refine ⟨hg.os, hg.tape, hg.output, ?_, fun k hk hr => ?_⟩
    · have := hg.size; simp at this; omega
    · rw [hg.block k (by simp; omega) hr]
      exact Below.heap_alloc _ _ _ (by omega)
  · intro g hgv
    rcases hat with h2 | h2
    · exact .inl (by rw [← h2]; exact hgv)
    · rw [h2] at hgv
      have := Option.some.inj hgv
      (try simp at this)
      exact .inr (by omega)
def copyR (A : ShR) (k : Int) : (Int × Int) × ShR := match pickA A k with
  | none => ((0, 5), A)
  | some p => (((A.length : Int), 0), A ++ [p])
section
variable {B st : Nat} {w : World} {v : Value} {R : List RV}
/-- a value of a new block is put behind the others: w1 has it, w2 has the new row; then the store's own cell is written -/
theorem RStAt.added (h : RStAt B st w v R) {w1 w2 : World} {v2 : Value} {p : Nat} {t : Str} {n : Int} (hb : Below w.heap.size w w1) (hp : RVal w1 p t n) (hpn : w.heap.size ≤ p)
    (hr : w2.ownsRow B 43 1 v2 (R.length + 1) (ptrs (R.map RV.b ++ [p]))) (hg : w1.grownBy w2 v.ownBlock) (hat : ∀ g, v2.ownBlock = some g → v.ownBlock = some g ∨ w.heap.size ≤ g) :
    w2.cell? ⟨st, 0, none⟩ = some v ∧ w2.frozen? ⟨st, 0, none⟩ = false ∧ (w2.setCell ⟨st, 0, none⟩ v2).cell? ⟨st, 0, none⟩ = some v2 ∧ (∃ a c, v2 = .slice a (R.length + 1) c) ∧ RStep B st w v R (w2.setCell ⟨st, 0, none⟩ v2) (shapeR R ++ [(t, n)]) := by
  have hstl := (Array.getElem?_eq_some_iff.1 h.blk).1
  have hz1 := hb.size
  have hz2 := hg.size
  have hb1 : w1.heap[st]? = some (.cells #[v] 105 (0, 0)) := (hb.block st hstl).trans h.blk
  have nst : v.ownBlock ≠ some st := fun e => by
    obtain ⟨_, cur, hc⟩ := ownsRow_lt h.row st e
    exact kinds_ne h.blk hc (by decide) rfl
  have hb2 : w2.heap[st]? = some (.cells #[v] 105 (0, 0)) := (hg.block st (by omega) (fun e => nst e.symm)).trans hb1
  have nst2 : v2.ownBlock ≠ some st := fun e => by
    obtain ⟨_, cur, hc⟩ := ownsRow_lt hr st e
    exact kinds_ne hb2 hc (by decide) rfl
  have hb3 : (w2.setCell ⟨st, 0, none⟩ v2).heap[st]? = some (.cells #[v2] 105 (0, 0)) := by simp [World.setCell, Array.getElem?_modify, hb2]
  have hset : ∀ k, k ≠ st → (w2.setCell ⟨st, 0, none⟩ v2).heap[k]? = w2.heap[k]? := fun k hk => Below.heap_setCell _ _ _ _ fun e => hk e
  have vkeep : ∀ {b : Nat} {t : Str} {n : Int}, RVal w1 b t n → RVal (w2.setCell ⟨st, 0, none⟩ v2) b t n := by
    intro b t n hv
    have x1 : b ≠ st := kinds_ne hv hb1 (by decide)
    have x2 : v.ownBlock ≠ some b := fun e => by
      obtain ⟨hlt, cur, hc⟩ := ownsRow_lt h.row b e
      exact kinds_ne hv ((hb.block b hlt).trans hc) (by decide) rfl
    show (w2.setCell ⟨st, 0, none⟩ v2).heap[b]? = _
    rw [hset b x1, hg.block b (Array.getElem?_eq_some_iff.1 hv).1 (fun e => x2 e.symm)]
    exact hv
  have hval1 : ∀ x ∈ R, RVal w1 x.b x.t x.n := fun x hx => (h.val x hx).on hb
  refine ⟨by rw [Lib.cell_of_heap hb2]; rfl, Lib.frozen_of_heap hb2 0, by rw [Lib.cell_of_heap hb3]; rfl, ?_, v2, R ++ [⟨p, t, n⟩], ⟨hb3, ?_, ?_, fun x hx => ?_, ⟨h.low.1, by have := h.low.2.1; simp [World.setCell]; omega, fun x hx => ?_⟩⟩, shapeR_app _ _, ?_, fun k hk => ?_⟩
  · rcases hr.2 with ⟨_, h0⟩ | ⟨g, cap, cur, e, _⟩
    · omega
    · exact ⟨_, _, e⟩
  · rw [List.length_append, List.map_append]
    exact ownsRow_heap hr fun g hg' => hset g fun e => nst2 (by rw [hg', e])
  · rw [List.map_append, List.nodup_append]
    refine ⟨h.nd, by simp, fun a ha b hb' => ?_⟩
    obtain ⟨y, hy, rfl⟩ := List.mem_map.1 ha
    simp only [List.map_cons, List.map_nil, List.mem_singleton] at hb'
    subst hb'
    have := (Array.getElem?_eq_some_iff.1 (h.val y hy)).1
    omega
  · rcases List.mem_append.1 hx with hx1 | hx1
    · exact vkeep (hval1 x hx1)
    · rw [List.mem_singleton.1 hx1]
      exact vkeep hp
  · rcases List.mem_append.1 hx with hx1 | hx1
    · exact h.low.2.2 x hx1
    · rw [List.mem_singleton.1 hx1]
      exact Nat.le_trans h.low.2.1 hpn
  · refine ⟨?_, ?_, ?_, by simp [World.setCell]; omega, fun k hk hA => ?_⟩
    · exact hg.os.trans hb.os
    · exact hg.tape.trans hb.tape
    · exact hg.output.trans hb.output
    · have y1 : k ≠ st := fun e => hA (footR_mem.2 (.inl e))
      have y2 : v.ownBlock ≠ some k := fun e => hA (footR_mem.2 (.inr (.inl e)))
      rw [hset k y1, hg.block k (by omega) (fun e => y2 e.symm)]
      exact hb.block k hk
  · rcases footR_mem.1 hk with rfl | hk | ⟨x, hx, rfl⟩
    · exact .inl (footR_mem.2 (.inl rfl))
    · rcases hat k hk with h3 | h3
      · exact .inl (footR_mem.2 (.inr (.inl h3)))
      · exact .inr h3
    · rcases List.mem_append.1 hx with hx1 | hx1
      · exact .inl (footR_mem.2 (.inr (.inr ⟨x, hx1, rfl⟩)))
      · rw [List.mem_singleton.1 hx1]
        exact .inr hpn
set_option maxRecDepth 100000 in
set_option maxHeartbeats 1000000 in
theorem makeR_fn {lv : Value} {l : List Str} (h : RStAt B st w v R) (hv : StrsAt w lv l) (hok : joinOk l) (hn : R.length ≤ 100000) :
    Calls Tryz.prog 65 #[.pointer (some ⟨st, 0, none⟩), lv] w fun e w' => e = .returned (.tuple #[.int .i64 ((shapeR R).length : Nat), .int .i64 0]) ∧ RStep B st w v R w' (shapeR R ++ [(quotedL l, 1)]) := by
  have HO := hid (ofListR_fn hv hok)
  rw [shapeR_len]
  obtain ⟨a0, c0', rfl, _⟩ := hv
  obtain ⟨m, hm⟩ : ∃ m, m = l.length := ⟨_, rfl⟩
  rw [← hm] at HO ⊢
  obtain ⟨a, c, rfl⟩ := h.shape
  obtain ⟨n, hn0⟩ : ∃ n, n = R.length := ⟨_, rfl⟩
  have HN := hid hn0
  have c0 : w.cell? ⟨st, 0, none⟩ = some (.slice a n c) := by rw [Lib.cell_of_heap h.blk, hn0]; rfl
  have hstl := (Array.getElem?_eq_some_iff.1 h.blk).1
  rw [← hn0] at h hn ⊢
  have H := hid h
  generalize quotedL l = Q at HO ⊢
  clear h hok hm hn0
  go_enter Tryz.func65, Tryz.ntmps65
  go_wp2_with fail
  (with_reducible refine HO.out.mono ?_); rintro e w1 ⟨b, rfl, hb, hr, hb1⟩
  have c1 : w1.cell? ⟨st, 0, none⟩ = some (.slice a n c) := (hb1.cell (p := ⟨st, 0, none⟩) hstl).trans c0
  have HB1 := hid hb1
  have HR1 := hid hr
  have hz1 := hb1.size
  have hrow : w1.ownsRow B 43 1 (.slice a n c) n (ptrs (R.map RV.b)) := by
    have := H.out.row
    rw [← HN.out] at this
    exact ownsRow_heap2 this fun g cur hg hc => (hb1.block g (Array.getElem?_eq_some_iff.1 hc).1).trans hc
  have HROW := hid hrow
  have hB1 : B ≤ w1.heap.size := Nat.le_trans H.out.low.2.1 hz1
  clear hb1 hr hrow
  go_wp2_with (at_builtin; go_loud (refine app_ptr (w := w1) rfl (.tmp 22) (.tmp 24) rfl B (.slice a n c) n b (R.map RV.b) rfl HROW.out rfl hB1 (by omega) ?_))
  intro v2 w2 hr2 hg2 hat2
  obtain ⟨k1, k2, k3, ⟨a2, c2, e2⟩, k5⟩ := H.out.added HB1.out HR1.out hb (by rw [← HN.out]; exact hr2) hg2 (fun g hg => (hat2 g hg).imp id fun e => Nat.le_trans hz1 e)
  rw [← HN.out] at e2
  subst e2
  have K5 := hid k5
  clear k5 hr2 hg2 hat2
  go_wp2
  go_ret2
  exact ⟨by congr, K5.out⟩
set_option maxRecDepth 100000 in
set_option maxHeartbeats 2000000 in
theorem addR_fn (h : RStAt B st w v R) (t : Str) (hn : R.length ≤ 100000) :
    Calls Tryz.prog 64 #[.pointer (some ⟨st, 0, none⟩), .string ⟨t.toArray⟩] w fun e w' => e = .returned (.int .i64 ((shapeR R).length : Nat)) ∧ RStep B st w v R w' (shapeR R ++ [(t, 0)]) := by
  rw [shapeR_len]
  have HO := hid (newR_fn t w.drew)
  have hmx : Tryz.prog.follows .mixedOrders = true := by kernel_rfl
  obtain ⟨a, c, rfl⟩ := h.shape
  obtain ⟨n, hn0⟩ : ∃ n, n = R.length := ⟨_, rfl⟩
  have HN := hid hn0
  have c0 : w.cell? ⟨st, 0, none⟩ = some (.slice a n c) := by rw [Lib.cell_of_heap h.blk, hn0]; rfl
  have hstl := (Array.getElem?_eq_some_iff.1 h.blk).1
  rw [← hn0] at h hn ⊢
  have H := hid h
  clear h hn0
  go_enter Tryz.func64, Tryz.ntmps64
  go_wp2
  refine U_begin (late := fun i => i == 11) (S := fun u : World => u.cell? ⟨st, 0, none⟩ = some (.slice a n c)) hmx ?_
  have S0 : Hid ((fun u : World => u.cell? ⟨st, 0, none⟩ = some (.slice a n c)) w.drew) := hid c0
  refine U_take2 8 (i := 0) (v := .pointer (some ⟨st, 0, none⟩)) rfl (by kernel_rfl) (by kernel_rfl) (by kernel_rfl) (by kernel_rfl) (by kernel_rfl) (fun _ _ _ h => h) (.inl ⟨rfl, fun u hu => (by go_simp)⟩) S0.out ?_
  refine U_take2 8 (i := 1) (v := .pointer (some ⟨st, 0, none⟩)) rfl (by kernel_rfl) (by kernel_rfl) (by kernel_rfl) (by kernel_rfl) (by kernel_rfl) (fun _ _ _ h => h) (.inl ⟨rfl, fun u hu => (by go_simp)⟩) S0.out ?_
  refine U_take2 8 (i := 2) (v := .pointer (some ⟨st, 0, none⟩)) rfl (by kernel_rfl) (by kernel_rfl) (by kernel_rfl) (by kernel_rfl) (by kernel_rfl) (fun _ _ _ h => h) (.inl ⟨rfl, fun u hu => (by go_simp)⟩) S0.out ?_
  refine U_take2 8 (i := 3) (v := .pointer (some ⟨st, 0, none⟩)) rfl (by kernel_rfl) (by kernel_rfl) (by kernel_rfl) (by kernel_rfl) (by kernel_rfl) (fun _ _ _ h => h) (.inl ⟨rfl, fun u hu => (by go_simp)⟩) S0.out ?_
  refine U_take2 8 (i := 4) (v := .slice a n c) rfl (by kernel_rfl) (by kernel_rfl) (by kernel_rfl) (by kernel_rfl) (by kernel_rfl) (fun _ _ _ h => h) (.inl ⟨rfl, fun u hu => (by have h1 := hu; go_simp)⟩) S0.out ?_
  refine U_take2 8 (i := 5) (v := .string ⟨t.toArray⟩) rfl (by kernel_rfl) (by kernel_rfl) (by kernel_rfl) (by kernel_rfl) (by kernel_rfl) (fun _ _ _ h => h) (.inl ⟨rfl, fun u hu => (by go_simp)⟩) S0.out ?_
  refine U_step (j := 6) (by kernel_rfl) rfl (fun K hK => ?_)
  go_simp
  (with_reducible refine HO.out.mono ?_); rintro e w1 ⟨rfl, hr1, hb1⟩
  have hb1' : Below w.heap.size w w1 := (Below.refl _ _).drew.trans hb1
  have c1 : w1.cell? ⟨st, 0, none⟩ = some (.slice a n c) := (hb1'.cell (p := ⟨st, 0, none⟩) hstl).trans c0
  refine hK.out _ _ (.inr c1) ?_
  clear hK K
  have hz1 := hb1'.size
  have hrow : w1.ownsRow B 43 1 (.slice a n c) n (ptrs (R.map RV.b)) := by
    have := H.out.row
    rw [← HN.out] at this
    exact ownsRow_heap2 this fun g cur hg hc => (hb1'.block g (Array.getElem?_eq_some_iff.1 hc).1).trans hc
  have hB1 : B ≤ w1.heap.size := Nat.le_trans H.out.low.2.1 hz1
  have c1' : (w1.alloc (.cells #[.pointer (some ⟨w.drew.heap.size, 0, none⟩)] 43)).cell? ⟨st, 0, none⟩ = some (.slice a n c) := ((belowA w1 _).cell (p := ⟨st, 0, none⟩) (by show st < _; omega)).trans c1
  refine U_step (j := 7) (by kernel_rfl) rfl (fun K hK => ?_)
  go_simp
  refine hK.out _ _ (.inr c1') ?_
  clear hK K
  refine U_step (j := 8) (by kernel_rfl) rfl (fun K hK => ?_)
  rw [if_pos (show Region.wanted _ _ = true by simp [Region.wanted])]
  refine app_ptr_op (w := w1) (.tmp 11) (.tmp 14) rfl B (.slice a n c) n w.drew.heap.size (R.map RV.b) rfl hrow rfl hB1 (by omega) ?_
  intro v2 w2 hr2 hg2 hat2
  obtain ⟨k1, k2, k3, ⟨a2, c2, e2⟩, k5⟩ := H.out.added hb1' hr1 (Nat.le_refl _) (by rw [← HN.out]; exact hr2) hg2 (fun g hg => (hat2 g hg).imp id fun e => Nat.le_trans hz1 e)
  rw [← HN.out] at e2
  subst e2
  have K5 := hid k5
  refine hK.out _ _ (.inr k1) ?_
  clear hK K
  have S2 : Hid ((fun u : World => u.cell? ⟨st, 0, none⟩ = some (.slice a n c)) w2) := hid k1
  refine U_take2 8 (i := 9) (v := .pointer (some ⟨st, 0, none⟩)) rfl (by kernel_rfl) (by kernel_rfl) (by kernel_rfl) (by kernel_rfl) (by kernel_rfl) (fun _ _ _ h => h) (.inl ⟨rfl, fun u hu => (by go_simp)⟩) S2.out ?_
  refine U_take2 8 (i := 10) (v := .pointer (some ⟨st, 0, none⟩)) rfl (by kernel_rfl) (by kernel_rfl) (by kernel_rfl) (by kernel_rfl) (by kernel_rfl) (fun _ _ _ h => h) (.inl ⟨rfl, fun u hu => (by go_simp)⟩) S2.out ?_
  refine U_step (j := 11) (by kernel_rfl) rfl (fun K hK => ?_)
  go_simp
  refine hK.out _ _ (.inl rfl) ?_
  clear hK K
  refine U_done (by kernel_rfl) ?_ _
  clear k5 hr2 hg2 hat2 S0 S2 c0 c1 c1' hb1 hb1' hrow
  go_wp2
  go_ret
  exact ⟨by congr, K5.out⟩
set_option maxRecDepth 100000 in
set_option maxHeartbeats 1000000 in
theorem copyR_fn (h : RStAt B st w v R) (k : Int) (hn : R.length ≤ 100000) :
    Calls Tryz.prog 67 #[.pointer (some ⟨st, 0, none⟩), .int .i64 k] w fun e w' => e = .returned (.tuple #[.int .i64 (copyR (shapeR R) k).1.1, .int .i64 (copyR (shapeR R) k).1.2]) ∧ RStep B st w v R w' (copyR (shapeR R) k).2 := by
  unfold copyR
  rw [pickA_shapeR, shapeR_len]
  have HA := at_fn h k
  cases hp : pickA R k with
  | none =>
    rw [hp] at HA
    have HA := hid HA
    have HS := hid (h.same (Below.refl _ _))
    clear h hp
    unfold atP at HA
    dsimp only [Option.map] at HA ⊢
    go_enter Tryz.func67, Tryz.ntmps67
    go_wp2_with fail
    (with_reducible refine HA.out.mono ?_); rintro e w1 ⟨rfl, hw⟩; subst hw
    go_wp2
    go_ret2
    exact ⟨rfl, HS.out⟩
  | some x =>
    rw [hp] at HA
    have HA := hid HA
    obtain ⟨i, rfl, hi⟩ := pickA_some hp
    have hv := h.val x (List.mem_of_getElem? hi)
    obtain ⟨a, c, rfl⟩ := h.shape
    obtain ⟨n, hn0⟩ : ∃ n, n = R.length := ⟨_, rfl⟩
    have HN := hid hn0
    have c0 : w.cell? ⟨st, 0, none⟩ = some (.slice a n c) := by rw [Lib.cell_of_heap h.blk, hn0]; rfl
    have hstl := (Array.getElem?_eq_some_iff.1 h.blk).1
    have d0 : w.cell? ⟨x.b, 0, none⟩ = some (.string ⟨x.t.toArray⟩) := by rw [Lib.cell_of_heap hv]; rfl
    have d1 : w.cell? ⟨x.b, 1, none⟩ = some (.int .i64 x.n) := by rw [Lib.cell_of_heap hv]; rfl
    obtain ⟨w1, hw1⟩ : ∃ w1, w1 = w.alloc (.cells #[.string ⟨x.t.toArray⟩, .int .i64 x.n] 80) := ⟨_, rfl⟩
    have hb1 : Below w.heap.size w w1 := by rw [hw1]; exact belowA _ _
    have hr1 : RVal w1 w.heap.size x.t x.n := by rw [hw1]; exact heap_alloc_new _ _
    have c1 : w1.cell? ⟨st, 0, none⟩ = some (.slice a n c) := (hb1.cell (p := ⟨st, 0, none⟩) hstl).trans c0
    rw [← hn0] at h hn ⊢
    have H := hid h
    have hz1 := hb1.size
    have hrow : w1.ownsRow B 43 1 (.slice a n c) n (ptrs (R.map RV.b)) := by
      have := H.out.row
      rw [← HN.out] at this
      exact ownsRow_heap2 this fun g cur hg hc => (hb1.block g (Array.getElem?_eq_some_iff.1 hc).1).trans hc
    have HROW := hid hrow
    have hB1 : B ≤ w1.heap.size := Nat.le_trans H.out.low.2.1 hz1
    have HB1 := hid hb1
    have HR1 := hid hr1
    have hs1 : w1.heap.size = w.heap.size + 1 := by rw [hw1]; simp
    rw [hw1] at c1
    have HW1 := hid hw1
    clear h hp hv hi hn0 hb1 hr1 hrow hw1
    unfold atP at HA
    dsimp only [Option.map] at HA ⊢
    go_enter Tryz.func67, Tryz.ntmps67
    go_wp2_with fail
    (with_reducible refine HA.out.mono ?_); rintro e w1' ⟨rfl, hw⟩; subst hw
    go_wp2_with (at_builtin; rw [← HW1.out]; go_loud (refine app_ptr (w := w1) rfl (.tmp 20) (.tmp 21) rfl B (.slice a n c) n w1'.heap.size (R.map RV.b) rfl HROW.out (by rw [hs1]; rfl) hB1 (by omega) ?_))
    intro v2 w2 hr2 hg2 hat2
    obtain ⟨k1, k2, k3, ⟨a2, c2, e2⟩, k5⟩ := H.out.added HB1.out HR1.out (Nat.le_refl _) (by rw [← HN.out]; exact hr2) hg2 (fun g hg => (hat2 g hg).imp id fun e => by omega)
    rw [← HN.out] at e2
    subst e2
    have K5 := hid k5
    clear k5 hr2 hg2 hat2
    go_wp2
    go_ret2
    exact ⟨by congr, K5.out⟩
end
end Go.Proofs.YtabhkoklcjhlpaaGreatDoor.Pz
/-
  The reference's store: Ask, Element, Append, Forget.
-/
namespace Go.Proofs.YtabhkoklcjhlpaaGreatDoor.Pz
open Go.RowKit
def askR (A : ShR) (k n : Int) : Int × ShR := match pickA A k with
  | none => (5, A)
  | some p => ((askRef n p.1 p.2).1, A.set k.toNat (p.1, (askRef n p.1 p.2).2))
def elemR (A : ShR) (k j : Int) : (Str × Int) × ShR := match pickA A k with
  | none => (([], 5), A)
  | some p => (if (splitE p.1).2.2 = 0 then pickS (splitE p.1).1 j else ([], (splitE p.1).2.2), A.set k.toNat (p.1, faceIf (splitE p.1).2.2 1 p.2))
def appendR (A : ShR) (k : Int) (s : Str) : Int × ShR := match pickA A k with
  | none => (5, A)
  | some p => if p.1.length + s.length ≤ 65536 then (0, A.set k.toNat (p.1 ++ s, 0)) else (3, A)
def forgetR (A : ShR) : ShR := A.map fun p => (p.1, 0)
section
variable {B st : Nat} {w : World} {v : Value} {R : List RV}
set_option maxRecDepth 100000 in
set_option maxHeartbeats 1000000 in
theorem askR_fn (h : RStAt B st w v R) (hlen : ∀ x ∈ R, x.t.length ≤ 65536) (k n : Int) :
    Calls Tryz.prog 68 #[.pointer (some ⟨st, 0, none⟩), .int .i64 k, .int .i64 n] w fun e w' => e = .returned (.int .i64 (askR (shapeR R) k n).1) ∧ RStep B st w v R w' (askR (shapeR R) k n).2 := by
  unfold askR
  rw [pickA_shapeR]
  have HA := at_fn h k
  cases hp : pickA R k with
  | none =>
    rw [hp] at HA
    have HA := hid HA
    have HS := hid (h.same (Below.refl _ _))
    clear h hp
    unfold atP at HA
    dsimp only [Option.map] at HA ⊢
    go_enter Tryz.func68, Tryz.ntmps68
    go_wp2_with fail
    (with_reducible refine HA.out.mono ?_); rintro e w1 ⟨rfl, hw⟩; subst hw
    go_wp2
    go_ret
    exact ⟨rfl, HS.out⟩
  | some x =>
    rw [hp] at HA
    have HA := hid HA
    obtain ⟨i, rfl, hi⟩ := pickA_some hp
    have hv := h.val x (List.mem_of_getElem? hi)
    have hxl := hlen x (List.mem_of_getElem? hi)
    have HI := hid hi
    have HV := hid hv
    have H := hid h
    unfold atP at HA
    dsimp only [Option.map] at HA ⊢
    rw [Int.toNat_natCast]
    unfold askRef
    by_cases h0 : n = 0
    · subst h0
      rw [if_pos rfl]
      dsimp only
      have hz := HV.out.faced 0
      have HZ := hid (H.out.wrote HI.out hz.2 hz.1)
      have d0 : w.cell? ⟨x.b, 1, none⟩ = some (.int .i64 x.n) := by rw [Lib.cell_of_heap hv]; rfl
      have d1 : w.frozen? ⟨x.b, 1, none⟩ = false := Lib.frozen_of_heap hv 1
      clear h hp hv hi hz
      go_enter Tryz.func68, Tryz.ntmps68
      go_wp2_with fail
      (with_reducible refine HA.out.mono ?_); rintro e w1 ⟨rfl, hw⟩; subst hw
      go_wp2
      go_ret
      exact ⟨rfl, HZ.out⟩
    · rw [if_neg h0]
      by_cases h1 : n = 1
      · subst h1
        rw [if_pos rfl]
        dsimp only
        have HC := listR5_fn hv (by omega)
        generalize splitE x.t = E at HC ⊢
        obtain ⟨e1, e2, e3⟩ := E
        dsimp only at HC ⊢
        have HC := hid HC
        clear h hp hv hi h0
        go_enter Tryz.func68, Tryz.ntmps68
        go_wp2_with fail
        (with_reducible refine HA.out.mono ?_); rintro e w1 ⟨rfl, hw⟩; subst hw
        go_wp2_with fail
        (with_reducible refine HC.out.mono ?_); rintro e w2 ⟨u, rfl, hru, ho, hr⟩
        obtain ⟨au, cu, rfl⟩ := hru.shape
        clear hru
        have HZ := hid (H.out.wrote HI.out ho hr)
        clear ho hr
        go_wp2
        go_ret
        exact ⟨rfl, HZ.out⟩
      rw [if_neg h1]
      by_cases h2 : n = 2
      · subst h2
        rw [if_pos rfl]
        dsimp only
        have HC := numR5_fn hv (by omega)
        generalize canRes x.t = E at HC ⊢
        obtain ⟨e1, e3⟩ := E
        dsimp only at HC ⊢
        have HC := hid HC
        clear h hp hv hi h0 h1
        go_enter Tryz.func68, Tryz.ntmps68
        go_wp2_with fail
        (with_reducible refine HA.out.mono ?_); rintro e w1 ⟨rfl, hw⟩; subst hw
        go_wp2_with fail
        (with_reducible refine HC.out.mono ?_); rintro e w2 ⟨rfl, ho, hr⟩
        have HZ := hid (H.out.wrote HI.out ho hr)
        clear ho hr
        go_wp2
        go_ret
        exact ⟨rfl, HZ.out⟩
      rw [if_neg h2]
      by_cases h3 : n = 3
      · subst h3
        rw [if_pos rfl]
        dsimp only
        have HC := pairsR5_fn hv (by omega)
        generalize pairsE x.t = E at HC ⊢
        obtain ⟨e1, e3⟩ := E
        dsimp only at HC ⊢
        have HC := hid HC
        clear h hp hv hi h0 h1 h2
        go_enter Tryz.func68, Tryz.ntmps68
        go_wp2_with fail
        (with_reducible refine HA.out.mono ?_); rintro e w1 ⟨rfl, hw⟩; subst hw
        go_wp2_with fail
        (with_reducible refine HC.out.mono ?_); rintro e w2 ⟨u, rfl, hru, ho, hr⟩
        obtain ⟨au, cu, rfl⟩ := hru.shape
        clear hru
        have HZ := hid (H.out.wrote HI.out ho hr)
        clear ho hr
        go_wp2
        go_ret
        exact ⟨rfl, HZ.out⟩
      rw [if_neg h3]
      dsimp only
      have e1 : (n == 0) = false := by rw [beq_eq_false_iff_ne]; exact h0
      have e2 : (n == 1) = false := by rw [beq_eq_false_iff_ne]; exact h1
      have e3 : (n == 2) = false := by rw [beq_eq_false_iff_ne]; exact h2
      have e4 : (n == 3) = false := by rw [beq_eq_false_iff_ne]; exact h3
      have HZ := hid (show RStep B st w v R w ((shapeR R).set i (x.t, x.n)) from H.out.wrote HI.out (Only.refl _ _) hv)
      clear h hp hv hi h0 h1 h2 h3
      go_enter Tryz.func68, Tryz.ntmps68
      go_wp2_with fail
      (with_reducible refine HA.out.mono ?_); rintro e w1 ⟨rfl, hw⟩; subst hw
      go_wp2
      go_ret
      exact ⟨rfl, HZ.out⟩
set_option maxRecDepth 100000 in
set_option maxHeartbeats 1000000 in
theorem elemR_fn (h : RStAt B st w v R) (hlen : ∀ x ∈ R, x.t.length ≤ 65536) (k j : Int) :
    Calls Tryz.prog 69 #[.pointer (some ⟨st, 0, none⟩), .int .i64 k, .int .i64 j] w fun e w' => e = .returned (.tuple #[.string ⟨(elemR (shapeR R) k j).1.1.toArray⟩, .int .i64 (elemR (shapeR R) k j).1.2]) ∧ RStep B st w v R w' (elemR (shapeR R) k j).2 := by
  unfold elemR
  rw [pickA_shapeR]
  have HA := at_fn h k
  cases hp : pickA R k with
  | none =>
    rw [hp] at HA
    have HA := hid HA
    have HS := hid (h.same (Below.refl _ _))
    clear h hp
    unfold atP at HA
    dsimp only [Option.map] at HA ⊢
    go_enter Tryz.func69, Tryz.ntmps69
    go_wp2_with fail
    (with_reducible refine HA.out.mono ?_); rintro e w1 ⟨rfl, hw⟩; subst hw
    go_wp2
    go_ret2
    exact ⟨rfl, HS.out⟩
  | some x =>
    rw [hp] at HA
    have HA := hid HA
    obtain ⟨i, rfl, hi⟩ := pickA_some hp
    have hv := h.val x (List.mem_of_getElem? hi)
    have hxl := hlen x (List.mem_of_getElem? hi)
    have HI := hid hi
    have HV := hid hv
    have H := hid h
    unfold atP at HA
    dsimp only [Option.map] at HA ⊢
    rw [Int.toNat_natCast]
    have HC := listR5_fn hv (by omega)
    generalize splitE x.t = E at HC ⊢
    obtain ⟨l, at0, er⟩ := E
    dsimp only at HC ⊢
    have HC := hid HC
    clear h hp hv hi
    by_cases he : er = 0
    · subst he
      rw [if_pos rfl]
      unfold pickS
      by_cases h0 : 0 ≤ j
      · obtain ⟨m, rfl⟩ := Int.eq_ofNat_of_zero_le h0
        rw [if_pos h0, Int.toNat_natCast]
        clear h0
        by_cases hm : m < l.length
        · rw [List.getElem?_eq_getElem hm]
          obtain ⟨s, hs⟩ : ∃ s, s = l[m] := ⟨_, rfl⟩
          rw [← hs]
          have HS := hid hs
          dsimp only
          clear hs
          go_enter Tryz.func69, Tryz.ntmps69
          go_wp2_with fail
          (with_reducible refine HA.out.mono ?_); rintro e w1 ⟨rfl, hw⟩; subst hw
          go_wp2_with fail
          (with_reducible refine HC.out.mono ?_); rintro e w2 ⟨u, rfl, hru, ho, hr⟩
          obtain ⟨au, cu, rfl⟩ := hru.shape
          obtain ⟨g, rfl, hx1, hc⟩ := hru.at hm
          obtain ⟨n, hn⟩ : ∃ n, n = l.length := ⟨_, rfl⟩
          have hlt : ¬ ((m : Int) < 0) := by omega
          have hge : ¬ ((m : Int) ≥ (n : Int)) := by omega
          have hmn : m < n := by omega
          rw [← HS.out] at hc
          rw [← hn]
          have HZ := hid (H.out.wrote HI.out ho hr)
          clear hru ho hr hn hx1
          go_wp2
          go_ret2
          exact ⟨rfl, HZ.out⟩
        · rw [List.getElem?_eq_none (by omega)]
          dsimp only
          go_enter Tryz.func69, Tryz.ntmps69
          go_wp2_with fail
          (with_reducible refine HA.out.mono ?_); rintro e w1 ⟨rfl, hw⟩; subst hw
          go_wp2_with fail
          (with_reducible refine HC.out.mono ?_); rintro e w2 ⟨u, rfl, hru, ho, hr⟩
          obtain ⟨au, cu, rfl⟩ := hru.shape
          obtain ⟨n, hn⟩ : ∃ n, n = l.length := ⟨_, rfl⟩
          have hlt : ¬ ((m : Int) < 0) := by omega
          have hge : (m : Int) ≥ (n : Int) := by omega
          rw [← hn]
          have HZ := hid (H.out.wrote HI.out ho hr)
          clear hru ho hr hn hm
          go_wp2
          go_ret2
          exact ⟨rfl, HZ.out⟩
      · rw [if_neg h0]
        have hlt : j < 0 := by omega
        dsimp only
        go_enter Tryz.func69, Tryz.ntmps69
        go_wp2_with fail
        (with_reducible refine HA.out.mono ?_); rintro e w1 ⟨rfl, hw⟩; subst hw
        go_wp2_with fail
        (with_reducible refine HC.out.mono ?_); rintro e w2 ⟨u, rfl, hru, ho, hr⟩
        obtain ⟨au, cu, rfl⟩ := hru.shape
        generalize l.length = n
        have HZ := hid (H.out.wrote HI.out ho hr)
        have hun : undef = .tuple #[] := rfl
        clear hru ho hr h0
        go_wp2
        go_ret2
        exact ⟨rfl, HZ.out⟩
    · rw [if_neg he]
      have hne : (er != 0) = true := by rw [bne_iff_ne]; exact he
      dsimp only
      go_enter Tryz.func69, Tryz.ntmps69
      go_wp2_with fail
      (with_reducible refine HA.out.mono ?_); rintro e w1 ⟨rfl, hw⟩; subst hw
      go_wp2_with fail
      (with_reducible refine HC.out.mono ?_); rintro e w2 ⟨u, rfl, hru, ho, hr⟩
      obtain ⟨au, cu, rfl⟩ := hru.shape
      generalize l.length = n
      have HZ := hid (H.out.wrote HI.out ho hr)
      clear hru ho hr
      go_wp2
      go_ret2
      exact ⟨rfl, HZ.out⟩
set_option maxRecDepth 100000 in
set_option maxHeartbeats 1000000 in
theorem appendR_fn (h : RStAt B st w v R) (hlen : ∀ x ∈ R, x.t.length ≤ 65536) (k : Int) (s : Str) (hsl : s.length ≤ 1000000) :
    Calls Tryz.prog 71 #[.pointer (some ⟨st, 0, none⟩), .int .i64 k, .string ⟨s.toArray⟩] w fun e w' => e = .returned (.int .i64 (appendR (shapeR R) k s).1) ∧ RStep B st w v R w' (appendR (shapeR R) k s).2 := by
  unfold appendR
  rw [pickA_shapeR]
  have HA := at_fn h k
  cases hp : pickA R k with
  | none =>
    rw [hp] at HA
    have HA := hid HA
    have HS := hid (h.same (Below.refl _ _))
    clear h hp
    unfold atP at HA
    dsimp only [Option.map] at HA ⊢
    go_enter Tryz.func71, Tryz.ntmps71
    go_wp2_with fail
    (with_reducible refine HA.out.mono ?_); rintro e w1 ⟨rfl, hw⟩; subst hw
    go_wp2
    go_ret
    exact ⟨rfl, HS.out⟩
  | some x =>
    rw [hp] at HA
    have HA := hid HA
    obtain ⟨i, rfl, hi⟩ := pickA_some hp
    have hv := h.val x (List.mem_of_getElem? hi)
    have hxl := hlen x (List.mem_of_getElem? hi)
    have HI := hid hi
    have HV := hid hv
    have H := hid h
    unfold atP at HA
    dsimp only [Option.map] at HA ⊢
    rw [Int.toNat_natCast]
    have hsz : (⟨s.toArray⟩ : ByteArray).size = s.length := Lib.size_mk _
    have hxz : (⟨x.t.toArray⟩ : ByteArray).size = x.t.length := Lib.size_mk _
    have c0 : w.cell? ⟨x.b, 0, none⟩ = some (.string ⟨x.t.toArray⟩) := by rw [Lib.cell_of_heap hv]; rfl
    have f0 : w.frozen? ⟨x.b, 0, none⟩ = false := Lib.frozen_of_heap hv 0
    by_cases hle : x.t.length + s.length ≤ 65536
    · rw [if_pos hle]
      have hgt : ¬ (((x.t.length : Nat) : Int) + ((s.length : Nat) : Int) > 65536) := by omega
      dsimp only
      have happ : (⟨x.t.toArray⟩ : ByteArray) ++ ⟨s.toArray⟩ = ⟨(x.t ++ s).toArray⟩ := by rw [ByteArray.ext_iff]; simp
      obtain ⟨w1, hw1⟩ : ∃ w1, w1 = w.setCell ⟨x.b, 0, none⟩ (.string (⟨x.t.toArray⟩ ++ ⟨s.toArray⟩)) := ⟨_, rfl⟩
      have hr1 : RVal w1 x.b (x.t ++ s) x.n := by
        rw [hw1, happ]
        unfold RVal at hv ⊢
        simp [World.setCell, Array.getElem?_modify, hv]
      have ho1 : Only [x.b] w w1 := by rw [hw1]; exact Only.set (by simp) _
      have c1 : w1.cell? ⟨x.b, 1, none⟩ = some (.int .i64 x.n) := by rw [Lib.cell_of_heap hr1]; rfl
      have f1 : w1.frozen? ⟨x.b, 1, none⟩ = false := Lib.frozen_of_heap hr1 1
      have hz := hr1.faced 0
      have HZ := hid (H.out.wrote HI.out (ho1.trans hz.2) hz.1)
      rw [hw1] at c1 f1
      have HW1 := hid hw1
      clear h hp hv hi hz hr1 ho1 hw1 hle happ
      go_enter Tryz.func71, Tryz.ntmps71
      go_wp2_with fail
      (with_reducible refine HA.out.mono ?_); rintro e w1' ⟨rfl, hw⟩; subst hw
      go_wp2
      go_ret
      refine ⟨rfl, ?_⟩
      have := HZ.out
      rw [HW1.out] at this
      exact this
    · rw [if_neg hle]
      have hgt : ((x.t.length : Nat) : Int) + ((s.length : Nat) : Int) > 65536 := by omega
      dsimp only
      have HS := hid (h.same (Below.refl _ _))
      clear h hp hv hi hle
      go_enter Tryz.func71, Tryz.ntmps71
      go_wp2_with fail
      (with_reducible refine HA.out.mono ?_); rintro e w1 ⟨rfl, hw⟩; subst hw
      go_wp2
      go_ret
      exact ⟨rfl, HS.out⟩
end
end Go.Proofs.YtabhkoklcjhlpaaGreatDoor.Pz
