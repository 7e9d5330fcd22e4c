/-
  A region that draws its order: loads may be taken first although the region's last operations write the cells that they read: the condition on the world is asked only as long as loads are waited for.
-/
import Derived.Test.YtkhgoeippamobaaGreatDoorNumInt
import Derived.OrdersHeld
namespace Go.Proofs.YtkhgoeippamobaaGreatDoor
open Go.RowKit
section
variable {P : Program} {ops : Array Oper} {Q : Exit → Act → World → Prop} {md : Region.Mode} {S : World → Prop} {late : Nat → Bool}
/-- whatever order is picked; behind each operation that is not late, S holds -/
def anyU (P : Program) (md : Region.Mode) (ops : Array Oper) (Q : Exit → Act → World → Prop) (late : Nat → Bool) (S : World → Prop) : Nat → Array Bool → Act → World → Prop
  | 0, listed, a, w => Region.ready md ops listed = [] ∧ Q .normal a w
  | fuel + 1, listed, a, w => (Region.ready md ops listed = [] → Q .normal a w) ∧
      ∀ i ∈ Region.ready md ops listed, wpOp P ops Q i (fun b u => (late i = true ∨ S u) ∧ anyU P md ops Q late S fuel (listed.setIfInBounds i true) b u) a w
theorem any_of_U : ∀ (fuel : Nat) (listed : Array Bool) (a : Act) (w : World), anyU P md ops Q late S fuel listed a w → wpAny P md ops Q fuel listed a w
  | 0, _, _, _, h => h
  | fuel + 1, _, _, _, h => ⟨h.1, fun i hi => wpOp_mono (fun b u k => any_of_U fuel _ b u k.2) (h.2 i hi)⟩
theorem unlisted_of_ready {i : Nat} {listed : Array Bool} (h : i ∈ Region.ready md ops listed) : listed.getD i false = false := by
  have h0 := (mem_ready.1 h).1
  by_cases hlt : i < listed.size
  · simp [hlt] at h0 ⊢; exact h0
  · simp [Array.getElem?_eq_none (Nat.le_of_not_lt hlt)]
/-- what is listed has all that it waits for listed -/
def Closed (md : Region.Mode) (ops : Array Oper) (listed : Array Bool) : Prop := ∀ j oj, ops[j]? = some oj → listed.getD j false = true → ∀ e ∈ oj.after, Region.binds md e = true → listed.getD e.on false = true
theorem Closed.add {j : Nat} {listed : Array Bool} (h : Closed md ops listed) (hj : j ∈ Region.ready md ops listed) : Closed md ops (listed.setIfInBounds j true) := by
  obtain ⟨_, oj, hoj, hall⟩ := mem_ready.1 hj
  intro k ok hk hl e he hb
  apply getD_set_true
  rcases Nat.decEq j k with hjk | rfl
  · rw [getD_set_ne false hjk] at hl
    exact h k ok hk hl e he hb
  · have := Option.some.inj (hoj.symm.trans hk)
    subst this
    exact hall e he hb
/-- number j waits for number i, by one step or two -/
def waitsB (md : Region.Mode) (ops : Array Oper) (j i : Nat) : Bool :=
  ((ops[j]?).map fun o => o.after.any fun e => Region.binds md e && (e.on == i || ((ops[e.on]?).map fun o' => o'.after.any fun e' => Region.binds md e' && e'.on == i).getD false)).getD false
theorem waitsB_listed {i j : Nat} {listed : Array Bool} (h : waitsB md ops j i = true) (hc : Closed md ops listed) (hj : j ∈ Region.ready md ops listed) : listed.getD i false = true := by
  obtain ⟨_, oj, hoj, hall⟩ := mem_ready.1 hj
  unfold waitsB at h
  rw [hoj] at h
  have h2 : (oj.after.any fun e => Region.binds md e && (e.on == i || ((ops[e.on]?).map fun o' => o'.after.any fun e' => Region.binds md e' && e'.on == i).getD false)) = true := h
  obtain ⟨e, he, hb⟩ := Array.any_eq_true'.1 h2
  simp only [Bool.and_eq_true, Bool.or_eq_true, beq_iff_eq] at hb
  rcases hb.2 with h3 | h3
  · rw [← h3]; exact hall e he hb.1
  · cases ho : ops[e.on]? with
    | none => rw [ho] at h3; cases h3
    | some o' =>
      rw [ho] at h3
      have h4 : (o'.after.any fun e' => Region.binds md e' && e'.on == i) = true := h3
      obtain ⟨e', he', hb'⟩ := Array.any_eq_true'.1 h4
      simp only [Bool.and_eq_true, beq_iff_eq] at hb'
      rw [← hb'.2]
      exact hc e.on o' ho (hall e he hb.1) e' he' hb'.1
theorem U_first {i : Nat} {oi : Oper} {v : Value} (hi : ops[i]? = some oi) (hsel : ∀ (j : Nat) (o : Oper) cs b, ops[j]? = some o → o.op ≠ .select cs b)
    (hQ : ∀ c a w, Q (.panic c) (a.put oi.dst v) w → Q (.panic c) a w)
    (hlate : ∀ j, j < ops.size → late j = true → waitsB md ops j i = true) :
    ∀ (fuel : Nat) (listed : Array Bool) (a : Act) (w : World), Closed md ops listed →
      (∀ j oj, ops[j]? = some oj → j ≠ i → listed.getD j true = false → (∀ e ∈ oj.after, Region.binds md e = true → e.on ≠ i) → oi.apart ops oj = true) →
      i ∈ Region.ready md ops listed → YieldsIf P ops S oi v a → S w →
      anyU P md ops Q late S fuel (listed.setIfInBounds i true) (a.put oi.dst v) w → anyU P md ops Q late S (fuel + 1) listed a w
  | 0, listed, a, w, _, _, hr, hy, hS, H => by
    refine ⟨fun h => (by rw [h] at hr; cases hr), fun j hj => ?_⟩
    rcases Nat.decEq j i with hji | rfl
    · have hm := ready_mono hj hji
      rw [H.1] at hm; cases hm
    · exact hy.wpOp hi hS ⟨.inr hS, H⟩
  | fuel + 1, listed, a, w, hcl, hfree, hr, hy, hS, H => by
    refine ⟨fun h => (by rw [h] at hr; cases hr), fun j hj => ?_⟩
    rcases Nat.decEq j i with hji | rfl
    · obtain ⟨hjun, oj, hoj, hall⟩ := mem_ready.1 hj
      have hno : ∀ e ∈ oj.after, Region.binds md e = true → e.on ≠ i := fun e he hb heq => by
        have h1 := hall e he hb
        rw [heq, unlisted_of_ready hr] at h1; cases h1
      have hnl : ¬ late j = true := fun hl => by
        have h1 := waitsB_listed (hlate j (Array.getElem?_eq_some_iff.1 hoj).1 hl) hcl hj
        rw [unlisted_of_ready hr] at h1; cases h1
      have h2 := wpOp_putIf hoj (hfree j oj hoj hji hjun hno) (fun cs b => hsel i oi cs b hi) (fun cs b => hsel j oj cs b hoj) hQ hy (H.2 j (ready_mono hj hji))
      refine wpOp_mono (fun b u k => ?_) h2
      have hSu := k.2.1.resolve_left hnl
      refine ⟨.inr hSu, U_first hi hsel hQ hlate fuel _ b u (hcl.add hj) ?_ (ready_mono hr (Ne.symm hji)) k.1 hSu ?_⟩
      · intro l ol hol hli hun hw
        refine hfree l ol hol hli ?_ hw
        by_cases hjl : j = l
        · exact hjl ▸ hjun
        · rwa [getD_set_ne true hjl] at hun
      · rw [Array.setIfInBounds_comm _ _ hji]; exact k.2.2
    · exact hy.wpOp hi hS ⟨.inr hS, H⟩
def lateB (md : Region.Mode) (ops : Array Oper) (late : Nat → Bool) (i : Nat) : Bool := (List.range ops.size).all fun j => !late j || waitsB md ops j i
theorem lateB_spec {i : Nat} (h : lateB md ops late i = true) (j : Nat) (hj : j < ops.size) (hl : late j = true) : waitsB md ops j i = true := by
  have h1 := List.all_eq_true.1 h j (List.mem_range.2 hj)
  rwa [hl] at h1
def closedB (md : Region.Mode) (ops : Array Oper) (listed : Array Bool) : Bool := (List.range ops.size).all fun j => !listed.getD j false || ((ops[j]?).map fun o => o.after.all fun e => !Region.binds md e || listed.getD e.on false).getD true
theorem closedB_spec {listed : Array Bool} (h : closedB md ops listed = true) : Closed md ops listed := by
  intro j oj hj hl e he hb
  have h1 := List.all_eq_true.1 h j (List.mem_range.2 (Array.getElem?_eq_some_iff.1 hj).1)
  rw [hl, hj] at h1
  have h2 : (oj.after.all fun e => !Region.binds md e || listed.getD e.on false) = true := h1
  have h3 := Array.all_eq_true_iff_forall_mem.1 h2 e he
  rw [hb] at h3
  exact h3
theorem U_take {i : Nat} {oi : Oper} {v : Value} {fuel : Nat} {listed : Array Bool} {a : Act} {w : World} (hi : ops[i]? = some oi)
    (hs : Region.noSelect ops = true) (hf : Region.free md ops listed i = true) (hr : (Region.ready md ops listed).contains i = true) (hl : lateB md ops late i = true) (hc : closedB md ops listed = true)
    (hQ : ∀ c a w, Q (.panic c) (a.put oi.dst v) w → Q (.panic c) a w) (hy : YieldsIf P ops S oi v a) (hS : S w)
    (h : anyU P md ops Q late S fuel (listed.setIfInBounds i true) (a.put oi.dst v) w) : anyU P md ops Q late S (fuel + 1) listed a w :=
  U_first hi (Region.noSelect_spec hs) hQ (lateB_spec hl) fuel listed a w (closedB_spec hc) (Region.free_spec hi hf) (by simpa using hr) hy hS h
theorem U_begin {id : Nat} {a : Act} {w : World} (hm : P.follows .mixedOrders = true) (h : anyU P .any ops Q late S ops.size (Array.replicate ops.size false) a w.drew) : (Code.region id ops true).wp P Q a w :=
  wp_region_any hm (any_of_U _ _ _ _ h)
/-- one operation alone may come up -/
theorem U_step {j : Nat} {o : Oper} {fuel : Nat} {listed : Array Bool} {a : Act} {w : World} (hr : Region.ready md ops listed = [j]) (ho : ops[j]? = some o)
    (h : ∀ K : Act → World → Prop, Hid (∀ b u, (late j = true ∨ S u) → anyU P md ops Q late S fuel (listed.setIfInBounds j true) b u → K b u) → if Region.wanted o (yielded ops a.tmps) = true then Oper.wp P o a w K Q else K (a.put o.dst undef) w) :
    anyU P md ops Q late S (fuel + 1) listed a w := by
  refine ⟨fun h0 => (by rw [hr] at h0; cases h0), fun i hi => ?_⟩
  rw [hr] at hi
  obtain rfl : i = j := by simpa using hi
  exact wpOp_step ho fun K hK => h K fun b u h1 h2 => hK b u ⟨h1, h2⟩
theorem U_done {listed : Array Bool} {a : Act} {w : World} (hr : Region.ready md ops listed = []) (h : Q .normal a w) : ∀ fuel, anyU P md ops Q late S fuel listed a w
  | 0 => ⟨hr, h⟩
  | _ + 1 => ⟨fun _ => h, by rw [hr]; simp⟩
end
end Go.Proofs.YtkhgoeippamobaaGreatDoor
