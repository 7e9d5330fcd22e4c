/-
  Numbers with a sign.
-/
import Derived.Test.YtkhgoeippamobaaGreatDoorOver
import Derived.Test.YtkhgoeippamobaaGreatDoorTimes
namespace Go.Proofs.YtkhgoeippamobaaGreatDoor
open Go.RowKit
/-- a number of package big: its size, its sign, whether it is too long -/
def NumV (w : World) (v : Value) (n : Nat) (neg lg : Bool) : Prop := ∃ s, v = .agg #[s, .bool neg, .bool lg] ∧ NatRep w s n
theorem NumV.below {w w' : World} {v : Value} {n : Nat} {neg lg : Bool} (h : NumV w v n neg lg) (hb : Below w.heap.size w w') : NumV w' v n neg lg := by
  obtain ⟨s, rfl, h⟩ := h
  exact ⟨s, rfl, h.below hb⟩
/-- an integer, not too long -/
def IntV (w : World) (v : Value) (z : Int) : Prop := NumV w v z.natAbs (decide (z < 0)) false
theorem IntV.below {w w' : World} {v : Value} {z : Int} (h : IntV w v z) (hb : Below w.heap.size w w') : IntV w' v z := NumV.below h hb
theorem bcell {W w1 : World} (hb : Below W.heap.size W w1) : (∀ b o, b < W.heap.size → w1.cell? ⟨b, o, none⟩ = W.cell? ⟨b, o, none⟩) ∧ (∀ b o, b < W.heap.size → w1.frozen? ⟨b, o, none⟩ = W.frozen? ⟨b, o, none⟩) :=
  ⟨fun b o h => hb.cell (p := ⟨b, o, none⟩) h, fun b o h => hb.frozen (p := ⟨b, o, none⟩) h⟩
/-- a block of cells, known whole -/
def Blk (w : World) (b : Nat) (cs : Array Value) (t : TypeId) : Prop := w.heap[b]? = some (.cells cs t (0, 0))
theorem Blk.new (w : World) (cs : Array Value) (t : TypeId) : Blk (w.alloc (.cells cs t)) w.heap.size cs t := World.alloc_heap_new w _
theorem Blk.lt {w : World} {b : Nat} {cs : Array Value} {t : TypeId} (h : Blk w b cs t) : b < w.heap.size := (Array.getElem?_eq_some_iff.1 h).1
theorem Blk.below {w w' : World} {b B : Nat} {cs : Array Value} {t : TypeId} (h : Blk w b cs t) (hb : Below B w w') (hB : b < B) : Blk w' b cs t := (hb.block b hB).trans h
theorem Blk.later {w w' : World} {b : Nat} {cs : Array Value} {t : TypeId} (h : Blk w b cs t) (hb : Below w.heap.size w w') : Blk w' b cs t := h.below hb h.lt
theorem Blk.alloc {w : World} {b : Nat} {cs : Array Value} {t : TypeId} (h : Blk w b cs t) (o : Obj) : Blk (w.alloc o) b cs t := h.later ((Below.refl _ w).alloc (Nat.le_refl _) o)
theorem Blk.drew {w : World} {b : Nat} {cs : Array Value} {t : TypeId} (h : Blk w b cs t) : Blk w.drew b cs t := h
theorem Blk.cell {w : World} {b : Nat} {cs : Array Value} {t : TypeId} (h : Blk w b cs t) (i : Nat) : w.cell? ⟨b, i, none⟩ = cs[i]? := by
  have h' : w.heap[b]? = _ := h
  simp [World.cell?, h']
theorem Blk.free {w : World} {b : Nat} {cs : Array Value} {t : TypeId} (h : Blk w b cs t) (i : Nat) : w.frozen? ⟨b, i, none⟩ = false := by
  have h' : w.heap[b]? = _ := h
  simp [World.frozen?, h']
/-- a block of three cells: what the walk wants of it -/
theorem Blk.three {w : World} {b : Nat} {x y z : Value} {t : TypeId} (h : Blk w b #[x, y, z] t) : (w.cell? ⟨b, 0, none⟩ = some x ∧ w.cell? ⟨b, 1, none⟩ = some y ∧ w.cell? ⟨b, 2, none⟩ = some z) ∧ (w.frozen? ⟨b, 0, none⟩ = false ∧ w.frozen? ⟨b, 1, none⟩ = false ∧ w.frozen? ⟨b, 2, none⟩ = false) :=
  ⟨⟨h.cell 0, h.cell 1, h.cell 2⟩, h.free 0, h.free 1, h.free 2⟩
def RetInt (z : Int) (w : World) (e : Ending) (w' : World) : Prop := ∃ v, e = .returned v ∧ IntV w' v z ∧ Below w.heap.size w w'
/-- an integer whose size is a fresh slice -/
def OwnInt (w : World) (base : Nat) (v : Value) (z : Int) : Prop := ∃ s, v = .agg #[s, .bool (decide (z < 0)), .bool false] ∧ Own .u32 75 w base s (nlen z.natAbs) (D z.natAbs)
theorem OwnInt.int {w : World} {base : Nat} {v : Value} {z : Int} (h : OwnInt w base v z) : IntV w v z := by
  obtain ⟨s, rfl, h⟩ := h
  exact ⟨s, rfl, h.nat⟩
def FreshInt (z : Int) (w : World) (e : Ending) (w' : World) : Prop := ∃ v, e = .returned v ∧ OwnInt w' w.heap.size v z ∧ Below w.heap.size w w'
set_option maxRecDepth 100000 in
set_option maxHeartbeats 1000000 in
theorem of_nat {v : Value} {n : Nat} {w : World} (h : NatRep w v n) (neg : Bool) (hl : nlen n ≤ 100000000) :
    Calls Tryz.prog 84 #[v, .bool neg] w fun e w' => e = .returned (.agg #[v, .bool (neg && decide (0 < n)), .bool false]) ∧ Below w.heap.size w w' := by
  obtain ⟨a, cap, rfl⟩ := h.shape
  have hn : decide (0 < n) = decide (0 < nlen n) := by
    have := nlen_eq_zero n
    by_cases h0 : n = 0
    · rw [h0]; rfl
    · rw [decide_eq_true (by omega), decide_eq_true (by omega)]
  rw [hn]
  clear hn
  cases neg
  · go_enter Tryz.func84, Tryz.ntmps84
    go_wp2
    refine bodyPost_ret (v := .agg #[.slice a (nlen n) cap, .bool false, .bool false]) (by simp [results, Tryz.results84, go_sem]) rfl ⟨rfl, ?_⟩
    exact (Below.refl _ _).alloc (Nat.le_refl _) _
  · go_enter Tryz.func84, Tryz.ntmps84
    go_wp2
    refine bodyPost_ret (v := .agg #[.slice a (nlen n) cap, .bool (decide (0 < nlen n)), .bool false]) (by simp [results, Tryz.results84, go_sem]) rfl ⟨by simp, ?_⟩
    exact (Below.refl _ _).alloc (Nat.le_refl _) _
/-- the sign of a number, also of one that is too long -/
def sgn (n : Nat) (neg lg : Bool) : Int := if neg then -1 else if lg || decide (0 < n) then 1 else 0
set_option maxRecDepth 100000 in
set_option maxHeartbeats 1000000 in
theorem sign_nat {v : Value} {n : Nat} {neg lg : Bool} {w : World} (h : NumV w v n neg lg) :
    Calls Tryz.prog 70 #[v] w fun e w' => e = .returned (.int .i64 (sgn n neg lg)) ∧ Below w.heap.size w w' := by
  obtain ⟨s, rfl, h⟩ := h
  obtain ⟨a, cap, rfl⟩ := h.shape
  have hn : (0 < n) ↔ 0 < nlen n := by have := nlen_eq_zero n; omega
  have hb : Below w.heap.size w (w.alloc (.cells #[.slice a (nlen n) cap, .bool neg, .bool lg] 49)) := (Below.refl _ _).alloc (Nat.le_refl _) _
  cases neg
  · cases lg
    · by_cases h0 : 0 < nlen n
      · go_enter Tryz.func70, Tryz.ntmps70
        go_wp2
        go_ret
        exact ⟨by simp [sgn, hn.2 h0], hb⟩
      · go_enter Tryz.func70, Tryz.ntmps70
        go_wp2
        go_ret
        exact ⟨by have : ¬ 0 < n := fun hh => h0 (hn.1 hh); simp [sgn]; omega, hb⟩
    · go_enter Tryz.func70, Tryz.ntmps70
      go_wp2
      go_ret
      exact ⟨by simp [sgn], hb⟩
  · go_enter Tryz.func70, Tryz.ntmps70
    go_wp2
    go_ret
    exact ⟨by simp [sgn], hb⟩
set_option maxRecDepth 100000 in
set_option maxHeartbeats 1000000 in
theorem opposite_int {v : Value} {z : Int} {w : World} (h : IntV w v z) (hl : nlen z.natAbs ≤ 10000000) : Calls Tryz.prog 58 #[v] w (RetInt (-z) w) := by
  obtain ⟨s, rfl, h⟩ := h
  obtain ⟨a, cap, rfl⟩ := h.shape
  have hb : Below w.heap.size w ((w.alloc (.cells #[.slice a (nlen z.natAbs) cap, .bool (decide (z < 0)), .bool false] 49)).alloc (.cells #[.slice none 0 0, .bool false, .bool false] 49)) := ((Below.refl _ _).alloc (Nat.le_refl _) _).alloc (by simp) _
  go_enter Tryz.func58, Tryz.ntmps58
  go_wp2_with fail
  refine (of_nat (h.below hb) _ (by omega)).mono ?_
  rintro e w1 ⟨rfl, hb1⟩
  obtain ⟨hc, hf⟩ := bcell hb1
  go_wp2
  have hz := hb1.size
  simp at hz
  have hbw : Below w.heap.size w w1 := hb.trans (hb1.mono (by simp; omega))
  have hbe : Below w.heap.size w (((w1.setCell ⟨w.heap.size + 1, 0, none⟩ (.slice a (nlen z.natAbs) cap)).setCell ⟨w.heap.size + 1, 1, none⟩ (.bool (!decide (z < 0) && !decide (z = 0)))).setCell ⟨w.heap.size + 1, 2, none⟩ (.bool false)) :=
    ((hbw.setCell (p := ⟨w.heap.size + 1, 0, none⟩) (by simp) _).setCell (p := ⟨w.heap.size + 1, 1, none⟩) (by simp) _).setCell (p := ⟨w.heap.size + 1, 2, none⟩) (by simp) _
  refine bodyPost_ret (v := .agg #[.slice a (nlen z.natAbs) cap, .bool (!decide (z < 0) && !decide (z = 0)), .bool false]) (by simp [results, Tryz.results58, go_sem, hc]) rfl ⟨_, rfl, ⟨.slice a (nlen z.natAbs) cap, ?_, ?_⟩, hbe⟩
  · have e : (!decide (z < 0) && !decide (z = 0)) = decide (-z < 0) := by
      by_cases h1 : z < 0
      · simp [h1]; omega
      · by_cases h2 : z = 0
        · simp [h2]
        · simp [h1, h2]; omega
    rw [e]
  · rw [Int.natAbs_neg]
    exact h.below hbe
end Go.Proofs.YtkhgoeippamobaaGreatDoor
