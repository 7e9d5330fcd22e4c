/-
  BigRing: the walk.
-/
import Derived.Test.YtkhgoeippamobaaGreatDoorSm
namespace Go.Proofs.YtkhgoeippamobaaGreatDoor
open Go.RowKit
set_option maxRecDepth 100000 in
set_option maxHeartbeats 4000000 in
theorem ring_in (a b c : List UInt8) (x y z : Int) (ha : Sm a x) (hb : Sm b y) (hc : Sm c z) (hx : x.natAbs < 2 ^ 240) (hy : y.natAbs < 2 ^ 240) (hz : z.natAbs < 2 ^ 240) (w : World)
    (hr : rightB [a, b, c] = true) (hl : a.length ≤ 60 ∧ b.length ≤ 60 ∧ c.length ≤ 60) :
    Calls Tryz.prog 3 #[.string ⟨a.toArray⟩, .string ⟨b.toArray⟩, .string ⟨c.toArray⟩] w fun e w' => e = .returned (.bool true) ∧ Below w.heap.size w w' := by
  have e1 : (2 : Nat) ^ 240 + 2 ^ 240 + 2 ^ 240 < 2 ^ 500 := by decide +kernel
  have e2 : (2 : Nat) ^ 240 * (2 ^ 240 + 2 ^ 240) < 2 ^ 500 := by decide +kernel
  have e3 : (2 : Nat) ^ 240 * 2 ^ 240 + 2 ^ 240 * 2 ^ 240 < 2 ^ 500 := by decide +kernel
  have m1 := mul_bound x y _ _ hx hy
  have m2 := mul_bound x z _ _ hx hz
  have m3 := mul_bound x (y + z) _ (2 ^ 240 + 2 ^ 240) hx (by omega)
  have l1 : (x + y).natAbs < big600 := lt_big _ (by omega)
  have l2 : (y + z).natAbs < big600 := lt_big _ (by omega)
  have l3 : (x + y + z).natAbs < big600 := lt_big _ (by omega)
  have l4 : x.natAbs < big600 := lt_big _ (by omega)
  have l5 : (x * y).natAbs < big600 := lt_big _ (by omega)
  have l6 : (x * z).natAbs < big600 := lt_big _ (by omega)
  have l7 : (x * y + x * z).natAbs < big600 := lt_big _ (by omega)
  have A1 := fun w => hid (add_sm ha hb l1 rfl w)
  have A2 := fun w => hid (add_sm hb ha l1 (Int.add_comm y x) w)
  have A3 := fun w => hid (add_sm hb hc l2 rfl w)
  have A4 := fun w => hid (add_sm (Sm.txt _ l1) hc l3 rfl w)
  have A5 := fun w => hid (add_sm ha (Sm.txt _ l2) l3 (Int.add_assoc x y z).symm w)
  have A6 := fun w => hid (sub_sm (Sm.txt _ l1) hb l4 (by omega) w)
  have A7 := fun w => hid (can_sm ha w)
  have M1 := fun w => hid (mul_sm ha hb l5 rfl w)
  have M2 := fun w => hid (mul_sm hb ha l5 (Int.mul_comm y x) w)
  have M3 := fun w => hid (mul_sm ha hc l6 rfl w)
  have M4 := fun w => hid (mul_sm ha (Sm.txt _ l2) l7 (Int.mul_add x y z) w)
  have A8 := fun w => hid (add_sm (Sm.txt _ l5) (Sm.txt _ l6) l7 rfl w)
  have AW := fun w => hid (awake_fn w)
  have hS := Blk.new w #[.string ⟨a.toArray⟩, .string ⟨b.toArray⟩, .string ⟨c.toArray⟩] 9
  have hb0 : Below w.heap.size w (w.alloc (.cells #[.string ⟨a.toArray⟩, .string ⟨b.toArray⟩, .string ⟨c.toArray⟩] 9)) := (Below.refl _ _).alloc (Nat.le_refl _) _
  have HRC := hid (right_fn (ls := [a, b, c]) (w := w.alloc (.cells #[.string ⟨a.toArray⟩, .string ⟨b.toArray⟩, .string ⟨c.toArray⟩] 9)) (v := .slice (some ⟨w.heap.size, 0, none⟩) 3 3) ⟨w.heap.size, 3, rfl, Nat.le_refl _, hS.lt, fun i hi => by
    have : i = 0 ∨ i = 1 ∨ i = 2 := by simp at hi; omega
    rcases this with rfl | rfl | rfl
    · exact hS.cell 0
    · exact hS.cell 1
    · exact hS.cell 2⟩ (by simp) (fun l hl' => by
      simp at hl'
      rcases hl' with rfl | rfl | rfl <;> omega))
  rw [hr] at HRC
  have HRC := hid HRC.out
  clear hb hr l1 l2 l3 l4 l5 l6 l7 m1 m2 m3 e1 e2 e3 hx hy hz ha hc hS
  generalize txt (x + y) = t1 at *
  generalize txt (y + z) = t2 at *
  generalize txt (x + y + z) = t3 at *
  generalize txt (x * y) = t4 at *
  generalize txt (x * z) = t5 at *
  generalize txt (x * y + x * z) = t6 at *
  generalize txt x = t7 at *
  go_enter Tryz.func3, Tryz.ntmps3
  go_wp2_with fail
  (with_reducible refine HRC.out.mono ?_); rintro e w0 ⟨rfl, g0⟩
  have hb := hb0.trans (g0.mono hb0.size)
  clear hb0 g0
  go_wp2_with fail
  (with_reducible refine (A1 _).out.mono ?_); rintro e w1 ⟨rfl, g1⟩
  have hb := hb.trans (g1.mono hb.size)
  clear g1
  go_wp2_with fail
  (with_reducible refine (A2 _).out.mono ?_); rintro e w2 ⟨rfl, g2⟩
  have hb := hb.trans (g2.mono hb.size)
  clear g2
  go_wp2_with fail
  (with_reducible refine (A3 _).out.mono ?_); rintro e w3 ⟨rfl, g3⟩
  have hb := hb.trans (g3.mono hb.size)
  clear g3
  go_wp2_with fail
  (with_reducible refine (A4 _).out.mono ?_); rintro e w4 ⟨rfl, g4⟩
  have hb := hb.trans (g4.mono hb.size)
  clear g4
  go_wp2_with fail
  (with_reducible refine (A5 _).out.mono ?_); rintro e w5 ⟨rfl, g5⟩
  have hb := hb.trans (g5.mono hb.size)
  clear g5
  go_wp2_with fail
  (with_reducible refine (A6 _).out.mono ?_); rintro e w6 ⟨rfl, g6⟩
  have hb := hb.trans (g6.mono hb.size)
  clear g6
  go_wp2_with fail
  (with_reducible refine (A7 _).out.mono ?_); rintro e w7 ⟨rfl, g7⟩
  have hb := hb.trans (g7.mono hb.size)
  clear g7
  go_wp2_with fail
  (with_reducible refine (M1 _).out.mono ?_); rintro e w8 ⟨rfl, g8⟩
  have hb := hb.trans (g8.mono hb.size)
  clear g8
  go_wp2_with fail
  (with_reducible refine (M2 _).out.mono ?_); rintro e w9 ⟨rfl, g9⟩
  have hb := hb.trans (g9.mono hb.size)
  clear g9
  go_wp2_with fail
  (with_reducible refine (M3 _).out.mono ?_); rintro e w10 ⟨rfl, g10⟩
  have hb := hb.trans (g10.mono hb.size)
  clear g10
  go_wp2_with fail
  (with_reducible refine (M4 _).out.mono ?_); rintro e w11 ⟨rfl, g11⟩
  have hb := hb.trans (g11.mono hb.size)
  clear g11
  go_wp2_with fail
  (with_reducible refine (A8 _).out.mono ?_); rintro e w12 ⟨rfl, g12⟩
  have hb := hb.trans (g12.mono hb.size)
  clear g12
  go_wp2_with fail
  (with_reducible refine (AW _).out.mono ?_); rintro e w50 ⟨rfl, g50⟩
  have hb := hb.trans (g50.mono hb.size)
  clear g50
  go_wp2
  go_ret
  exact ⟨rfl, hb⟩
set_option maxRecDepth 100000 in
set_option maxHeartbeats 4000000 in
theorem ring_fn (a b c : List UInt8) (w : World) (la : a.length ≤ 2000000) (lb : b.length ≤ 2000000) (lc : c.length ≤ 2000000) :
    Calls Tryz.prog 3 #[.string ⟨a.toArray⟩, .string ⟨b.toArray⟩, .string ⟨c.toArray⟩] w fun e w' => e = .returned (.bool true) ∧ Below w.heap.size w w' := by
  cases hr : rightB [a, b, c] with
  | true =>
    obtain ⟨a1, a2, a3⟩ := rightB_mem _ hr a (by simp)
    obtain ⟨b1, b2, b3⟩ := rightB_mem _ hr b (by simp)
    obtain ⟨c1, c2, c3⟩ := rightB_mem _ hr c (by simp)
    have e : (2 : Nat) ^ 240 < 2 ^ 500 := by decide +kernel
    exact ring_in a b c _ _ _ ⟨a1, rfl, lt_big _ (by omega), by omega⟩ ⟨b1, rfl, lt_big _ (by omega), by omega⟩ ⟨c1, rfl, lt_big _ (by omega), by omega⟩ a2 b2 c2 w hr ⟨a3, b3, c3⟩
  | false =>
    have AW := fun w => hid (awake_fn w)
    have hS := Blk.new w #[.string ⟨a.toArray⟩, .string ⟨b.toArray⟩, .string ⟨c.toArray⟩] 9
    have hb0 : Below w.heap.size w (w.alloc (.cells #[.string ⟨a.toArray⟩, .string ⟨b.toArray⟩, .string ⟨c.toArray⟩] 9)) := (Below.refl _ _).alloc (Nat.le_refl _) _
    have HRC := hid (right_fn (ls := [a, b, c]) (w := w.alloc (.cells #[.string ⟨a.toArray⟩, .string ⟨b.toArray⟩, .string ⟨c.toArray⟩] 9)) (v := .slice (some ⟨w.heap.size, 0, none⟩) 3 3) ⟨w.heap.size, 3, rfl, Nat.le_refl _, hS.lt, fun i hi => by
      have : i = 0 ∨ i = 1 ∨ i = 2 := by simp at hi; omega
      rcases this with rfl | rfl | rfl
      · exact hS.cell 0
      · exact hS.cell 1
      · exact hS.cell 2⟩ (by simp) (fun l hl' => by
        simp at hl'
        rcases hl' with rfl | rfl | rfl <;> omega))
    rw [hr] at HRC
    have HRC := hid HRC.out
    clear hr hS
    go_enter Tryz.func3, Tryz.ntmps3
    go_wp2_with fail
    (with_reducible refine HRC.out.mono ?_); rintro e w0 ⟨rfl, g0⟩
    have hb := hb0.trans (g0.mono hb0.size)
    clear hb0 g0
    go_wp2_with fail
    (with_reducible refine (AW _).out.mono ?_); rintro e w1 ⟨rfl, g1⟩
    have hb := hb.trans (g1.mono hb.size)
    clear g1
    go_wp2
    go_ret
    exact ⟨rfl, hb⟩
end Go.Proofs.YtkhgoeippamobaaGreatDoor
