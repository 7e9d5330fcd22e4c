/-
  Operations on texts of small numbers.
-/
import Derived.Test.YtkhgoeippamobaaGreatDoorRight2
import Derived.Test.YtkhgoeippamobaaGreatDoorOps1
namespace Go.Proofs.YtkhgoeippamobaaGreatDoor
open Go.RowKit
/-- a text that is a number below 2^490 -/
def Sm (l : List UInt8) (z : Int) : Prop := pOK l = true ∧ pVal l = z ∧ z.natAbs < big600 ∧ l.length ≤ 1000000000
theorem Sm.txt (z : Int) (h : z.natAbs < big600) : Sm (txt z) z := ⟨(txt_read z).1, (txt_read z).2, h, Nat.le_trans (txt_len z h) (by decide)⟩
theorem add_sm {a b : List UInt8} {x y z : Int} (ha : Sm a x) (hb : Sm b y) (hz : z.natAbs < big600) (e : x + y = z) (w : World) :
    Calls Tryz.prog 12 #[.string ⟨a.toArray⟩, .string ⟨b.toArray⟩] w fun e w' => e = .returned (.tuple #[.string ⟨(txt z).toArray⟩, .int .i64 0]) ∧ Below w.heap.size w w' := by
  subst e
  obtain ⟨a1, rfl, a2, a3⟩ := ha
  obtain ⟨b1, rfl, b2, b3⟩ := hb
  have h := add_fn a b a3 b3 w
  rw [addRes, two_small a b _ a1 b1 a2 b2 hz] at h
  exact h
theorem sub_sm {a b : List UInt8} {x y z : Int} (ha : Sm a x) (hb : Sm b y) (hz : z.natAbs < big600) (e : x - y = z) (w : World) :
    Calls Tryz.prog 13 #[.string ⟨a.toArray⟩, .string ⟨b.toArray⟩] w fun e w' => e = .returned (.tuple #[.string ⟨(txt z).toArray⟩, .int .i64 0]) ∧ Below w.heap.size w w' := by
  subst e
  obtain ⟨a1, rfl, a2, a3⟩ := ha
  obtain ⟨b1, rfl, b2, b3⟩ := hb
  have h := sub_fn a b a3 b3 w
  rw [subRes, two_small a b _ a1 b1 a2 b2 hz] at h
  exact h
theorem mul_sm {a b : List UInt8} {x y z : Int} (ha : Sm a x) (hb : Sm b y) (hz : z.natAbs < big600) (e : x * y = z) (w : World) :
    Calls Tryz.prog 15 #[.string ⟨a.toArray⟩, .string ⟨b.toArray⟩] w fun e w' => e = .returned (.tuple #[.string ⟨(txt z).toArray⟩, .int .i64 0]) ∧ Below w.heap.size w w' := by
  subst e
  obtain ⟨a1, rfl, a2, a3⟩ := ha
  obtain ⟨b1, rfl, b2, b3⟩ := hb
  have h := mul_fn a b a3 b3 w
  rw [mulRes, two_small a b _ a1 b1 a2 b2 hz] at h
  exact h
theorem can_sm {a : List UInt8} {x : Int} (ha : Sm a x) (w : World) :
    Calls Tryz.prog 14 #[.string ⟨a.toArray⟩] w fun e w' => e = .returned (.tuple #[.string ⟨(txt x).toArray⟩, .int .i64 0]) ∧ Below w.heap.size w w' := by
  obtain ⟨a1, rfl, a2, a3⟩ := ha
  have h := can_fn a a3 w
  rw [canRes, one_small a _ a1 a2 a2] at h
  exact h
theorem mul_bound (x y : Int) (m n : Nat) (hx : x.natAbs < m) (hy : y.natAbs < n) : (x * y).natAbs < m * n := by
  rw [Int.natAbs_mul]; exact Nat.mul_lt_mul'' hx hy
end Go.Proofs.YtkhgoeippamobaaGreatDoor
