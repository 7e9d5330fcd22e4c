/-
  The iterator over the digits of two numbers.
-/
import Derived.Test.YtkhgoeippamobaaGreatDoorOwn
import Derived.RangeFuncNested
import Derived.RangeFuncBound
import Derived.RangeFuncCalls
import Derived.RangeFuncLeaves
import Derived.Shelf.Abstract
import Derived.Shelf.RegionOpen
import Derived.OwnWalkIn
import Derived.TacticsInMore
import Derived.LoopNIn
import Derived.LoopIn
namespace Go.Proofs.YtkhgoeippamobaaGreatDoor
open Go.RowKit Go.Shelf
attribute [local go_sem] Oper.semAt_some
/-- the value of a pair of digits -/
def encP (x : Nat × Nat) : Array Value := #[.int .u64 ((x.1 % 4294967296 : Nat) : Int), .int .u64 ((x.2 % 4294967296 : Nat) : Int)]
/-- the pairs that come in k rounds -/
def pairs (m n k : Nat) : List (Nat × Nat) := (List.range k).map fun i => (D m i, D n i)
theorem pairs_succ (m n k : Nat) : pairs m n (k + 1) = pairs m n k ++ [(D m k, D n k)] := by simp [pairs, List.range_succ]
theorem pairs_length (m n k : Nat) : (pairs m n k).length = k := by simp [pairs]
/-- what a round keeps: what lies below, and the iterator's two boxes -/
def KpD (B p q : Nat) (W W' : World) : Prop := Below B W W' ∧ W'.heap[p]? = W.heap[p]? ∧ W'.heap[q]? = W.heap[q]?
theorem KpD.refl (B p q : Nat) (W : World) : KpD B p q W W := ⟨Below.refl _ _, rfl, rfl⟩
theorem KpD.trans {B p q : Nat} {X Y Z : World} (h : KpD B p q X Y) (k : KpD B p q Y Z) : KpD B p q X Z := ⟨h.1.trans k.1, k.2.1.trans h.2.1, k.2.2.trans h.2.2⟩
set_option maxRecDepth 100000 in
set_option maxHeartbeats 2000000 in
theorem digits1_in (l B p q m n : Nat) (v u : Value) (hm : nlen m ≤ 100000000) (hn : nlen n ≤ 100000000) (J Jx : List (Nat × Nat) → World → Prop) (W : World) (N : Nat)
    (hY : ∀ pre x W1, J pre W1 → pre.length < max (nlen m) (nlen n) + 1 → YieldAt Fence.wide (N - 1) Tryz.prog l (encP x) W1 fun e W' => (e = .returned (.bool true) ∧ J (pre ++ [x]) W' ∧ KpD B p q W1 W') ∨ (e = .returned (.bool false) ∧ Jx (pre ++ [x]) W'))
    (hp : Boxed W p 47 v) (hq : Boxed W q 47 u) (hv : Row .u32 W v (nlen m) (D m)) (hu : Row .u32 W u (nlen n) (D n))
    (hvB : ∀ W', KpD B p q W W' → NatRep W' v m) (huB : ∀ W', KpD B p q W W' → NatRep W' u n) (hJd : ∀ s W1, J s W1 → J s W1.drew) (h0 : J [] W) :
    CallsIn Fence.wide N Tryz.prog 145 #[.func (.yield l) #[] #[], .pointer (some ⟨p, 0, none⟩), .pointer (some ⟨q, 0, none⟩)] W fun e W' => (∃ v, e = .returned v) ∧ (J (pairs m n (max (nlen m) (nlen n) + 1)) W' ∨ ∃ pre, Jx pre W') := by
  obtain ⟨a, cap, rfl, _⟩ := hv
  obtain ⟨a', cap', rfl, _⟩ := hu
  have hpc := hp.cell
  have hqc := hq.cell
  refine callsIn_of_wp Tryz.func145 rfl trivial ?_ rfl
  simp only [Tryz.ntmps145, List.size_toArray, List.length_cons, List.length_nil, Nat.reduceAdd, Nat.reduceSub, Array.replicate_succ, Array.replicate_zero, List.push_toArray, List.append_toArray, List.nil_append, List.cons_append]
  gi_wp2
  gi_loopw [4, 11] (fun _ i wr => ∃ k : Nat, k ≤ max (nlen m) (nlen n) + 1 ∧ i = .int .i64 k ∧ J (pairs m n k) wr ∧ KpD B p q W wr)
    (fun _ i _ => max (nlen m) (nlen n) + 1 - (intOf i).toNat)
  case atStart => exact ⟨0, Nat.zero_le _, rfl, h0, KpD.refl _ _ _ _⟩
  case round =>
    obtain ⟨k, hk, rfl, hJ, hkp⟩ := hrel
    have hpc' : wr.cell? ⟨p, 0, none⟩ = some (.slice a (nlen m) cap) := (World.cell?_of_block (a := ⟨p, 0, none⟩) hkp.2.1).trans hpc
    have hqc' : wr.cell? ⟨q, 0, none⟩ = some (.slice a' (nlen n) cap') := (World.cell?_of_block (a := ⟨q, 0, none⟩) hkp.2.2).trans hqc
    by_cases hlt : k < max (nlen m) (nlen n) + 1
    · obtain ⟨fn, tmps, assign, body, hy, hR⟩ := hY _ (D m k, D n k) wr.drew (hJd _ _ hJ) (by rw [pairs_length]; exact hlt)
      have hv' := hvB wr hkp
      have hu' := huB wr hkp
      have hd1 := D_lt m k
      have hd2 := D_lt n k
      unfold encP at hy
      dsimp only at hy
      rw [Nat.mod_eq_of_lt hd1, Nat.mod_eq_of_lt hd2] at hy
      have hw1 := wrap_u64_nat (D m k) (by omega)
      have hw2 := wrap_u64_nat (D n k) (by omega)
      gi_wp2_with fail
      have hmx : Tryz.prog.follows .mixedOrders = true := by kernel_rfl
      have hv2 : NatRep wr.drew (.slice a (nlen m) cap) m := hv'.below (Below.refl _ _).drew
      have hu2 : NatRep wr.drew (.slice a' (nlen n) cap') n := hu'.below (Below.refl _ _).drew
      have HR := hid (RoundIn.mono hR (R' := fun e W' => ∃ t : Bool, e = .returned (.bool t) ∧ Hid ((t = true ∧ J (pairs m n k ++ [(D m k, D n k)]) W' ∧ KpD B p q wr.drew W') ∨ (t = false ∧ Jx (pairs m n k ++ [(D m k, D n k)]) W'))) (by
        rintro e W' (⟨rfl, h⟩ | ⟨rfl, h⟩)
        · exact ⟨true, rfl, .inl ⟨rfl, h⟩⟩
        · exact ⟨false, rfl, .inr ⟨rfl, h⟩⟩))
      clear hR
      have c1 := hid (callsIn_wide (n := N - 1).2 (at_nat hv2 (by omega) k (by omega) (by omega)))
      have c2 := hid (callsIn_wide (n := N - 1).2 (at_nat hu2 (by omega) k (by omega) (by omega)))
      gi_region_with_o (first | (refine ⟨trivial, fun h => by (cases h), ?_⟩; gi_at_call 118; (with_reducible refine c1.out.mono ?_); rintro e w' ⟨rfl, rfl⟩; rw [Int.toNat_natCast]) | (refine ⟨trivial, fun h => by (cases h), ?_⟩; gi_at_call 118; (with_reducible refine c2.out.mono ?_); rintro e w' ⟨rfl, rfl⟩; rw [Int.toNat_natCast]) | (refine ⟨fun h => by (cases h), ?_⟩; (with_reducible refine HR.out.mono ?_); rintro e W3 ⟨t, rfl, h3⟩))
      all_goals
        clear hy c1 c2 HR hv' hu' hv2 hu2 hpc' hqc'
        rcases h3.out with ⟨rfl, hJ3, hk3⟩ | ⟨rfl, hJx3⟩
        · have hk4 : KpD B p q W W3 := hkp.trans (KpD.trans (⟨(Below.refl B wr).drew, rfl, rfl⟩ : KpD B p q wr wr.drew) hk3)
          have hJ4 : J (pairs m n (k + 1)) W3 := by rw [pairs_succ]; exact hJ3
          clear h3 hk3 hJ3
          gi_wp2
          go_roundw
          case rel => exact ⟨k + 1, by omega, by go_num, hJ4, hk4⟩
          case measure => simp [intOf] <;> omega
        · clear h3
          gi_wp2
          refine bodyPost_ret (results_none rfl _ _ _) rfl ?_
          exact ⟨⟨_, rfl⟩, .inr ⟨_, hJx3⟩⟩
    · obtain rfl : k = max (nlen m) (nlen n) + 1 := by omega
      gi_wp2
      go_end0
      exact ⟨⟨_, rfl⟩, .inl hJ⟩
set_option maxHeartbeats 1000000 in
theorem digits_any (a a' : Option Addr) (n n' cap cap' : Nat) (w : World) :
    Calls Tryz.prog 135 #[.slice a n cap, .slice a' n' cap'] w fun e w' => e = .returned (.func (.func 145) #[] #[.pointer (some ⟨w.heap.size, 0, none⟩), .pointer (some ⟨w.heap.size + 1, 0, none⟩)]) ∧ (w.alloc (.cells #[.slice a n cap] 47)).alloc (.cells #[.slice a' n' cap'] 47) = w' := by
  go_enter Tryz.func135, Tryz.ntmps135
  go_wp2
  go_ret
  exact ⟨rfl, rfl⟩
/-- **the iterator over the digits of m and n** hands all pairs, to whatever body that keeps what lies below B and the two boxes and never stops -/
theorem digits_stops {B p q m n : Nat} {v u : Value} {w : World} (hm : nlen m ≤ 100000000) (hn : nlen n ≤ 100000000) (N : Nat)
    (hp : Boxed w p 47 v) (hq : Boxed w q 47 u) (hv : ∀ W', Below B w W' → NatRep W' v m) (hu : ∀ W', Below B w W' → NatRep W' u n) (hB : B ≤ w.heap.size) :
    SeqStopsK Fence.wide N Tryz.prog 145 #[.pointer (some ⟨p, 0, none⟩), .pointer (some ⟨q, 0, none⟩)] encP (KpD B p q) (fun xs => xs = pairs m n (max (nlen m) (nlen n) + 1)) (fun _ => True) (max (nlen m) (nlen n) + 1) w := by
  intro l J Jx W hW hJ hJx hY h0
  have hp' := (hW.block p hp.lt).trans hp
  have hq' := (hW.block q hq.lt).trans hq
  refine (digits1_in l B p q m n v u hm hn J Jx W N hY hp' hq' (hv W (hW.mono hB)) (hu W (hW.mono hB)) (fun W' hk => hv W' ((hW.mono hB).trans hk.1)) (fun W' hk => hu W' ((hW.mono hB).trans hk.1))
    (fun s W1 h => hJ s W1 W1.drew none h ⟨rfl, rfl, rfl, Nat.le_refl _, fun _ _ _ => rfl⟩ (fun r e => by cases e)) h0).mono ?_
  rintro e W' ⟨he, h | ⟨pre, h⟩⟩
  · exact ⟨he, .inl ⟨_, rfl, h⟩⟩
  · exact ⟨he, .inr ⟨pre, trivial, h⟩⟩
end Go.Proofs.YtkhgoeippamobaaGreatDoor
