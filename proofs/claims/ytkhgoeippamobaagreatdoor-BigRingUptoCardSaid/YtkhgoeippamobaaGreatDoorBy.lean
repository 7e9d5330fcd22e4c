/-
  Quotient and remainder by a small number.
-/
import Derived.Test.YtkhgoeippamobaaGreatDoorMake
namespace Go.Proofs.YtkhgoeippamobaaGreatDoor
open Go.RowKit
/-- the rest in front of digit j -/
def remD (n k j : Nat) : Nat := n / 2 ^ (32 * j) % k
def tBy (n k i : Nat) : Nat := remD n k (i + 1) * 4294967296 + D n i
theorem remD_lt (n k j : Nat) (hk : 0 < k) : remD n k j < k := Nat.mod_lt _ hk
theorem tBy_or (n k i : Nat) (hk0 : 0 < k) (hk : k < 4294967296) : bits BinOp.or IntKind.u64 ((remD n k (i + 1) : Int) * 4294967296) (D n i : Int) = (tBy n k i : Int) := by
  have h1 := remD_lt n k (i + 1) hk0
  have h2 := D_lt n i
  have e : (remD n k (i + 1) : Int) * 4294967296 = ((remD n k (i + 1) * 4294967296 : Nat) : Int) := by simp
  rw [e, u64_or_nat _ _ (by omega) (by omega), nat_join 32 _ _ (by omega) (by omega)]
  rfl
theorem tBy_eq (n k i : Nat) : tBy n k i = n / 2 ^ (32 * (i + 1)) % k * 4294967296 + D n i := rfl
theorem tBy_div (n k i : Nat) (hk0 : 0 < k) : tBy n k i / k = D (n / k) i := by
  have h0 := div_split n i
  have h1 : n / k / 2 ^ (32 * i) = n / 2 ^ (32 * i) / k := by rw [Nat.div_div_eq_div_mul, Nat.div_div_eq_div_mul, Nat.mul_comm]
  unfold D
  rw [h1, h0, tBy_eq]
  generalize n / 2 ^ (32 * (i + 1)) = q
  have h2 := Nat.mod_add_div q k
  have hd := D_lt n i
  generalize D n i = d at *
  have h3 : d + 4294967296 * q = (q % k * 4294967296 + d) + k * (4294967296 * (q / k)) := by
    have : 4294967296 * q = 4294967296 * (q % k) + 4294967296 * (k * (q / k)) := by rw [← Nat.mul_add, h2]
    rw [this, Nat.mul_left_comm k 4294967296 (q / k)]
    omega
  rw [h3, Nat.add_mul_div_left _ _ hk0, Nat.add_mul_mod_self_left]
  symm
  apply Nat.mod_eq_of_lt
  rw [Nat.div_lt_iff_lt_mul hk0]
  have := Nat.mod_lt q hk0
  have h5 : q % k * 4294967296 + 4294967296 ≤ k * 4294967296 := by
    have : (q % k + 1) * 4294967296 ≤ k * 4294967296 := Nat.mul_le_mul_right _ (by omega)
    omega
  rw [Nat.mul_comm 4294967296 k]
  omega
theorem tBy_mod (n k i : Nat) (_hk0 : 0 < k) : tBy n k i % k = remD n k i := by
  have h0 := div_split n i
  unfold remD
  rw [h0, tBy_eq, Nat.add_comm, Nat.add_mod, Nat.mod_mul_mod, ← Nat.add_mod, Nat.mul_comm]
theorem tBy_lt (n k i : Nat) (hk0 : 0 < k) (hk : k < 4294967296) : tBy n k i < 18446744073709551616 := by
  have h1 := remD_lt n k (i + 1) hk0
  have h2 := D_lt n i
  unfold tBy
  omega
set_option maxRecDepth 100000 in
set_option maxHeartbeats 1000000 in
theorem by_nat {v : Value} {n : Nat} {w : World} (h : NatRep w v n) (hl : nlen n ≤ 100000000) (k : Nat) (hk0 : 0 < k) (hk : k < 4294967296) :
    Calls Tryz.prog 151 #[v, .int .u32 k] w fun e w' => (∃ u, e = .returned (.tuple #[u, .int .u32 ((n % k : Nat) : Int)]) ∧ Own .u32 75 w' w.heap.size u (nlen (n / k)) (D (n / k))) ∧ Below w.heap.size w w' := by
  obtain ⟨a, cap, rfl⟩ := h.shape
  go_enter Tryz.func151, Tryz.ntmps151
  go_wp2_with (at_make; refine mk_u32 _ rfl _ _ rfl w.heap.size (nlen n) _ _ rfl rfl rfl rfl (by omega) (Nat.le_refl _) ?_; intro w1 hown hb hz hb1)
  go_loopw [7, 8] (fun rest i wr => ∃ j : Nat, i = .int .i64 ((j : Int) - 1) ∧ j ≤ nlen n ∧ rest = .int .u64 (remD n k j) ∧ Own .u32 75 wr w.heap.size (.slice (some ⟨w.heap.size, 0, none⟩) (nlen n) (nlen n)) (nlen n) (fun t => if t < j then 0 else D (n / k) t) ∧ Below w.heap.size w wr)
    (fun _ i _ => (intOf i + 1).toNat)
  case atStart => 
    refine ⟨nlen n, rfl, Nat.le_refl _, by unfold remD; rw [div_top n _ (Nat.le_refl _)]; simp, hown.congr (fun t ht => by rw [if_pos ht]), hb⟩
  case round =>
    obtain ⟨j, rfl, hj, rfl, hown1, hbr⟩ := hrel
    by_cases h0 : j = 0
    · subst h0
      go_wp2_with fail
      have hq : n / k < 2 ^ (32 * nlen n) := Nat.lt_of_le_of_lt (Nat.div_le_self _ _) (lt_nlen n)
      have hown2 := hown1.congr (g := D (n / k)) (fun t _ => by rw [if_neg (by omega)])
      have hrm : remD n k 0 = n % k := by simp [remD]
      have hR := hid hrm
      have hr := Nat.lt_trans (remD_lt n k 0 hk0) hk
      clear hrm
      refine (trimmed_own hown2 (by omega) hq).mono ?_
      rintro e w' ⟨⟨u, rfl, hu⟩, rfl⟩
      go_wp2
      go_ret2
      refine ⟨⟨u, ?_, hu⟩, hbr⟩
      rw [← hR.out]
      rfl
    · obtain ⟨i, rfl⟩ : ∃ i, j = i + 1 := ⟨j - 1, by omega⟩
      have he : ((i + 1 : Nat) : Int) - 1 = i := by omega
      rw [he]
      clear he
      obtain ⟨a', cap', hv, _, hcell⟩ := h.below hbr
      simp only [Value.slice.injEq, true_and] at hv
      obtain ⟨rfl, rfl⟩ := hv
      obtain ⟨b, off, rfl, _, hc0⟩ := hcell (by omega)
      have hcj := hc0 i (by omega)
      have hoc := hown1.cell i (by omega)
      have hof := hown1.free i
      have hr := Nat.lt_trans (remD_lt n k (i + 1) hk0) hk
      have hd := D_lt n i
      have hw1 := tBy_or n k i hk0 hk
      have hw2 : (tBy n k i : Int) / (k : Int) = (D (n / k) i : Int) := by rw [← tBy_div n k i hk0]; simp
      have hw3 : (tBy n k i : Int) % (k : Int) = (remD n k i : Int) := by rw [← tBy_mod n k i hk0]; simp
      have hd2 := D_lt (n / k) i
      go_wp2
      go_roundw
      case rel =>
        refine ⟨i, rfl, by omega, by rw [hw3], (hown1.store i _).congr ?_, hbr.setCell (Nat.le_refl _) _⟩
        intro t ht
        show (if t = i then _ else if t < i + 1 then 0 else _) = _
        by_cases e : t = i
        · rw [if_pos e, if_neg (by omega), e]
        · rw [if_neg e]
          by_cases e2 : t < i
          · rw [if_pos e2, if_pos (by omega)]
          · rw [if_neg e2, if_neg (by omega)]
      case measure => simp [intOf] <;> omega
end Go.Proofs.YtkhgoeippamobaaGreatDoor
