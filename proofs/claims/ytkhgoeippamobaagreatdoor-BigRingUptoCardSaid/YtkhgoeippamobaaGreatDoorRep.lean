/-
  Representation of natural numbers in memory: a slice of digits. The leaves of package big's nat.
-/
import Derived.Test.YtkhgoeippamobaaGreatDoorProg
import Derived.Test.YtkhgoeippamobaaGreatDoorNat
import Derived.WalkKit
import Derived.WalkSpells
import Derived.WalkLawsBesides
import Derived.Lib.MinMax
namespace Go.Proofs.YtkhgoeippamobaaGreatDoor
open Go.RowKit
theorem hid {p : Prop} (h : p) : Hid p := h
/-- a slice of n integers, the i-th one being f i -/
def Row (ik : IntKind) (w : World) (v : Value) (n : Nat) (f : Nat → Nat) : Prop :=
  ∃ (a : Option Addr) (cap : Nat), v = .slice a n cap ∧ n ≤ cap ∧ (0 < n → ∃ b off, a = some ⟨b, off, none⟩ ∧ b < w.heap.size ∧ ∀ i, i < n → w.cell? ⟨b, off + i, none⟩ = some (.int ik ((f i : Nat) : Int)))
theorem Row.below {ik : IntKind} {w w' : World} {v : Value} {n : Nat} {f : Nat → Nat} (h : Row ik w v n f) (hb : Below w.heap.size w w') : Row ik w' v n f := by
  obtain ⟨a, cap, rfl, hc, h⟩ := h
  refine ⟨a, cap, rfl, hc, fun h0 => ?_⟩
  obtain ⟨b, off, rfl, hlt, hcell⟩ := h h0
  exact ⟨b, off, rfl, Nat.lt_of_lt_of_le hlt hb.size, fun i hi => (hb.cell (p := ⟨b, off + i, none⟩) hlt).trans (hcell i hi)⟩
/-- the natural number n as package big's nat -/
def NatRep (w : World) (v : Value) (n : Nat) : Prop := Row .u32 w v (nlen n) (D n)
theorem NatRep.below {w w' : World} {v : Value} {n : Nat} (h : NatRep w v n) (hb : Below w.heap.size w w') : NatRep w' v n := Row.below h hb
set_option maxHeartbeats 400000 in
theorem at_in (b off len cap : Nat) (i : Nat) (x : Int) (w : World) (hi : i < len) (_hl : len ≤ 1000000000000)
    (hc : w.cell? ⟨b, off + i, none⟩ = some (.int .u32 x)) :
    Calls Tryz.prog 118 #[.slice (some ⟨b, off, none⟩) len cap, .int .i64 i] w fun e w' => e = .returned (.int .u32 x) ∧ w = w' := by
  go_enter Tryz.func118, Tryz.ntmps118
  go_wp2
  go_ret
  exact ⟨rfl, rfl⟩
theorem at_out (a : Option Addr) (len cap : Nat) (i : Nat) (w : World) (hi : len ≤ i) (_hl : i ≤ 1000000000000) :
    Calls Tryz.prog 118 #[.slice a len cap, .int .i64 i] w fun e w' => e = .returned (.int .u32 0) ∧ w = w' := by
  go_enter Tryz.func118, Tryz.ntmps118
  go_wp2
  go_ret
  exact ⟨rfl, rfl⟩
theorem at_nat {v : Value} {n : Nat} {w : World} (h : NatRep w v n) (hl : nlen n ≤ 1000000000) (i : Int) (h0 : 0 ≤ i) (hi : i ≤ 1000000000) :
    Calls Tryz.prog 118 #[v, .int .i64 i] w fun e w' => e = .returned (.int .u32 (D n i.toNat)) ∧ w = w' := by
  obtain ⟨j, rfl⟩ := Int.eq_ofNat_of_zero_le h0
  obtain ⟨a, cap, rfl, hc, h⟩ := h
  by_cases hlt : j < nlen n
  · obtain ⟨b, off, rfl, _, hcell⟩ := h (by omega)
    exact at_in b off _ cap j _ w hlt (by omega) (hcell j hlt)
  · have := at_out a (nlen n) cap j w (by omega) (by omega)
    rw [Int.toNat_natCast, D_out n j (by omega)]
    exact this
theorem bit_calc (x k : Nat) (hx : x < 4294967296) : (bits BinOp.and IntKind.u32 ((x : Int) / 2 ^ k) 1 == 1) = x.testBit k := by
  have h1 : ((x : Int) / 2 ^ k) = ((x / 2 ^ k : Nat) : Int) := by simp
  have h2 : x / 2 ^ k < 4294967296 := Nat.lt_of_le_of_lt (Nat.div_le_self _ _) hx
  rw [h1]
  have := u32_and_nat (x / 2 ^ k) 1 h2 (by decide)
  rw [show ((1 : Nat) : Int) = 1 from rfl] at this
  rw [this, Nat.testBit_eq_decide_div_mod_eq, Nat.and_one_is_mod]
  rw [Bool.eq_iff_iff]
  simp
  omega
set_option maxHeartbeats 400000 in
theorem bit_nat {v : Value} {n : Nat} {w : World} (h : NatRep w v n) (hl : nlen n ≤ 1000000000) (i : Int) (h0 : 0 ≤ i) (hi : i ≤ 32000000000) :
    Calls Tryz.prog 83 #[v, .int .i64 i] w fun e w' => e = .returned (.bool (n.testBit i.toNat)) ∧ w = w' := by
  go_enter Tryz.func83, Tryz.ntmps83
  go_wp2_with fail
  refine (at_nat h hl _ (by omega) (by omega)).mono ?_
  rintro e w' ⟨rfl, rfl⟩
  go_wp2
  go_ret
  refine ⟨?_, rfl⟩
  show Ending.returned (.bool _) = _
  rw [bit_calc _ _ (D_lt _ _), testBit_D n i.toNat, show (i / 32).toNat = i.toNat / 32 by omega, show (i % 32).toNat = i.toNat % 32 by omega]
set_option maxHeartbeats 400000 in
/-- cutting zeros off the end gives the canonical digits -/
theorem trimmed_row {a : Option Addr} {cap n k : Nat} {w : World} (h : Row .u32 w (.slice a k cap) k (D n)) (hk : k ≤ 1000000000) (hn : n < 2 ^ (32 * k)) :
    Calls Tryz.prog 119 #[.slice a k cap] w fun e w' => e = .returned (.slice a (nlen n) cap) ∧ w = w' := by
  obtain ⟨a', cap', hv, hcap, hcell⟩ := h
  simp only [Value.slice.injEq, true_and] at hv
  obtain ⟨rfl, rfl⟩ := hv
  have hl := (nlen_le_iff n k).2 hn
  go_enter Tryz.func119, Tryz.ntmps119
  go_wp2
  go_loop [3] (fun i => ∃ j : Nat, i = .int .i64 j ∧ nlen n ≤ j ∧ j ≤ k) (fun i => (intOf i).toNat)
  case atStart => exact ⟨k, rfl, hl, Nat.le_refl _⟩
  case round =>
    obtain ⟨j, rfl, h1, h2⟩ := hrel
    by_cases hj : j = 0
    · subst hj
      go_wp2
      go_ret
      have hz : nlen n = 0 := by omega
      exact ⟨by rw [hz]; rfl, rfl⟩
    · obtain ⟨b, off, rfl, hlt, hc⟩ := hcell (by omega)
      have hcj := hc (j - 1) (by omega)
      by_cases hd : D n (j - 1) = 0
      · go_wp2
        go_round
        case rel =>
          refine ⟨j - 1, by go_num, ?_, by omega⟩
          exact (nlen_le_iff _ _).2 (lt_cut n (j - 1) (by rw [Nat.sub_add_cancel (by omega)]; exact (nlen_le_iff _ _).1 h1) hd)
        case measure => simp [intOf] <;> omega
      · go_wp2
        go_ret
        have hz : nlen n = j := nlen_of_cut n j ((nlen_le_iff _ _).1 h1) (.inr hd)
        exact ⟨by rw [hz]; rfl, rfl⟩
theorem NatRep.shape {w : World} {v : Value} {n : Nat} (h : NatRep w v n) : ∃ a cap, v = .slice a (nlen n) cap := by
  obtain ⟨a, cap, rfl, _⟩ := h
  exact ⟨a, cap, rfl⟩
set_option maxHeartbeats 1000000 in
theorem compare_nat {v u : Value} {m n : Nat} {w : World} (hv : NatRep w v m) (hu : NatRep w u n) (hl : nlen m ≤ 1000000000) (hl' : nlen n ≤ 1000000000) :
    Calls Tryz.prog 69 #[v, u] w fun e w' => e = .returned (.int .i64 (cmpN m n)) ∧ w = w' := by
  obtain ⟨a, cap, rfl⟩ := hv.shape
  obtain ⟨a', cap', rfl⟩ := hu.shape
  go_enter Tryz.func69, Tryz.ntmps69
  go_wp2
  go_loop [5] (fun i => ∃ j : Nat, i = .int .i64 ((j : Int) - 1) ∧ j ≤ max (nlen m) (nlen n) ∧ m / 2 ^ (32 * j) = n / 2 ^ (32 * j)) (fun i => (intOf i + 1).toNat)
  case atStart => exact ⟨max (nlen m) (nlen n), by rw [show ((max (nlen m) (nlen n) : Nat) : Int) = max (nlen m : Int) (nlen n : Int) by omega], Nat.le_refl _, by rw [div_top m _ (by omega), div_top n _ (by omega)]⟩
  case round =>
    obtain ⟨j, rfl, h1, h2⟩ := hrel
    have H2 := hid h2
    clear h2
    by_cases hj : j = 0
    · subst hj
      go_wp2
      go_ret
      refine ⟨?_, rfl⟩
      have h2 := H2.out
      simp at h2
      show Ending.returned (.int .i64 0) = _
      simp [cmpN, h2]
    · obtain ⟨i, rfl⟩ : ∃ i, j = i + 1 := ⟨j - 1, by omega⟩
      have he : ((i + 1 : Nat) : Int) - 1 = i := by omega
      rw [he]
      clear he
      go_wp2_with fail
      refine (at_nat hv hl _ (by omega) (by omega)).mono ?_
      rintro e w' ⟨rfl, rfl⟩
      go_wp2_with fail
      refine (at_nat hu hl' _ (by omega) (by omega)).mono ?_
      rintro e w' ⟨rfl, rfl⟩
      rw [Int.toNat_natCast]
      rcases Nat.lt_trichotomy (D m i) (D n i) with hd | hd | hd
      · go_wp2
        go_ret
        refine ⟨?_, rfl⟩
        show Ending.returned (.int .i64 (-1)) = _
        rw [cmpN, if_pos (cmp_step_lt m n i H2.out hd)]
      · have hd' : ¬ (D n i < D m i) := by omega
        have hd'' : ¬ (D m i < D n i) := by omega
        have HD := hid hd
        clear hd
        go_wp2
        go_round
        case rel => exact ⟨i, rfl, by omega, cmp_step_eq m n i H2.out HD.out⟩
        case measure => simp [intOf] <;> omega
      · go_wp2
        go_ret
        refine ⟨?_, rfl⟩
        show Ending.returned (.int .i64 1) = _
        have hlt := cmp_step_lt n m i H2.out.symm hd
        rw [cmpN, if_neg (by omega), if_pos hlt]
set_option maxHeartbeats 1000000 in
theorem bits_nat {v : Value} {n : Nat} {w : World} (h : NatRep w v n) (hl : nlen n ≤ 1000000000) :
    Calls Tryz.prog 85 #[v] w fun e w' => e = .returned (.int .i64 (nbits n)) ∧ w = w' := by
  obtain ⟨a, cap, rfl⟩ := h.shape
  go_enter Tryz.func85, Tryz.ntmps85
  go_wp2
  go_loop [3] (fun i => ∃ j : Nat, i = .int .i64 j ∧ j ≤ 32 * nlen n ∧ n < 2 ^ j) (fun i => (intOf i).toNat)
  case atStart => exact ⟨32 * nlen n, by go_num, Nat.le_refl _, lt_nlen n⟩
  case round =>
    obtain ⟨j, rfl, h1, h2⟩ := hrel
    have H2 := hid h2
    clear h2
    by_cases hj : j = 0
    · subst hj
      go_wp2
      go_ret
      exact ⟨by rw [nbits_of n 0 H2.out (.inl rfl)]; rfl, rfl⟩
    · obtain ⟨i, rfl⟩ : ∃ i, j = i + 1 := ⟨j - 1, by omega⟩
      go_wp2_with fail
      refine (bit_nat h hl _ (by omega) (by omega)).mono ?_
      rintro e w' ⟨rfl, rfl⟩
      rw [Int.toNat_natCast]
      by_cases hb : n.testBit i = true
      · go_wp2
        go_ret
        exact ⟨by rw [nbits_of n (i + 1) H2.out (.inr hb)]; rfl, rfl⟩
      · rw [Bool.not_eq_true] at hb
        go_wp2
        go_round
        case rel => exact ⟨i, by go_num, by omega, lt_of_bit n i H2.out hb⟩
        case measure => simp [intOf] <;> omega
end Go.Proofs.YtkhgoeippamobaaGreatDoor
