/-
  times a small number, and a small one more.
-/
import Derived.Test.YtkhgoeippamobaaGreatDoorOwn
namespace Go.Proofs.YtkhgoeippamobaaGreatDoor
open Go.RowKit
set_option maxRecDepth 100000 in
set_option maxHeartbeats 1000000 in
theorem small_nat {v : Value} {n : Nat} {w : World} (h : NatRep w v n) (hl : nlen n ≤ 100000000) (k c : Nat) (hk : k < 4294967296) (hc : c < 4294967296) :
    Calls Tryz.prog 150 #[v, .int .u32 k, .int .u32 c] w (Fresh (n * k + c) w) := by
  obtain ⟨a, cap, rfl⟩ := h.shape
  go_enter Tryz.func150, Tryz.ntmps150
  go_wp2
  go_loopw [7, 8, 10, 15] (fun out carry _ i wr => ∃ j : Nat, i = .int .i64 j ∧ j ≤ nlen n ∧ Own .u32 75 wr w.heap.size out j (D (n * k + c)) ∧ carry = .int .u64 (cySmall n k c j) ∧ Below w.heap.size w wr)
     (fun _ _ _ i _ => nlen n - (intOf i).toNat)
  case atStart => exact ⟨0, rfl, Nat.zero_le _, Own.nil, by rw [cySmall_zero], Below.refl _ _⟩
  case round =>
    obtain ⟨j, rfl, hj, hown, rfl, hb⟩ := hrel
    have hcy := cySmall_lt n k c j hk hc
    by_cases hlt : j < nlen n
    · obtain ⟨a', cap', hv, _, hcell⟩ := h.below hb
      simp only [Value.slice.injEq, true_and] at hv
      obtain ⟨rfl, rfl⟩ := hv
      obtain ⟨b, off, rfl, _, hc0⟩ := hcell (by omega)
      have hcj := hc0 j hlt
      have hd := D_lt n j
      have hw1 := tSmall_mul n k j hk
      have hw2 := tSmall_wrap n k c j hk hc
      have hw3 := tSmall_mod n k c j
      have hw4 := tSmall_div n k c j
      have hsz := hb.size
      go_wp2_with (at_builtin; refine app_u32 rfl _ _ rfl w.heap.size _ j _ rfl hown _ rfl rfl (by omega) hsz ?_; intro v' w1 hown1 hb1)
      go_roundw
      case rel => exact ⟨j + 1, by go_num, by omega, hown1, rfl, hb.trans (hb1.mono (by omega))⟩
      case measure => simp [intOf] <;> omega
    · obtain rfl : j = nlen n := by omega
      have hw3 := hid (cySmall_last n k c hk hc)
      have hsz := hb.size
      go_wp2_with (at_builtin; refine app_u32 rfl _ _ rfl w.heap.size _ (nlen n) _ rfl hown _ rfl hw3.out (by omega) hsz ?_; intro v' w1 hown1 hb1)
      refine (trimmed_own hown1 (by omega) (small_lt n k c hk hc)).mono ?_
      rintro e w2 ⟨⟨v2, rfl, hown2⟩, rfl⟩
      go_wp2
      go_ret
      exact ⟨v2, rfl, hown2, hb.trans (hb1.mono (by omega))⟩
end Go.Proofs.YtkhgoeippamobaaGreatDoor
