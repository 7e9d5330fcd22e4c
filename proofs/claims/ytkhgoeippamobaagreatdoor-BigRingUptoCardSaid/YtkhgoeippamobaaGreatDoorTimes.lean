/-
  The product of two numbers.
-/
import Derived.Test.YtkhgoeippamobaaGreatDoorMake
import Derived.Test.YtkhgoeippamobaaGreatDoorTimesMath
namespace Go.Proofs.YtkhgoeippamobaaGreatDoor
open Go.RowKit
set_option maxRecDepth 100000 in
set_option maxHeartbeats 2000000 in
theorem times_nat {v u : Value} {m n : Nat} {w : World} (hv : NatRep w v m) (hu : NatRep w u n) (hm : nlen m ≤ 100000000) (hn : nlen n ≤ 100000000) :
    Calls Tryz.prog 114 #[v, u] w (Fresh (m * n) w) := by
  obtain ⟨a, cap, rfl⟩ := hv.shape
  obtain ⟨a', cap', rfl⟩ := hu.shape
  go_enter Tryz.func114, Tryz.ntmps114
  go_wp2_with (at_make; refine mk_u32 _ rfl _ _ rfl w.heap.size (nlen m + nlen n) _ _ rfl rfl (by simp) (by simp) (by omega) (Nat.le_refl _) ?_; intro w1 hown hb hz hb1)
  go_loopw [19] (fun i wr => ∃ j : Nat, i = .int .i64 j ∧ j ≤ nlen m ∧ Own .u32 75 wr w.heap.size (.slice (some ⟨w.heap.size, 0, none⟩) (nlen m + nlen n) (nlen m + nlen n)) (nlen m + nlen n) (D (sT m n j)) ∧ Below w.heap.size w wr)
    (fun i _ => nlen m - (intOf i).toNat)
  case atStart => exact ⟨0, rfl, Nat.zero_le _, hown.congr (fun t _ => by rw [sT_zero, D_zero]), hb⟩
  case round =>
    obtain ⟨i, rfl, hi, hown1, hbr⟩ := hrel
    by_cases hlt : i < nlen m
    · obtain ⟨a1, cap1, hv1, _, hcell⟩ := hv.below hbr
      simp only [Value.slice.injEq, true_and] at hv1
      obtain ⟨rfl, rfl⟩ := hv1
      obtain ⟨b, off, rfl, _, hc0⟩ := hcell (by omega)
      have hcj := hc0 i hlt
      have hd := D_lt m i
      clear hown hb hz hb1
      obtain ⟨wo, rfl⟩ : ∃ wo : World, wo = wr := ⟨_, rfl⟩
      go_wp2
      go_loopw [8, 26] (fun carry k wr => ∃ j : Nat, k = .int .i64 j ∧ j ≤ nlen n ∧ carry = .int .u64 (cT m n i j) ∧ Own .u32 75 wr w.heap.size (.slice (some ⟨w.heap.size, 0, none⟩) (nlen m + nlen n) (nlen m + nlen n)) (nlen m + nlen n) (fun t => if t < i + j then D (tT m n i j) t else D (sT m n i) t) ∧ Below w.heap.size w wr)
        (fun _ k _ => nlen n - (intOf k).toNat)
      case atStart =>
        refine ⟨0, rfl, Nat.zero_le _, by rw [cT_zero]; rfl, hown1.congr (fun t _ => ?_), hbr⟩
        by_cases e : t < i
        · rw [if_pos (by omega), tT_start m n i t e]
        · rw [if_neg (by omega)]
      case round =>
        obtain ⟨k, rfl, hk, rfl, hown2, hbr2⟩ := hrel
        by_cases hlt2 : k < nlen n
        · obtain ⟨a2, cap2, hv2, _, hcell2⟩ := hu.below hbr2
          simp only [Value.slice.injEq, true_and] at hv2
          obtain ⟨rfl, rfl⟩ := hv2
          obtain ⟨b2, off2, rfl, _, hc2⟩ := hcell2 (by omega)
          have hck := hc2 k hlt2
          have hoc := hown2.cell (i + k) (by omega)
          rw [if_neg (by omega)] at hoc
          have hof := hown2.free (i + k)
          have hd2 := D_lt n k
          have hd3 := D_lt (sT m n i) (i + k)
          have hw1 := uT_wrap1 m n i k
          have hw2 := uT_wrap2 m n i k _ hd3
          have hw3 := uT_wrap3 m n i k
          have hw4 : ((uT m n i k : Nat) : Int) % 4294967296 = ((D (tT m n i (k + 1)) (i + k) : Nat) : Int) := by rw [← uT_mod]; omega
          have hw5 : ((uT m n i k : Nat) : Int) / 4294967296 = ((cT m n i (k + 1) : Nat) : Int) := by rw [← uT_div]; omega
          have hc1 := cT_lt m n i k
          clear hcell hcell2 hc0 hc2
          go_wp2
          go_roundw
          case rel =>
            refine ⟨k + 1, by go_num, by omega, rfl, (hown2.store (i + k) _).congr ?_, hbr2.setCell (Nat.le_refl _) _⟩
            intro t ht
            show (if t = i + k then _ else if t < i + k then _ else _) = _
            by_cases e : t = i + k
            · rw [if_pos e, if_pos (by omega), e]
            · rw [if_neg e]
              by_cases e2 : t < i + k
              · rw [if_pos e2, if_pos (by omega), tT_low m n i k t e2]
              · rw [if_neg e2, if_neg (by omega)]
          case measure => simp [intOf] <;> omega
        · obtain rfl : k = nlen n := by omega
          have hoc := hown2.cell (i + nlen n) (by omega)
          have hof := hown2.free (i + nlen n)
          have hc1 := cT_lt m n i (nlen n)
          go_wp2
          go_roundw
          case rel =>
            refine ⟨i + 1, by go_num, by omega, (hown2.store (i + nlen n) _).congr ?_, hbr2.setCell (Nat.le_refl _) _⟩
            intro t ht
            show (if t = i + nlen n then _ else if t < i + nlen n then _ else _) = _
            by_cases e : t = i + nlen n
            · rw [if_pos e, e, cT_end]
            · rw [if_neg e]
              by_cases e2 : t < i + nlen n
              · rw [if_pos e2, tT_end]
              · rw [if_neg e2, D_high _ _ _ (sT_lt m n i) (by omega), D_high _ _ _ (sT_lt m n (i + 1)) (by omega)]
          case measure => simp [intOf] <;> omega
    · obtain rfl : i = nlen m := by omega
      rw [sT_all] at hown1
      go_wp2_with fail
      refine (trimmed_own hown1 (by omega) (mul_lt_pow m n)).mono ?_
      rintro e w' ⟨⟨u2, rfl, hu2⟩, rfl⟩
      go_wp2
      go_ret
      exact ⟨u2, rfl, hu2, hbr⟩
end Go.Proofs.YtkhgoeippamobaaGreatDoor
