/-
  The reference: natOf.
-/
import Derived.Test.YtkhgoeippamobaaGreatDoorRefF
namespace Go.Proofs.YtkhgoeippamobaaGreatDoor
open Go.RowKit
theorem dlen_small (n : Nat) (h : n ≤ 9223372036854775807) : dlen 10 n ≤ 19 := (dlen_le_iff 10 n 19 (by decide)).2 (by omega)
set_option maxRecDepth 100000 in
set_option maxHeartbeats 4000000 in
theorem natOf_fn (n : Nat) (hn : n ≤ 9223372036854775807) (w : World) :
    Calls Tryz.prog 88 #[.int .i64 n] w (FreshDec n w) := by
  have hdl := dlen_small n hn
  go_enter Tryz.func88, Tryz.ntmps88
  go_wp2
  go_loopw [0, 3] (fun nv sv wr => ∃ k : Nat, nv = .int .i64 ((n / 10 ^ k : Nat) : Int) ∧ k ≤ dlen 10 n ∧ Own .i64 3 wr w.heap.size sv k (dgt 10 n) ∧ Below w.heap.size w wr) (fun _ sv _ => dlen 10 n - lenOf sv)
  case atStart => exact ⟨0, by simp, Nat.zero_le _, Own.nil, Below.refl _ _⟩
  case round =>
    obtain ⟨k, rfl, hk, hown, hbr⟩ := hrel
    obtain ⟨a3, c3, rfl⟩ := hown.shape
    have hszr := hbr.size
    have hle : n / 10 ^ k ≤ n := Nat.div_le_self _ _
    have hz := dlen_div 10 n k (by decide)
    have HD := hid (show dgt 10 n k = n / 10 ^ k % 10 from rfl)
    have HS := hid (show n / 10 ^ (k + 1) = n / 10 ^ k / 10 by rw [Nat.pow_succ, Nat.div_div_eq_div_mul])
    generalize n / 10 ^ k = x at *
    by_cases h0 : 0 < x
    · have hlt : k < dlen 10 n := by omega
      go_wp2_with (at_builtin; refine app_i64 rfl _ _ rfl w.heap.size _ k _ rfl hown _ rfl ?_ (by omega) (by omega) ?_; rotate_left; intro v' w2 hown2 hb2)
      · go_roundw
        case rel => exact ⟨k + 1, by rw [HS.out]; rfl, by omega, hown2, hbr.trans (hb2.mono (Nat.le_refl _))⟩
        case measure =>
          have e2 := hown2.lenOf
          have e1 := hown.lenOf
          omega
      · rw [HD.out]; omega
    · have hx : x = 0 := by omega
      have hL := hid (show dlen 10 n = k by omega)
      subst hx
      clear hz hle
      go_wp2
      go_ret
      exact ⟨_, rfl, by unfold OwnDec; rw [hL.out]; exact hown, hbr⟩
end Go.Proofs.YtkhgoeippamobaaGreatDoor
