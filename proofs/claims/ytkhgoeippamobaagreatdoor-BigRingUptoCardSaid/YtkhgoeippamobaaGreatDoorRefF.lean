/-
  The reference: a digit, the sum.
-/
import Derived.Test.YtkhgoeippamobaaGreatDoorRefE
namespace Go.Proofs.YtkhgoeippamobaaGreatDoor
open Go.RowKit
theorem dgt_out (n i : Nat) (h : dlen 10 n ≤ i) : dgt 10 n i = 0 := by
  unfold dgt
  rw [(dlen_div 10 n i (by decide)).2 h]
theorem dig_in (b off len cap i : Nat) (x : Int) (w : World) (hi : i < len) (_hl : len ≤ 1000000000000) (hc : w.cell? ⟨b, off + i, none⟩ = some (.int .i64 x)) :
    Calls Tryz.prog 130 #[.slice (some ⟨b, off, none⟩) len cap, .int .i64 i] w fun e w' => e = .returned (.int .i64 x) ∧ w' = w := by
  go_enter Tryz.func130, Tryz.ntmps130
  go_wp2
  go_ret
  exact ⟨rfl, rfl⟩
theorem dig_out (a : Option Addr) (len cap i : Nat) (w : World) (hi : len ≤ i) (_hl : i ≤ 1000000000000) :
    Calls Tryz.prog 130 #[.slice a len cap, .int .i64 i] w fun e w' => e = .returned (.int .i64 0) ∧ w' = w := by
  go_enter Tryz.func130, Tryz.ntmps130
  go_wp2
  go_ret
  exact ⟨rfl, rfl⟩
theorem dig_fn {v : Value} {n : Nat} {w : World} (h : DecRep w v n) (hl : dlen 10 n ≤ 1000000000) (i : Nat) (hi : i ≤ 1000000000) :
    Calls Tryz.prog 130 #[v, .int .i64 i] w fun e w' => e = .returned (.int .i64 (dgt 10 n i)) ∧ w' = w := by
  obtain ⟨a, cap, rfl, hc, h⟩ := h
  by_cases hlt : i < dlen 10 n
  · obtain ⟨b, off, rfl, _, hcell⟩ := h (by omega)
    exact dig_in b off _ cap i _ w hlt (by omega) (hcell i hlt)
  · have := dig_out a (dlen 10 n) cap i w (by omega) (by omega)
    rw [dgt_out n i (by omega)]
    exact this
/-- the carry of a sum behind i digits -/
def cy10 (m n i : Nat) : Nat := (m % 10 ^ i + n % 10 ^ i) / 10 ^ i
theorem mod10_succ (n i : Nat) : n % 10 ^ (i + 1) = dgt 10 n i * 10 ^ i + n % 10 ^ i := by
  unfold dgt
  rw [Nat.pow_succ, Nat.mod_mul, Nat.mul_comm (n / 10 ^ i % 10), Nat.add_comm]
theorem cy10_le (m n i : Nat) : cy10 m n i ≤ 1 := by
  unfold cy10
  have h1 := Nat.mod_lt m (Nat.pow_pos (n := i) (show 0 < 10 by decide))
  have h2 := Nat.mod_lt n (Nat.pow_pos (n := i) (show 0 < 10 by decide))
  have h3 : (m % 10 ^ i + n % 10 ^ i) / 10 ^ i < 2 := by
    rw [Nat.div_lt_iff_lt_mul (Nat.pow_pos (by decide))]; omega
  omega
theorem cy10_step (m n i : Nat) : (dgt 10 m i + dgt 10 n i + cy10 m n i) % 10 = dgt 10 (m + n) i ∧ (dgt 10 m i + dgt 10 n i + cy10 m n i) / 10 = cy10 m n (i + 1) := by
  have hp : 0 < 10 ^ i := Nat.pow_pos (by decide)
  have key : (m % 10 ^ (i + 1) + n % 10 ^ (i + 1)) / 10 ^ i = dgt 10 m i + dgt 10 n i + cy10 m n i := by
    rw [mod10_succ, mod10_succ]
    unfold cy10
    have e : dgt 10 m i * 10 ^ i + m % 10 ^ i + (dgt 10 n i * 10 ^ i + n % 10 ^ i) = (m % 10 ^ i + n % 10 ^ i) + 10 ^ i * (dgt 10 m i + dgt 10 n i) := by
      rw [Nat.mul_add, Nat.mul_comm (10 ^ i), Nat.mul_comm (10 ^ i)]; omega
    rw [e, Nat.add_mul_div_left _ _ hp]
    omega
  constructor
  · rw [← key]
    unfold dgt
    have h1 := Nat.div_add_mod m (10 ^ (i + 1))
    have h2 := Nat.div_add_mod n (10 ^ (i + 1))
    have e : m + n = (m % 10 ^ (i + 1) + n % 10 ^ (i + 1)) + 10 ^ i * (10 * (m / 10 ^ (i + 1) + n / 10 ^ (i + 1))) := by
      have ps : 10 ^ i * 10 = 10 ^ (i + 1) := (Nat.pow_succ 10 i).symm
      rw [← Nat.mul_assoc, ps, Nat.mul_add]
      omega
    conv => rhs; rw [e, Nat.add_mul_div_left _ _ hp, Nat.add_mul_mod_self_left]
  · rw [← key]
    unfold cy10
    rw [Nat.div_div_eq_div_mul, ← Nat.pow_succ]
theorem cy10_top (m n i : Nat) (hm : dlen 10 m ≤ i) (hn : dlen 10 n ≤ i) (h : cy10 m n i = 0) : dlen 10 (m + n) ≤ i := by
  rw [dlen_le_iff 10 _ _ (by decide)] at hm hn ⊢
  unfold cy10 at h
  rw [Nat.mod_eq_of_lt hm, Nat.mod_eq_of_lt hn] at h
  exact (Nat.div_eq_zero_iff_lt (Nat.pow_pos (by decide))).1 h
theorem cy10_grow (m n i : Nat) (h : i < dlen 10 m ∨ i < dlen 10 n ∨ 0 < cy10 m n i) : i < dlen 10 (m + n) := by
  rw [lt_dlen_iff 10 _ _ (by decide)] at *
  rw [lt_dlen_iff 10 n _ (by decide)] at h
  rcases h with h | h | h
  · omega
  · omega
  · unfold cy10 at h
    have h1 : 10 ^ i ≤ m % 10 ^ i + n % 10 ^ i := by
      rcases Nat.lt_or_ge (m % 10 ^ i + n % 10 ^ i) (10 ^ i) with h2 | h2
      · rw [Nat.div_eq_of_lt h2] at h; omega
      · exact h2
    have h3 := Nat.mod_le m (10 ^ i)
    have h4 := Nat.mod_le n (10 ^ i)
    omega
/-- a fresh number as decimal digits -/
def FreshDec (n : Nat) (w : World) (e : Ending) (w' : World) : Prop := ∃ v, e = .returned v ∧ OwnDec w' w.heap.size v n ∧ Below w.heap.size w w'
set_option maxRecDepth 100000 in
set_option maxHeartbeats 4000000 in
theorem plusD_fn {v u : Value} {m n : Nat} {w : World} (hv : DecRep w v m) (hu : DecRep w u n) (hm : dlen 10 m ≤ 100000000) (hn : dlen 10 n ≤ 100000000) :
    Calls Tryz.prog 128 #[v, u] w (FreshDec (m + n) w) := by
  obtain ⟨a1, c1, rfl⟩ := hv.shape
  obtain ⟨a2, c2, rfl⟩ := hu.shape
  go_enter Tryz.func128, Tryz.ntmps128
  go_wp2
  go_loopw [5, 6, 7] (fun sv cv iv wr => ∃ i : Nat, iv = .int .i64 i ∧ i ≤ 100000001 ∧ i ≤ dlen 10 (m + n) ∧ Own .i64 3 wr w.heap.size sv i (dgt 10 (m + n)) ∧ cv = .int .i64 (cy10 m n i) ∧ Below w.heap.size w wr) (fun _ _ iv _ => 100000001 - (intOf iv).toNat)
  case atStart => exact ⟨0, rfl, by decide, Nat.zero_le _, Own.nil, by simp [cy10], Below.refl _ _⟩
  case round =>
    obtain ⟨i, rfl, hi, hid1, hown, rfl, hbr⟩ := hrel
    obtain ⟨a3, c3, rfl⟩ := hown.shape
    have hcy := cy10_le m n i
    have hszr := hbr.size
    have hdm := dgt_lt 10 m i (by decide)
    have hdn := dgt_lt 10 n i (by decide)
    have hlim : i < dlen 10 m ∨ i < dlen 10 n ∨ 0 < cy10 m n i → i ≤ 100000000 := by
      intro h
      rcases h with h | h | h
      · omega
      · omega
      · rcases Nat.lt_or_ge i 100000001 with h2 | h2
        · omega
        · exfalso
          have h3 : dlen 10 m < i := by omega
          have h4 : dlen 10 n < i := by omega
          obtain ⟨j, rfl⟩ : ∃ j, i = j + 1 := ⟨i - 1, by omega⟩
          have h5 := (cy10_step m n j).2
          have h6 := cy10_le m n j
          rw [dgt_out m j (by omega), dgt_out n j (by omega)] at h5
          omega
    by_cases h1 : i < dlen 10 m
    · have hlim2 := hlim (.inl h1)
      clear hlim
      have hg := cy10_grow m n i (.inl h1)
      have hc1 := hid (dig_fn (hv.below hbr) (by omega) i (by omega))
      have hc2 := hid (dig_fn (hu.below hbr) (by omega) i (by omega))
      obtain ⟨hs1, hs2⟩ := cy10_step m n i
      have HS1 := hid hs1
      have HS2 := hid hs2
      clear hs1 hs2
      generalize dgt 10 m i = x at *
      generalize dgt 10 n i = y at *
      generalize cy10 m n i = z at *
      go_wp2_with fail
      (with_reducible refine hc1.out.mono ?_); rintro e w' ⟨rfl, rfl⟩
      go_wp2_with fail
      (with_reducible refine hc2.out.mono ?_); rintro e w' ⟨rfl, rfl⟩
      go_wp2_with (at_builtin; refine app_i64 rfl _ _ rfl w.heap.size _ i _ rfl hown _ rfl ?_ (by omega) (by omega) ?_; rotate_left; intro v' w2 hown2 hb2)
      · go_roundw
        case rel => exact ⟨i + 1, by go_num, by omega, by omega, hown2, by rw [← HS2.out]; rfl, hbr.trans (hb2.mono (Nat.le_refl _))⟩
        case measure => simp [intOf] <;> omega
      · rw [← HS1.out]; omega
    · by_cases h2 : i < dlen 10 n
      · have hlim2 := hlim (.inr (.inl h2))
        clear hlim
        have hg := cy10_grow m n i (.inr (.inl h2))
        have hc1 := hid (dig_fn (hv.below hbr) (by omega) i (by omega))
        have hc2 := hid (dig_fn (hu.below hbr) (by omega) i (by omega))
        obtain ⟨hs1, hs2⟩ := cy10_step m n i
        have HS1 := hid hs1
        have HS2 := hid hs2
        clear hs1 hs2
        generalize dgt 10 m i = x at *
        generalize dgt 10 n i = y at *
        generalize cy10 m n i = z at *
        go_wp2_with fail
        (with_reducible refine hc1.out.mono ?_); rintro e w' ⟨rfl, rfl⟩
        go_wp2_with fail
        (with_reducible refine hc2.out.mono ?_); rintro e w' ⟨rfl, rfl⟩
        go_wp2_with (at_builtin; refine app_i64 rfl _ _ rfl w.heap.size _ i _ rfl hown _ rfl ?_ (by omega) (by omega) ?_; rotate_left; intro v' w2 hown2 hb2)
        · go_roundw
          case rel => exact ⟨i + 1, by go_num, by omega, by omega, hown2, by rw [← HS2.out]; rfl, hbr.trans (hb2.mono (Nat.le_refl _))⟩
          case measure => simp [intOf] <;> omega
        · rw [← HS1.out]; omega
      · by_cases h3 : 0 < cy10 m n i
        · have hlim2 := hlim (.inr (.inr h3))
          clear hlim
          have hg := cy10_grow m n i (.inr (.inr h3))
          have hc1 := hid (dig_fn (hv.below hbr) (by omega) i (by omega))
          have hc2 := hid (dig_fn (hu.below hbr) (by omega) i (by omega))
          obtain ⟨hs1, hs2⟩ := cy10_step m n i
          have HS1 := hid hs1
          have HS2 := hid hs2
          clear hs1 hs2
          generalize dgt 10 m i = x at *
          generalize dgt 10 n i = y at *
          generalize cy10 m n i = z at *
          go_wp2_with fail
          (with_reducible refine hc1.out.mono ?_); rintro e w' ⟨rfl, rfl⟩
          go_wp2_with fail
          (with_reducible refine hc2.out.mono ?_); rintro e w' ⟨rfl, rfl⟩
          go_wp2_with (at_builtin; refine app_i64 rfl _ _ rfl w.heap.size _ i _ rfl hown _ rfl ?_ (by omega) (by omega) ?_; rotate_left; intro v' w2 hown2 hb2)
          · go_roundw
            case rel => exact ⟨i + 1, by go_num, by omega, by omega, hown2, by rw [← HS2.out]; rfl, hbr.trans (hb2.mono (Nat.le_refl _))⟩
            case measure => simp [intOf] <;> omega
          · rw [← HS1.out]; omega
        · have hz : cy10 m n i = 0 := by omega
          have htop := cy10_top m n i (by omega) (by omega) hz
          have hL := hid (show dlen 10 (m + n) = i by omega)
          clear hlim htop hid1
          rw [hz]
          clear h3 hcy hz
          go_wp2
          go_ret
          exact ⟨_, rfl, by unfold OwnDec; rw [hL.out]; exact hown, hbr⟩
end Go.Proofs.YtkhgoeippamobaaGreatDoor
