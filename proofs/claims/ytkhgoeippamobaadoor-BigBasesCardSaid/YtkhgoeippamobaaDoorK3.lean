/-
  Part K3 of the proofs of this seat: contracts of functions and plain facts, merged from 1 texts.
-/
import Derived.Test.YtkhgoeippamobaaDoorK1
import Derived.Test.YtkhgoeippamobaaDoorK2
/-
  The reference: order, minus.
-/
namespace Go.Proofs.YtkhgoeippamobaaDoor
open Go.RowKit
theorem div10_split (n i : Nat) : n / 10 ^ i = dgt 10 n i + 10 * (n / 10 ^ (i + 1)) := by
  unfold dgt
  rw [Nat.pow_succ, ← Nat.div_div_eq_div_mul]
  have := Nat.mod_add_div (n / 10 ^ i) 10
  omega
theorem cmp10_lt (m n i : Nat) (h : m / 10 ^ (i + 1) = n / 10 ^ (i + 1)) (hd : dgt 10 m i < dgt 10 n i) : m < n := by
  have h1 := div10_split m i
  have h2 := div10_split n i
  have h3 : m / 10 ^ i < n / 10 ^ i := by omega
  exact Nat.lt_of_not_le fun hle => by
    have := Nat.div_le_div_right (c := 10 ^ i) hle
    omega
theorem cmp10_eq (m n i : Nat) (h : m / 10 ^ (i + 1) = n / 10 ^ (i + 1)) (hd : dgt 10 m i = dgt 10 n i) : m / 10 ^ i = n / 10 ^ i := by
  rw [div10_split m i, div10_split n i, h, hd]
set_option maxRecDepth 100000 in
set_option maxHeartbeats 4000000 in
theorem order_fn {v u : Value} {m n : Nat} {w : World} (hv : DecRep w v m) (hu : DecRep w u n) (hl : dlen 10 m ≤ 100000000) (hl' : dlen 10 n ≤ 100000000) :
    Calls Tryd.prog 40 #[v, u] w fun e w' => e = .returned (.int .i64 (cmpN m n)) ∧ w' = w := by
  obtain ⟨a, cap, rfl⟩ := hv.shape
  obtain ⟨a', cap', rfl⟩ := hu.shape
  go_enter Tryd.func40, Tryd.ntmps40
  go_wp2
  go_loop [5] (fun i => ∃ j : Nat, i = .int .i64 ((j : Int) - 1) ∧ j ≤ max (dlen 10 m) (dlen 10 n) ∧ m / 10 ^ j = n / 10 ^ j) (fun i => (intOf i + 1).toNat)
  case atStart =>
    refine ⟨max (dlen 10 m) (dlen 10 n), ?_, Nat.le_refl _, ?_⟩
    · congr 1; omega
    · rw [(dlen_div 10 m _ (by decide)).2 (Nat.le_max_left _ _), (dlen_div 10 n _ (by decide)).2 (Nat.le_max_right _ _)]
  case round =>
    obtain ⟨j, rfl, hj, he⟩ := hrel
    have HE := hid he
    clear he
    by_cases h0 : j = 0
    · subst h0
      have hmn : m = n := by have := HE.out; simpa using this
      have HC := hid (show cmpN m n = 0 by unfold cmpN; rw [if_neg (by omega), if_neg (by omega)])
      clear hmn HE
      go_wp2
      go_ret
      exact ⟨by rw [HC.out]; rfl, rfl⟩
    · obtain ⟨i, rfl⟩ : ∃ i, j = i + 1 := ⟨j - 1, by omega⟩
      have hi : ((i + 1 : Nat) : Int) - 1 = (i : Int) := by omega
      rw [hi]
      have hc1 := hid (dig_fn hv (by omega) i (by omega))
      have hc2 := hid (dig_fn hu (by omega) i (by omega))
      clear hi
      have hlt1 := cmp10_lt m n i HE.out
      have hlt2 := cmp10_lt n m i HE.out.symm
      have heq := cmp10_eq m n i HE.out
      have H1 := hid hlt1
      have H2 := hid hlt2
      have H3 := hid heq
      clear hlt1 hlt2 heq
      generalize dgt 10 m i = x at *
      generalize dgt 10 n i = y at *
      rcases Nat.lt_trichotomy x y with hxy | hxy | hxy
      · have HC := hid (show cmpN m n = -1 by unfold cmpN; rw [if_pos (H1.out hxy)])
        have hne : (((x : Nat) : Int) != ((y : Nat) : Int)) = true := by rw [bne_iff_ne]; omega
        go_wp2_with fail
        (with_reducible refine hc1.out.mono ?_); rintro e w' ⟨rfl, rfl⟩
        go_wp2_with fail
        (with_reducible refine hc2.out.mono ?_); rintro e w' ⟨rfl, rfl⟩
        go_wp2
        go_ret
        exact ⟨by rw [HC.out]; rfl, rfl⟩
      · subst hxy
        have hq := hid (H3.out rfl)
        have hne : (((x : Nat) : Int) != ((x : Nat) : Int)) = false := by simp
        go_wp2_with fail
        (with_reducible refine hc1.out.mono ?_); rintro e w' ⟨rfl, rfl⟩
        go_wp2_with fail
        (with_reducible refine hc2.out.mono ?_); rintro e w' ⟨rfl, rfl⟩
        go_wp2
        go_round
        case rel => exact ⟨i, rfl, by omega, hq.out⟩
        case measure => simp [intOf] <;> omega
      · have HC := hid (show cmpN m n = 1 by unfold cmpN; have := H2.out hxy; rw [if_neg (by omega), if_pos this])
        have hne : (((x : Nat) : Int) != ((y : Nat) : Int)) = true := by rw [bne_iff_ne]; omega
        have hge : ¬ ((x : Nat) : Int) < ((y : Nat) : Int) := by omega
        go_wp2_with fail
        (with_reducible refine hc1.out.mono ?_); rintro e w' ⟨rfl, rfl⟩
        go_wp2_with fail
        (with_reducible refine hc2.out.mono ?_); rintro e w' ⟨rfl, rfl⟩
        go_wp2
        go_ret
        exact ⟨by rw [HC.out]; rfl, rfl⟩
/-- what is borrowed behind i digits -/
def bw10 (m n i : Nat) : Nat := if m % 10 ^ i < n % 10 ^ i then 1 else 0
theorem bw10_zero (m n : Nat) : bw10 m n 0 = 0 := by unfold bw10; simp [Nat.mod_one]
theorem bw10_le (m n i : Nat) : bw10 m n i ≤ 1 := by unfold bw10; split <;> omega
theorem bw10_mod (m n i : Nat) (h : n ≤ m) : (m - n) % 10 ^ i + n % 10 ^ i = m % 10 ^ i + 10 ^ i * bw10 m n i := by
  have hp := pow10_pos i
  unfold bw10
  generalize 10 ^ i = X at *
  have h1 := Nat.div_add_mod m X
  have h2 := Nat.div_add_mod n X
  have h3 := Nat.mod_lt m hp
  have h4 := Nat.mod_lt n hp
  have hq : n / X ≤ m / X := Nat.div_le_div_right h
  obtain ⟨k, hk⟩ := Nat.le.dest hq
  generalize m / X = q1 at *
  generalize n / X = q2 at *
  generalize m % X = M at *
  generalize n % X = N at *
  subst hk
  rw [Nat.mul_add] at h1
  split
  · rename_i hlt
    cases k with
    | zero => rw [Nat.mul_zero] at h1; omega
    | succ k =>
      have e : m - n = (M + X - N) + X * k := by rw [Nat.mul_succ] at h1; omega
      rw [e, Nat.add_mul_mod_self_left, Nat.mod_eq_of_lt (by omega)]
      omega
  · have e : m - n = (M - N) + X * k := by omega
    rw [e, Nat.add_mul_mod_self_left, Nat.mod_eq_of_lt (by omega)]
    omega
theorem bw10_step (m n i : Nat) (h : n ≤ m) : dgt 10 (m - n) i + dgt 10 n i + bw10 m n i = dgt 10 m i + 10 * bw10 m n (i + 1) := by
  have h1 := bw10_mod m n i h
  have h2 := bw10_mod m n (i + 1) h
  rw [mod10_succ, mod10_succ, mod10_succ, Nat.pow_succ] at h2
  have hp := pow10_pos i
  generalize dgt 10 (m - n) i = A at *
  generalize dgt 10 n i = B at *
  generalize dgt 10 m i = C at *
  generalize bw10 m n i = b at *
  generalize bw10 m n (i + 1) = b' at *
  generalize 10 ^ i = X at *
  generalize (m - n) % X = U at *
  generalize n % X = V at *
  generalize m % X = W at *
  have h3 : (A + B + b) * X = (C + 10 * b') * X := by
    rw [Nat.add_mul, Nat.add_mul, Nat.add_mul]
    have e1 : X * 10 * b' = 10 * b' * X := by rw [Nat.mul_comm X 10, Nat.mul_right_comm]
    have e2 : X * b = b * X := Nat.mul_comm _ _
    omega
  exact Nat.eq_of_mul_eq_mul_right hp h3
theorem OwnDec.of {w : World} {base : Nat} {v : Value} {n : Nat} (h : Own .i64 3 w base v (dlen 10 n) (dgt 10 n)) : OwnDec w base v n := h
theorem trimmedD_own {v : Value} {base n k : Nat} {w : World} (h : Own .i64 3 w base v k (dgt 10 n)) (hk : k ≤ 1000000000) (hn : n < 10 ^ k) :
    Calls Tryd.prog 39 #[v] w fun e w' => (∃ v', e = .returned v' ∧ OwnDec w base v' n) ∧ w' = w := by
  obtain ⟨a, cap, rfl⟩ := h.shape
  refine (trimmedD_row h.row hk hn).mono ?_
  rintro e w' ⟨rfl, rfl⟩
  exact ⟨⟨_, rfl, h.cut ((dlen_le_iff 10 n k (by decide)).2 hn)⟩, rfl⟩
set_option maxRecDepth 100000 in
set_option maxHeartbeats 4000000 in
theorem minusD_fn {v u : Value} {m n : Nat} {w : World} (hv : DecRep w v m) (hu : DecRep w u n) (hm : dlen 10 m ≤ 100000000) (hn : dlen 10 n ≤ 100000000) (hle : n ≤ m) :
    Calls Tryd.prog 41 #[v, u] w (FreshDec (m - n) w) := by
  obtain ⟨a1, c1, hv1, hcap, hcell⟩ := hv
  subst hv1
  obtain ⟨a2, c2, rfl⟩ := hu.shape
  have HL := hid hle
  have HC := hid hcell
  clear hle hcell
  go_enter Tryd.func41, Tryd.ntmps41
  go_wp2
  go_loopw [5, 6, 11] (fun sv cv iv wr => ∃ i : Nat, iv = .int .i64 i ∧ i ≤ dlen 10 m ∧ Own .i64 3 wr w.heap.size sv i (dgt 10 (m - n)) ∧ cv = .int .i64 (bw10 m n i) ∧ Below w.heap.size w wr) (fun _ _ iv _ => dlen 10 m - (intOf iv).toNat)
  case atStart => exact ⟨0, rfl, Nat.zero_le _, Own.nil, by rw [bw10_zero]; rfl, Below.refl _ _⟩
  case round =>
    obtain ⟨i, rfl, hi, hown, rfl, hbr⟩ := hrel
    obtain ⟨a3, c3, rfl⟩ := hown.shape
    have hszr := hbr.size
    by_cases hlt : i < dlen 10 m
    · obtain ⟨b, off, rfl, hbl, hc⟩ := HC.out (by omega)
      have hci := (hbr.cell (p := ⟨b, off + i, none⟩) hbl).trans (hc i hlt)
      have hcd := hid (fun (q : Nat) => dig_fn (hu.below (hbr.trans (below_drewN (Below.refl w.heap.size wr) q))) (by omega) i (by omega))
      have hst := bw10_step m n i HL.out
      have q1 := dgt_lt 10 m i (by decide)
      have q2 := dgt_lt 10 n i (by decide)
      have q3 := dgt_lt 10 (m - n) i (by decide)
      have q4 := bw10_le m n i
      have q5 := bw10_le m n (i + 1)
      have HA := hid (show dgt 10 (m - n) i = dgt 10 (m - n) i from rfl)
      generalize hAA : dgt 10 (m - n) i = A at *
      generalize hbb : bw10 m n (i + 1) = b' at *
      have HAA := hid hAA
      have HBB := hid hbb
      clear hc hAA hbb HA
      generalize dgt 10 m i = x at *
      generalize dgt 10 n i = y at *
      generalize bw10 m n i = b at *
      have hidx : (0 : Int) ≤ (i : Int) := by omega
      have hidx2 : (i : Int) < (dlen 10 m : Nat) := by omega
      have hlim : i ≤ 100000000 := by omega
      have hcase : b' = 0 ∨ b' = 1 := by omega
      rcases hcase with hb0 | hb1
      · have hA := hid (show (A : Int) = (x : Int) - y - b by omega)
        have hnn : ¬ (x : Int) - y - b < 0 := by omega
        have HB0 := hid hb0
        clear hst hb0 q5
        go_wp2
        go_quiet ((go_at_call 19; exact Calls.quiet_of_same (hcd.out _)))
        have hown1 : Own .i64 3 (wr.drewN nq) w.heap.size (.slice a3 i c3) i (dgt 10 (m - n)) := hown
        have hbr1 := below_drewN hbr nq
        have hsz1 : w.heap.size ≤ (wr.drewN nq).heap.size := hbr1.size
        generalize wr.drewN nq = wq at *
        go_wp2_with (at_builtin; refine app_i64 rfl _ _ rfl w.heap.size _ i _ rfl hown1 _ rfl ?_ (by omega) (by omega) ?_; rotate_left; intro v' w2 hown2 hb2)
        · go_roundw
          case rel => exact ⟨i + 1, by go_num, by omega, hown2, by rw [HBB.out, HB0.out]; rfl, hbr1.trans (hb2.mono (Nat.le_refl _))⟩
          case measure => simp [intOf] <;> omega
        · rw [HAA.out, hA.out]
      · have hA := hid (show (A : Int) = (x : Int) - y - b + 10 by omega)
        have hnn : (x : Int) - y - b < 0 := by omega
        have HB1 := hid hb1
        clear hst hb1 q5
        go_wp2
        go_quiet ((go_at_call 19; exact Calls.quiet_of_same (hcd.out _)))
        have hown1 : Own .i64 3 (wr.drewN nq) w.heap.size (.slice a3 i c3) i (dgt 10 (m - n)) := hown
        have hbr1 := below_drewN hbr nq
        have hsz1 : w.heap.size ≤ (wr.drewN nq).heap.size := hbr1.size
        generalize wr.drewN nq = wq at *
        go_wp2_with (at_builtin; refine app_i64 rfl _ _ rfl w.heap.size _ i _ rfl hown1 _ rfl ?_ (by omega) (by omega) ?_; rotate_left; intro v' w2 hown2 hb2)
        · go_roundw
          case rel => exact ⟨i + 1, by go_num, by omega, hown2, by rw [HBB.out, HB1.out]; rfl, hbr1.trans (hb2.mono (Nat.le_refl _))⟩
          case measure => simp [intOf] <;> omega
        · rw [HAA.out, hA.out]
    · obtain rfl : i = dlen 10 m := by omega
      have hlt' : m - n < 10 ^ dlen 10 m := Nat.lt_of_le_of_lt (Nat.sub_le m n) (dlen_lt 10 m (by decide))
      have HT := hid (trimmedD_own hown (by omega) hlt')
      clear hlt'
      go_wp2_with fail
      (with_reducible refine HT.out.mono ?_); rintro e w2 ⟨⟨v', rfl, hv'⟩, rfl⟩
      go_wp2
      go_ret
      exact ⟨_, rfl, hv', hbr⟩
end Go.Proofs.YtkhgoeippamobaaDoor
