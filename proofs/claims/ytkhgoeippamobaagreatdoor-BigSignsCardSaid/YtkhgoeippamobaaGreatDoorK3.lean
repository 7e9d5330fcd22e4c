/-
  Part K3 of the proofs of this seat: contracts of functions and plain facts, merged from 7 texts.
-/
import Derived.RegionTactic
import Derived.BigRegion
import Derived.Test.YtkhgoeippamobaaGreatDoorK1
import Derived.Test.YtkhgoeippamobaaGreatDoorK2
/-
  The reference: order, minus.
-/
namespace Go.Proofs.YtkhgoeippamobaaGreatDoor
open Go.RowKit
theorem div10_split (n i : Nat) : n / 10 ^ i = dgt 10 n i + 10 * (n / 10 ^ (i + 1)) := by
  unfold dgt
  rw [Nat.pow_succ, ← Nat.div_div_eq_div_mul]
  have := Nat.mod_add_div (n / 10 ^ i) 10
  omega
theorem cmp10_lt (m n i : Nat) (h : m / 10 ^ (i + 1) = n / 10 ^ (i + 1)) (hd : dgt 10 m i < dgt 10 n i) : m < n := by
  have h1 := div10_split m i
  have h2 := div10_split n i
  have h3 : m / 10 ^ i < n / 10 ^ i := by omega
  exact Nat.lt_of_not_le fun hle => by
    have := Nat.div_le_div_right (c := 10 ^ i) hle
    omega
theorem cmp10_eq (m n i : Nat) (h : m / 10 ^ (i + 1) = n / 10 ^ (i + 1)) (hd : dgt 10 m i = dgt 10 n i) : m / 10 ^ i = n / 10 ^ i := by
  rw [div10_split m i, div10_split n i, h, hd]
set_option maxRecDepth 100000 in
set_option maxHeartbeats 4000000 in
theorem order_fn {v u : Value} {m n : Nat} {w : World} (hv : DecRep w v m) (hu : DecRep w u n) (hl : dlen 10 m ≤ 100000000) (hl' : dlen 10 n ≤ 100000000) :
    Calls Tryz.prog 86 #[v, u] w fun e w' => e = .returned (.int .i64 (cmpN m n)) ∧ w' = w := by
  obtain ⟨a, cap, rfl⟩ := hv.shape
  obtain ⟨a', cap', rfl⟩ := hu.shape
  go_enter Tryz.func86, Tryz.ntmps86
  go_wp2
  go_loop [5] (fun i => ∃ j : Nat, i = .int .i64 ((j : Int) - 1) ∧ j ≤ max (dlen 10 m) (dlen 10 n) ∧ m / 10 ^ j = n / 10 ^ j) (fun i => (intOf i + 1).toNat)
  case atStart =>
    refine ⟨max (dlen 10 m) (dlen 10 n), ?_, Nat.le_refl _, ?_⟩
    · congr 1; omega
    · rw [(dlen_div 10 m _ (by decide)).2 (Nat.le_max_left _ _), (dlen_div 10 n _ (by decide)).2 (Nat.le_max_right _ _)]
  case round =>
    obtain ⟨j, rfl, hj, he⟩ := hrel
    have HE := hid he
    clear he
    by_cases h0 : j = 0
    · subst h0
      have hmn : m = n := by have := HE.out; simpa using this
      have HC := hid (show cmpN m n = 0 by unfold cmpN; rw [if_neg (by omega), if_neg (by omega)])
      clear hmn HE
      go_wp2
      go_ret
      exact ⟨by rw [HC.out]; rfl, rfl⟩
    · obtain ⟨i, rfl⟩ : ∃ i, j = i + 1 := ⟨j - 1, by omega⟩
      have hi : ((i + 1 : Nat) : Int) - 1 = (i : Int) := by omega
      rw [hi]
      have hc1 := hid (dig_fn hv (by omega) i (by omega))
      have hc2 := hid (dig_fn hu (by omega) i (by omega))
      clear hi
      have hlt1 := cmp10_lt m n i HE.out
      have hlt2 := cmp10_lt n m i HE.out.symm
      have heq := cmp10_eq m n i HE.out
      have H1 := hid hlt1
      have H2 := hid hlt2
      have H3 := hid heq
      clear hlt1 hlt2 heq
      generalize dgt 10 m i = x at *
      generalize dgt 10 n i = y at *
      rcases Nat.lt_trichotomy x y with hxy | hxy | hxy
      · have HC := hid (show cmpN m n = -1 by unfold cmpN; rw [if_pos (H1.out hxy)])
        have hne : (((x : Nat) : Int) != ((y : Nat) : Int)) = true := by rw [bne_iff_ne]; omega
        go_wp2_with fail
        (with_reducible refine hc1.out.mono ?_); rintro e w' ⟨rfl, rfl⟩
        go_wp2_with fail
        (with_reducible refine hc2.out.mono ?_); rintro e w' ⟨rfl, rfl⟩
        go_wp2
        go_ret
        exact ⟨by rw [HC.out]; rfl, rfl⟩
      · subst hxy
        have hq := hid (H3.out rfl)
        have hne : (((x : Nat) : Int) != ((x : Nat) : Int)) = false := by simp
        go_wp2_with fail
        (with_reducible refine hc1.out.mono ?_); rintro e w' ⟨rfl, rfl⟩
        go_wp2_with fail
        (with_reducible refine hc2.out.mono ?_); rintro e w' ⟨rfl, rfl⟩
        go_wp2
        go_round
        case rel => exact ⟨i, rfl, by omega, hq.out⟩
        case measure => simp [intOf] <;> omega
      · have HC := hid (show cmpN m n = 1 by unfold cmpN; have := H2.out hxy; rw [if_neg (by omega), if_pos this])
        have hne : (((x : Nat) : Int) != ((y : Nat) : Int)) = true := by rw [bne_iff_ne]; omega
        have hge : ¬ ((x : Nat) : Int) < ((y : Nat) : Int) := by omega
        go_wp2_with fail
        (with_reducible refine hc1.out.mono ?_); rintro e w' ⟨rfl, rfl⟩
        go_wp2_with fail
        (with_reducible refine hc2.out.mono ?_); rintro e w' ⟨rfl, rfl⟩
        go_wp2
        go_ret
        exact ⟨by rw [HC.out]; rfl, rfl⟩
/-- what is borrowed behind i digits -/
def bw10 (m n i : Nat) : Nat := if m % 10 ^ i < n % 10 ^ i then 1 else 0
theorem bw10_zero (m n : Nat) : bw10 m n 0 = 0 := by unfold bw10; simp [Nat.mod_one]
theorem bw10_le (m n i : Nat) : bw10 m n i ≤ 1 := by unfold bw10; split <;> omega
theorem bw10_mod (m n i : Nat) (h : n ≤ m) : (m - n) % 10 ^ i + n % 10 ^ i = m % 10 ^ i + 10 ^ i * bw10 m n i := by
  have hp := pow10_pos i
  unfold bw10
  generalize 10 ^ i = X at *
  have h1 := Nat.div_add_mod m X
  have h2 := Nat.div_add_mod n X
  have h3 := Nat.mod_lt m hp
  have h4 := Nat.mod_lt n hp
  have hq : n / X ≤ m / X := Nat.div_le_div_right h
  obtain ⟨k, hk⟩ := Nat.le.dest hq
  generalize m / X = q1 at *
  generalize n / X = q2 at *
  generalize m % X = M at *
  generalize n % X = N at *
  subst hk
  rw [Nat.mul_add] at h1
  split
  · rename_i hlt
    cases k with
    | zero => rw [Nat.mul_zero] at h1; omega
    | succ k =>
      have e : m - n = (M + X - N) + X * k := by rw [Nat.mul_succ] at h1; omega
      rw [e, Nat.add_mul_mod_self_left, Nat.mod_eq_of_lt (by omega)]
      omega
  · have e : m - n = (M - N) + X * k := by omega
    rw [e, Nat.add_mul_mod_self_left, Nat.mod_eq_of_lt (by omega)]
    omega
theorem bw10_step (m n i : Nat) (h : n ≤ m) : dgt 10 (m - n) i + dgt 10 n i + bw10 m n i = dgt 10 m i + 10 * bw10 m n (i + 1) := by
  have h1 := bw10_mod m n i h
  have h2 := bw10_mod m n (i + 1) h
  rw [mod10_succ, mod10_succ, mod10_succ, Nat.pow_succ] at h2
  have hp := pow10_pos i
  generalize dgt 10 (m - n) i = A at *
  generalize dgt 10 n i = B at *
  generalize dgt 10 m i = C at *
  generalize bw10 m n i = b at *
  generalize bw10 m n (i + 1) = b' at *
  generalize 10 ^ i = X at *
  generalize (m - n) % X = U at *
  generalize n % X = V at *
  generalize m % X = W at *
  have h3 : (A + B + b) * X = (C + 10 * b') * X := by
    rw [Nat.add_mul, Nat.add_mul, Nat.add_mul]
    have e1 : X * 10 * b' = 10 * b' * X := by rw [Nat.mul_comm X 10, Nat.mul_right_comm]
    have e2 : X * b = b * X := Nat.mul_comm _ _
    omega
  exact Nat.eq_of_mul_eq_mul_right hp h3
theorem OwnDec.of {w : World} {base : Nat} {v : Value} {n : Nat} (h : Own .i64 3 w base v (dlen 10 n) (dgt 10 n)) : OwnDec w base v n := h
theorem trimmedD_own {v : Value} {base n k : Nat} {w : World} (h : Own .i64 3 w base v k (dgt 10 n)) (hk : k ≤ 1000000000) (hn : n < 10 ^ k) :
    Calls Tryz.prog 116 #[v] w fun e w' => (∃ v', e = .returned v' ∧ OwnDec w base v' n) ∧ w' = w := by
  obtain ⟨a, cap, rfl⟩ := h.shape
  refine (trimmedD_row h.row hk hn).mono ?_
  rintro e w' ⟨rfl, rfl⟩
  exact ⟨⟨_, rfl, h.cut ((dlen_le_iff 10 n k (by decide)).2 hn)⟩, rfl⟩
set_option maxRecDepth 100000 in
set_option maxHeartbeats 4000000 in
theorem minusD_fn {v u : Value} {m n : Nat} {w : World} (hv : DecRep w v m) (hu : DecRep w u n) (hm : dlen 10 m ≤ 100000000) (hn : dlen 10 n ≤ 100000000) (hle : n ≤ m) :
    Calls Tryz.prog 129 #[v, u] w (FreshDec (m - n) w) := by
  obtain ⟨a1, c1, hv1, hcap, hcell⟩ := hv
  subst hv1
  obtain ⟨a2, c2, rfl⟩ := hu.shape
  have HL := hid hle
  have HC := hid hcell
  clear hle hcell
  go_enter Tryz.func129, Tryz.ntmps129
  go_wp2
  go_loopw [5, 6, 11] (fun sv cv iv wr => ∃ i : Nat, iv = .int .i64 i ∧ i ≤ dlen 10 m ∧ Own .i64 3 wr w.heap.size sv i (dgt 10 (m - n)) ∧ cv = .int .i64 (bw10 m n i) ∧ Below w.heap.size w wr) (fun _ _ iv _ => dlen 10 m - (intOf iv).toNat)
  case atStart => exact ⟨0, rfl, Nat.zero_le _, Own.nil, by rw [bw10_zero]; rfl, Below.refl _ _⟩
  case round =>
    obtain ⟨i, rfl, hi, hown, rfl, hbr⟩ := hrel
    obtain ⟨a3, c3, rfl⟩ := hown.shape
    have hszr := hbr.size
    by_cases hlt : i < dlen 10 m
    · obtain ⟨b, off, rfl, hbl, hc⟩ := HC.out (by omega)
      have hci := (hbr.cell (p := ⟨b, off + i, none⟩) hbl).trans (hc i hlt)
      have hcd := hid (fun (q : Nat) => dig_fn (hu.below (hbr.trans (below_drewN (Below.refl w.heap.size wr) q))) (by omega) i (by omega))
      have hst := bw10_step m n i HL.out
      have q1 := dgt_lt 10 m i (by decide)
      have q2 := dgt_lt 10 n i (by decide)
      have q3 := dgt_lt 10 (m - n) i (by decide)
      have q4 := bw10_le m n i
      have q5 := bw10_le m n (i + 1)
      have HA := hid (show dgt 10 (m - n) i = dgt 10 (m - n) i from rfl)
      generalize hAA : dgt 10 (m - n) i = A at *
      generalize hbb : bw10 m n (i + 1) = b' at *
      have HAA := hid hAA
      have HBB := hid hbb
      clear hc hAA hbb HA
      generalize dgt 10 m i = x at *
      generalize dgt 10 n i = y at *
      generalize bw10 m n i = b at *
      have hidx : (0 : Int) ≤ (i : Int) := by omega
      have hidx2 : (i : Int) < (dlen 10 m : Nat) := by omega
      have hlim : i ≤ 100000000 := by omega
      have hcase : b' = 0 ∨ b' = 1 := by omega
      rcases hcase with hb0 | hb1
      · have hA := hid (show (A : Int) = (x : Int) - y - b by omega)
        have hnn : ¬ (x : Int) - y - b < 0 := by omega
        have HB0 := hid hb0
        clear hst hb0 q5
        go_wp2
        go_quiet ((go_at_call 130; exact Calls.quiet_of_same (hcd.out _)))
        have hown1 : Own .i64 3 (wr.drewN nq) w.heap.size (.slice a3 i c3) i (dgt 10 (m - n)) := hown
        have hbr1 := below_drewN hbr nq
        have hsz1 : w.heap.size ≤ (wr.drewN nq).heap.size := hbr1.size
        generalize wr.drewN nq = wq at *
        go_wp2_with (at_builtin; refine app_i64 rfl _ _ rfl w.heap.size _ i _ rfl hown1 _ rfl ?_ (by omega) (by omega) ?_; rotate_left; intro v' w2 hown2 hb2)
        · go_roundw
          case rel => exact ⟨i + 1, by go_num, by omega, hown2, by rw [HBB.out, HB0.out]; rfl, hbr1.trans (hb2.mono (Nat.le_refl _))⟩
          case measure => simp [intOf] <;> omega
        · rw [HAA.out, hA.out]
      · have hA := hid (show (A : Int) = (x : Int) - y - b + 10 by omega)
        have hnn : (x : Int) - y - b < 0 := by omega
        have HB1 := hid hb1
        clear hst hb1 q5
        go_wp2
        go_quiet ((go_at_call 130; exact Calls.quiet_of_same (hcd.out _)))
        have hown1 : Own .i64 3 (wr.drewN nq) w.heap.size (.slice a3 i c3) i (dgt 10 (m - n)) := hown
        have hbr1 := below_drewN hbr nq
        have hsz1 : w.heap.size ≤ (wr.drewN nq).heap.size := hbr1.size
        generalize wr.drewN nq = wq at *
        go_wp2_with (at_builtin; refine app_i64 rfl _ _ rfl w.heap.size _ i _ rfl hown1 _ rfl ?_ (by omega) (by omega) ?_; rotate_left; intro v' w2 hown2 hb2)
        · go_roundw
          case rel => exact ⟨i + 1, by go_num, by omega, hown2, by rw [HBB.out, HB1.out]; rfl, hbr1.trans (hb2.mono (Nat.le_refl _))⟩
          case measure => simp [intOf] <;> omega
        · rw [HAA.out, hA.out]
    · obtain rfl : i = dlen 10 m := by omega
      have hlt' : m - n < 10 ^ dlen 10 m := Nat.lt_of_le_of_lt (Nat.sub_le m n) (dlen_lt 10 m (by decide))
      have HT := hid (trimmedD_own hown (by omega) hlt')
      clear hlt'
      go_wp2_with fail
      (with_reducible refine HT.out.mono ?_); rintro e w2 ⟨⟨v', rfl, hv'⟩, rfl⟩
      go_wp2
      go_ret
      exact ⟨_, rfl, hv', hbr⟩
end Go.Proofs.YtkhgoeippamobaaGreatDoor
/-
  The reference: Plus.
-/
namespace Go.Proofs.YtkhgoeippamobaaGreatDoor
open Go.RowKit
theorem dlen_add_le (m n : Nat) : dlen 10 (m + n) ≤ max (dlen 10 m) (dlen 10 n) + 1 := by
  rw [dlen_le_iff 10 _ _ (by decide), Nat.pow_succ]
  have h1 := Nat.lt_of_lt_of_le (dlen_lt 10 m (by decide)) (Nat.pow_le_pow_right (show 0 < 10 by decide) (Nat.le_max_left (dlen 10 m) (dlen 10 n)))
  have h2 := Nat.lt_of_lt_of_le (dlen_lt 10 n (by decide)) (Nat.pow_le_pow_right (show 0 < 10 by decide) (Nat.le_max_right (dlen 10 m) (dlen 10 n)))
  generalize 10 ^ max (dlen 10 m) (dlen 10 n) = X at *
  omega
/-- a fresh number, its size and its sign said -/
def FreshN (n : Nat) (neg : Bool) (w : World) (e : Ending) (w' : World) : Prop := ∃ s, e = .returned (.agg #[.bool (neg && decide (0 < n)), s]) ∧ OwnDec w' w.heap.size s n ∧ Below w.heap.size w w'
set_option maxRecDepth 100000 in
set_option maxHeartbeats 4000000 in
theorem plusR_same {a1 a2 : Option Addr} {c1 c2 m n : Nat} {w : World} (hs : DecRep w (.slice a1 (dlen 10 m) c1) m) (ht : DecRep w (.slice a2 (dlen 10 n) c2) n) (hm : dlen 10 m ≤ 10000000) (hn : dlen 10 n ≤ 10000000) (g1 g2 : Bool) (hg : (g1 == g2) = true) :
    Calls Tryz.prog 66 #[.agg #[.bool g1, .slice a1 (dlen 10 m) c1], .agg #[.bool g2, .slice a2 (dlen 10 n) c2]] w (FreshN (m + n) g1 w) := by
  have k1 := Blk.new w #[.bool g1, .slice a1 (dlen 10 m) c1] 56
  have k2 := Blk.new (w.alloc (.cells #[.bool g1, .slice a1 (dlen 10 m) c1] 56)) #[.bool g2, .slice a2 (dlen 10 n) c2] 56
  have k3 := Blk.new ((w.alloc (.cells #[.bool g1, .slice a1 (dlen 10 m) c1] 56)).alloc (.cells #[.bool g2, .slice a2 (dlen 10 n) c2] 56)) #[.bool false, .slice none 0 0] 56
  simp only [World.size_alloc] at k2 k3
  have k1' := (k1.alloc (.cells #[.bool g2, .slice a2 (dlen 10 n) c2] 56)).alloc (.cells #[.bool false, .slice none 0 0] 56)
  have k2' := k2.alloc (.cells #[.bool false, .slice none 0 0] 56)
  have hb0 : Below w.heap.size w (((w.alloc (.cells #[.bool g1, .slice a1 (dlen 10 m) c1] 56)).alloc (.cells #[.bool g2, .slice a2 (dlen 10 n) c2] 56)).alloc (.cells #[.bool false, .slice none 0 0] 56)) := (((Below.refl _ _).alloc (Nat.le_refl _) _).alloc (by simp) _).alloc (by simp; omega) _
  have hdr : dlen 10 (m + n) ≤ 20000001 := by have := dlen_add_le m n; omega
  go_enter Tryz.func66, Tryz.ntmps66
  go_wp2_with fail
  generalize ((w.alloc (.cells #[.bool g1, .slice a1 (dlen 10 m) c1] 56)).alloc (.cells #[.bool g2, .slice a2 (dlen 10 n) c2] 56)).alloc (.cells #[.bool false, .slice none 0 0] 56) = w0 at *
  clear k1 k2
  have hc1 := hid (plusD_fn (hs.below hb0.drew) (ht.below hb0.drew) (by omega) (by omega))
  have hsz0 := hb0.size
  have hsz3 := k3.lt
  refine U_begin (late := fun i => decide (8 ≤ i)) (S := fun u => Blk u w.heap.size #[.bool g1, .slice a1 (dlen 10 m) c1] 56 ∧ Blk u (w.heap.size + 1) #[.bool g2, .slice a2 (dlen 10 n) c2] 56) (by kernel_rfl) ?_
  refine U_take (i := 0) (v := .pointer (some ⟨w.heap.size, 0, none⟩)) rfl (by kernel_rfl) (by kernel_rfl) (by kernel_rfl) (by kernel_rfl) (by kernel_rfl) (fun _ _ _ h => h) (.inl ⟨rfl, fun u hu => (by go_simp)⟩) ⟨k1'.drew, k2'.drew⟩ ?_
  refine U_take (i := 1) (v := .bool g1) rfl (by kernel_rfl) (by kernel_rfl) (by kernel_rfl) (by kernel_rfl) (by kernel_rfl) (fun _ _ _ h => h) (.inl ⟨rfl, fun u hu => (by obtain ⟨⟨h1, h2⟩, _⟩ := hu.1.two; go_simp)⟩) ⟨k1'.drew, k2'.drew⟩ ?_
  refine U_take (i := 2) (v := .pointer (some ⟨w.heap.size, 1, none⟩)) rfl (by kernel_rfl) (by kernel_rfl) (by kernel_rfl) (by kernel_rfl) (by kernel_rfl) (fun _ _ _ h => h) (.inl ⟨rfl, fun u hu => (by go_simp)⟩) ⟨k1'.drew, k2'.drew⟩ ?_
  refine U_take (i := 3) (v := .slice a1 (dlen 10 m) c1) rfl (by kernel_rfl) (by kernel_rfl) (by kernel_rfl) (by kernel_rfl) (by kernel_rfl) (fun _ _ _ h => h) (.inl ⟨rfl, fun u hu => (by obtain ⟨⟨h1, h2⟩, _⟩ := hu.1.two; go_simp)⟩) ⟨k1'.drew, k2'.drew⟩ ?_
  refine U_take (i := 4) (v := .pointer (some ⟨w.heap.size + 1, 1, none⟩)) rfl (by kernel_rfl) (by kernel_rfl) (by kernel_rfl) (by kernel_rfl) (by kernel_rfl) (fun _ _ _ h => h) (.inl ⟨rfl, fun u hu => (by go_simp)⟩) ⟨k1'.drew, k2'.drew⟩ ?_
  refine U_take (i := 5) (v := .slice a2 (dlen 10 n) c2) rfl (by kernel_rfl) (by kernel_rfl) (by kernel_rfl) (by kernel_rfl) (by kernel_rfl) (fun _ _ _ h => h) (.inl ⟨rfl, fun u hu => (by obtain ⟨⟨h1, h2⟩, _⟩ := hu.2.two; go_simp)⟩) ⟨k1'.drew, k2'.drew⟩ ?_
  refine U_step (j := 6) (by kernel_rfl) rfl (fun K hK => ?_)
  go_simp
  (with_reducible refine hc1.out.mono ?_); rintro e w1 ⟨r, rfl, hr, hb1⟩
  obtain ⟨ra, rc, rfl⟩ := hr.dec.shape
  have hc2 := hid (num_fn hr.dec (by have := hdr; omega) g1)
  have k31 := k3.drew.later hb1
  refine hK.out _ _ (.inr ⟨k1'.drew.later hb1, k2'.drew.later hb1⟩) ?_
  clear hK K
  refine U_step (j := 7) (by kernel_rfl) rfl (fun K hK => ?_)
  go_simp
  (with_reducible refine hc2.out.mono ?_); rintro e w2 ⟨rfl, hb2⟩
  refine hK.out _ _ (.inr ⟨(k1'.drew.later hb1).later hb2, (k2'.drew.later hb1).later hb2⟩) ?_
  clear hK K
  obtain ⟨⟨r1, r2⟩, ⟨s1, s2⟩⟩ := (k31.later hb2).two
  refine U_step (j := 8) (by kernel_rfl) rfl (fun K hK => ?_)
  go_simp
  refine hK.out _ _ (.inl rfl) ?_
  clear hK K
  refine U_done (by kernel_rfl) ?_ _
  go_wp2
  have hbE : Below w.heap.size w w2 := hb0.drew.trans ((hb1.mono hsz0).trans (hb2.mono (Nat.le_trans hsz0 hb1.size)))
  have hF := own_set2 (Own.keep hr hb2 (Nat.le_refl _)) (b := w.heap.size + 1 + 1) (.bool (g1 && decide (0 < m + n))) (.slice ra (dlen 10 (m + n)) rc) hsz3
  have hbF := (hbE.setCell (p := ⟨w.heap.size + 1 + 1, 0, none⟩) (by simp; omega) (.bool (g1 && decide (0 < m + n)))).setCell (p := ⟨w.heap.size + 1 + 1, 1, none⟩) (by simp; omega) (.slice ra (dlen 10 (m + n)) rc)
  exact bodyPost_ret (v := .agg #[.bool (g1 && decide (0 < m + n)), .slice ra (dlen 10 (m + n)) rc]) (by simp [results, Tryz.results66, go_sem, r1, r2]) rfl ⟨_, rfl, hF.mono hsz0, hbF⟩
set_option maxRecDepth 100000 in
set_option maxHeartbeats 4000000 in
theorem plusR_big {a1 a2 : Option Addr} {c1 c2 m n : Nat} {w : World} (hs : DecRep w (.slice a1 (dlen 10 m) c1) m) (ht : DecRep w (.slice a2 (dlen 10 n) c2) n) (hm : dlen 10 m ≤ 10000000) (hn : dlen 10 n ≤ 10000000) (g1 g2 : Bool) (hg : (g1 == g2) = false) (hle : n ≤ m) :
    Calls Tryz.prog 66 #[.agg #[.bool g1, .slice a1 (dlen 10 m) c1], .agg #[.bool g2, .slice a2 (dlen 10 n) c2]] w (FreshN (m - n) g1 w) := by
  have k1 := Blk.new w #[.bool g1, .slice a1 (dlen 10 m) c1] 56
  have k2 := Blk.new (w.alloc (.cells #[.bool g1, .slice a1 (dlen 10 m) c1] 56)) #[.bool g2, .slice a2 (dlen 10 n) c2] 56
  have k3 := Blk.new ((w.alloc (.cells #[.bool g1, .slice a1 (dlen 10 m) c1] 56)).alloc (.cells #[.bool g2, .slice a2 (dlen 10 n) c2] 56)) #[.bool false, .slice none 0 0] 56
  simp only [World.size_alloc] at k2 k3
  have k1' := (k1.alloc (.cells #[.bool g2, .slice a2 (dlen 10 n) c2] 56)).alloc (.cells #[.bool false, .slice none 0 0] 56)
  have k2' := k2.alloc (.cells #[.bool false, .slice none 0 0] 56)
  have hb0 : Below w.heap.size w (((w.alloc (.cells #[.bool g1, .slice a1 (dlen 10 m) c1] 56)).alloc (.cells #[.bool g2, .slice a2 (dlen 10 n) c2] 56)).alloc (.cells #[.bool false, .slice none 0 0] 56)) := (((Below.refl _ _).alloc (Nat.le_refl _) _).alloc (by simp) _).alloc (by simp; omega) _
  have hdr : dlen 10 (m - n) ≤ 20000001 := by have := dlen_mono _ _ (Nat.sub_le m n); omega
  go_enter Tryz.func66, Tryz.ntmps66
  go_wp2_with fail
  generalize ((w.alloc (.cells #[.bool g1, .slice a1 (dlen 10 m) c1] 56)).alloc (.cells #[.bool g2, .slice a2 (dlen 10 n) c2] 56)).alloc (.cells #[.bool false, .slice none 0 0] 56) = w0 at *
  clear k1 k2
  have hord := hid (order_fn (hs.below hb0) (ht.below hb0) (by omega) (by omega))
  have hord0 : ∃ C : Int, 0 ≤ C ∧ cmpN m n = C := by
    unfold cmpN
    rw [if_neg (by omega)]
    split
    · exact ⟨1, by decide, rfl⟩
    · exact ⟨0, by decide, rfl⟩
  obtain ⟨C, hC0, hC⟩ := hord0
  rw [hC] at hord
  have hord := hid hord.out
  have hle' := hid hle
  clear hC hle
  obtain ⟨⟨p1, p2⟩, _⟩ := k1'.two
  obtain ⟨⟨p3, p4⟩, _⟩ := k2'.two
  go_wp2_with fail
  (with_reducible refine hord.out.mono ?_); rintro e w' ⟨rfl, rfl⟩
  go_wp2_with fail
  clear p1 p2 p3 p4
  have hc1 := hid (minusD_fn (hs.below hb0.drew) (ht.below hb0.drew) (by omega) (by omega) hle'.out)
  have hsz0 := hb0.size
  have hsz3 := k3.lt
  refine U_begin (late := fun i => decide (8 ≤ i)) (S := fun u => Blk u w.heap.size #[.bool g1, .slice a1 (dlen 10 m) c1] 56 ∧ Blk u (w.heap.size + 1) #[.bool g2, .slice a2 (dlen 10 n) c2] 56) (by kernel_rfl) ?_
  refine U_take (i := 0) (v := .pointer (some ⟨w.heap.size, 0, none⟩)) rfl (by kernel_rfl) (by kernel_rfl) (by kernel_rfl) (by kernel_rfl) (by kernel_rfl) (fun _ _ _ h => h) (.inl ⟨rfl, fun u hu => (by go_simp)⟩) ⟨k1'.drew, k2'.drew⟩ ?_
  refine U_take (i := 1) (v := .bool g1) rfl (by kernel_rfl) (by kernel_rfl) (by kernel_rfl) (by kernel_rfl) (by kernel_rfl) (fun _ _ _ h => h) (.inl ⟨rfl, fun u hu => (by obtain ⟨⟨h1, h2⟩, _⟩ := hu.1.two; go_simp)⟩) ⟨k1'.drew, k2'.drew⟩ ?_
  refine U_take (i := 2) (v := .pointer (some ⟨w.heap.size, 1, none⟩)) rfl (by kernel_rfl) (by kernel_rfl) (by kernel_rfl) (by kernel_rfl) (by kernel_rfl) (fun _ _ _ h => h) (.inl ⟨rfl, fun u hu => (by go_simp)⟩) ⟨k1'.drew, k2'.drew⟩ ?_
  refine U_take (i := 3) (v := .slice a1 (dlen 10 m) c1) rfl (by kernel_rfl) (by kernel_rfl) (by kernel_rfl) (by kernel_rfl) (by kernel_rfl) (fun _ _ _ h => h) (.inl ⟨rfl, fun u hu => (by obtain ⟨⟨h1, h2⟩, _⟩ := hu.1.two; go_simp)⟩) ⟨k1'.drew, k2'.drew⟩ ?_
  refine U_take (i := 4) (v := .pointer (some ⟨w.heap.size + 1, 1, none⟩)) rfl (by kernel_rfl) (by kernel_rfl) (by kernel_rfl) (by kernel_rfl) (by kernel_rfl) (fun _ _ _ h => h) (.inl ⟨rfl, fun u hu => (by go_simp)⟩) ⟨k1'.drew, k2'.drew⟩ ?_
  refine U_take (i := 5) (v := .slice a2 (dlen 10 n) c2) rfl (by kernel_rfl) (by kernel_rfl) (by kernel_rfl) (by kernel_rfl) (by kernel_rfl) (fun _ _ _ h => h) (.inl ⟨rfl, fun u hu => (by obtain ⟨⟨h1, h2⟩, _⟩ := hu.2.two; go_simp)⟩) ⟨k1'.drew, k2'.drew⟩ ?_
  refine U_step (j := 6) (by kernel_rfl) rfl (fun K hK => ?_)
  go_simp
  (with_reducible refine hc1.out.mono ?_); rintro e w1 ⟨r, rfl, hr, hb1⟩
  obtain ⟨ra, rc, rfl⟩ := hr.dec.shape
  have hc2 := hid (num_fn hr.dec (by have := hdr; omega) g1)
  have k31 := k3.drew.later hb1
  refine hK.out _ _ (.inr ⟨k1'.drew.later hb1, k2'.drew.later hb1⟩) ?_
  clear hK K
  refine U_step (j := 7) (by kernel_rfl) rfl (fun K hK => ?_)
  go_simp
  (with_reducible refine hc2.out.mono ?_); rintro e w2 ⟨rfl, hb2⟩
  refine hK.out _ _ (.inr ⟨(k1'.drew.later hb1).later hb2, (k2'.drew.later hb1).later hb2⟩) ?_
  clear hK K
  obtain ⟨⟨r1, r2⟩, ⟨s1, s2⟩⟩ := (k31.later hb2).two
  refine U_step (j := 8) (by kernel_rfl) rfl (fun K hK => ?_)
  go_simp
  refine hK.out _ _ (.inl rfl) ?_
  clear hK K
  refine U_done (by kernel_rfl) ?_ _
  go_wp2
  have hbE : Below w.heap.size w w2 := hb0.drew.trans ((hb1.mono hsz0).trans (hb2.mono (Nat.le_trans hsz0 hb1.size)))
  have hF := own_set2 (Own.keep hr hb2 (Nat.le_refl _)) (b := w.heap.size + 1 + 1) (.bool (g1 && decide (0 < m - n))) (.slice ra (dlen 10 (m - n)) rc) hsz3
  have hbF := (hbE.setCell (p := ⟨w.heap.size + 1 + 1, 0, none⟩) (by simp; omega) (.bool (g1 && decide (0 < m - n)))).setCell (p := ⟨w.heap.size + 1 + 1, 1, none⟩) (by simp; omega) (.slice ra (dlen 10 (m - n)) rc)
  exact bodyPost_ret (v := .agg #[.bool (g1 && decide (0 < m - n)), .slice ra (dlen 10 (m - n)) rc]) (by simp [results, Tryz.results66, go_sem, r1, r2]) rfl ⟨_, rfl, hF.mono hsz0, hbF⟩
set_option maxRecDepth 100000 in
set_option maxHeartbeats 4000000 in
theorem plusR_less {a1 a2 : Option Addr} {c1 c2 m n : Nat} {w : World} (hs : DecRep w (.slice a1 (dlen 10 m) c1) m) (ht : DecRep w (.slice a2 (dlen 10 n) c2) n) (hm : dlen 10 m ≤ 10000000) (hn : dlen 10 n ≤ 10000000) (g1 g2 : Bool) (hg : (g1 == g2) = false) (hlt : m < n) :
    Calls Tryz.prog 66 #[.agg #[.bool g1, .slice a1 (dlen 10 m) c1], .agg #[.bool g2, .slice a2 (dlen 10 n) c2]] w (FreshN (n - m) g2 w) := by
  have k1 := Blk.new w #[.bool g1, .slice a1 (dlen 10 m) c1] 56
  have k2 := Blk.new (w.alloc (.cells #[.bool g1, .slice a1 (dlen 10 m) c1] 56)) #[.bool g2, .slice a2 (dlen 10 n) c2] 56
  have k3 := Blk.new ((w.alloc (.cells #[.bool g1, .slice a1 (dlen 10 m) c1] 56)).alloc (.cells #[.bool g2, .slice a2 (dlen 10 n) c2] 56)) #[.bool false, .slice none 0 0] 56
  simp only [World.size_alloc] at k2 k3
  have k1' := (k1.alloc (.cells #[.bool g2, .slice a2 (dlen 10 n) c2] 56)).alloc (.cells #[.bool false, .slice none 0 0] 56)
  have k2' := k2.alloc (.cells #[.bool false, .slice none 0 0] 56)
  have hb0 : Below w.heap.size w (((w.alloc (.cells #[.bool g1, .slice a1 (dlen 10 m) c1] 56)).alloc (.cells #[.bool g2, .slice a2 (dlen 10 n) c2] 56)).alloc (.cells #[.bool false, .slice none 0 0] 56)) := (((Below.refl _ _).alloc (Nat.le_refl _) _).alloc (by simp) _).alloc (by simp; omega) _
  have hdr : dlen 10 (n - m) ≤ 20000001 := by have := dlen_mono _ _ (Nat.sub_le n m); omega
  go_enter Tryz.func66, Tryz.ntmps66
  go_wp2_with fail
  generalize ((w.alloc (.cells #[.bool g1, .slice a1 (dlen 10 m) c1] 56)).alloc (.cells #[.bool g2, .slice a2 (dlen 10 n) c2] 56)).alloc (.cells #[.bool false, .slice none 0 0] 56) = w0 at *
  clear k1 k2
  have hord := hid (order_fn (hs.below hb0) (ht.below hb0) (by omega) (by omega))
  have hC : cmpN m n = -1 := by unfold cmpN; rw [if_pos hlt]
  rw [hC] at hord
  have hord := hid hord.out
  have hle' := hid hlt
  clear hC hlt
  obtain ⟨⟨p1, p2⟩, _⟩ := k1'.two
  obtain ⟨⟨p3, p4⟩, _⟩ := k2'.two
  go_wp2_with fail
  (with_reducible refine hord.out.mono ?_); rintro e w' ⟨rfl, rfl⟩
  go_wp2_with fail
  clear p1 p2 p3 p4
  have hc1 := hid (minusD_fn (ht.below hb0.drew) (hs.below hb0.drew) (by omega) (by omega) (Nat.le_of_lt hle'.out))
  have hsz0 := hb0.size
  have hsz3 := k3.lt
  refine U_begin (late := fun i => decide (8 ≤ i)) (S := fun u => Blk u w.heap.size #[.bool g1, .slice a1 (dlen 10 m) c1] 56 ∧ Blk u (w.heap.size + 1) #[.bool g2, .slice a2 (dlen 10 n) c2] 56) (by kernel_rfl) ?_
  refine U_take (i := 0) (v := .pointer (some ⟨w.heap.size + 1, 0, none⟩)) rfl (by kernel_rfl) (by kernel_rfl) (by kernel_rfl) (by kernel_rfl) (by kernel_rfl) (fun _ _ _ h => h) (.inl ⟨rfl, fun u hu => (by go_simp)⟩) ⟨k1'.drew, k2'.drew⟩ ?_
  refine U_take (i := 1) (v := .bool g2) rfl (by kernel_rfl) (by kernel_rfl) (by kernel_rfl) (by kernel_rfl) (by kernel_rfl) (fun _ _ _ h => h) (.inl ⟨rfl, fun u hu => (by obtain ⟨⟨h1, h2⟩, _⟩ := hu.2.two; go_simp)⟩) ⟨k1'.drew, k2'.drew⟩ ?_
  refine U_take (i := 2) (v := .pointer (some ⟨w.heap.size + 1, 1, none⟩)) rfl (by kernel_rfl) (by kernel_rfl) (by kernel_rfl) (by kernel_rfl) (by kernel_rfl) (fun _ _ _ h => h) (.inl ⟨rfl, fun u hu => (by go_simp)⟩) ⟨k1'.drew, k2'.drew⟩ ?_
  refine U_take (i := 3) (v := .slice a2 (dlen 10 n) c2) rfl (by kernel_rfl) (by kernel_rfl) (by kernel_rfl) (by kernel_rfl) (by kernel_rfl) (fun _ _ _ h => h) (.inl ⟨rfl, fun u hu => (by obtain ⟨⟨h1, h2⟩, _⟩ := hu.2.two; go_simp)⟩) ⟨k1'.drew, k2'.drew⟩ ?_
  refine U_take (i := 4) (v := .pointer (some ⟨w.heap.size, 1, none⟩)) rfl (by kernel_rfl) (by kernel_rfl) (by kernel_rfl) (by kernel_rfl) (by kernel_rfl) (fun _ _ _ h => h) (.inl ⟨rfl, fun u hu => (by go_simp)⟩) ⟨k1'.drew, k2'.drew⟩ ?_
  refine U_take (i := 5) (v := .slice a1 (dlen 10 m) c1) rfl (by kernel_rfl) (by kernel_rfl) (by kernel_rfl) (by kernel_rfl) (by kernel_rfl) (fun _ _ _ h => h) (.inl ⟨rfl, fun u hu => (by obtain ⟨⟨h1, h2⟩, _⟩ := hu.1.two; go_simp)⟩) ⟨k1'.drew, k2'.drew⟩ ?_
  refine U_step (j := 6) (by kernel_rfl) rfl (fun K hK => ?_)
  go_simp
  (with_reducible refine hc1.out.mono ?_); rintro e w1 ⟨r, rfl, hr, hb1⟩
  obtain ⟨ra, rc, rfl⟩ := hr.dec.shape
  have hc2 := hid (num_fn hr.dec (by have := hdr; omega) g2)
  have k31 := k3.drew.later hb1
  refine hK.out _ _ (.inr ⟨k1'.drew.later hb1, k2'.drew.later hb1⟩) ?_
  clear hK K
  refine U_step (j := 7) (by kernel_rfl) rfl (fun K hK => ?_)
  go_simp
  (with_reducible refine hc2.out.mono ?_); rintro e w2 ⟨rfl, hb2⟩
  refine hK.out _ _ (.inr ⟨(k1'.drew.later hb1).later hb2, (k2'.drew.later hb1).later hb2⟩) ?_
  clear hK K
  obtain ⟨⟨r1, r2⟩, ⟨s1, s2⟩⟩ := (k31.later hb2).two
  refine U_step (j := 8) (by kernel_rfl) rfl (fun K hK => ?_)
  go_simp
  refine hK.out _ _ (.inl rfl) ?_
  clear hK K
  refine U_done (by kernel_rfl) ?_ _
  go_wp2
  have hbE : Below w.heap.size w w2 := hb0.drew.trans ((hb1.mono hsz0).trans (hb2.mono (Nat.le_trans hsz0 hb1.size)))
  have hF := own_set2 (Own.keep hr hb2 (Nat.le_refl _)) (b := w.heap.size + 1 + 1) (.bool (g2 && decide (0 < n - m))) (.slice ra (dlen 10 (n - m)) rc) hsz3
  have hbF := (hbE.setCell (p := ⟨w.heap.size + 1 + 1, 0, none⟩) (by simp; omega) (.bool (g2 && decide (0 < n - m)))).setCell (p := ⟨w.heap.size + 1 + 1, 1, none⟩) (by simp; omega) (.slice ra (dlen 10 (n - m)) rc)
  exact bodyPost_ret (v := .agg #[.bool (g2 && decide (0 < n - m)), .slice ra (dlen 10 (n - m)) rc]) (by simp [results, Tryz.results66, go_sem, r1, r2]) rfl ⟨_, rfl, hF.mono hsz0, hbF⟩
theorem FreshN.dnum {n : Nat} {neg : Bool} {z : Int} {w : World} {e : Ending} {w' : World} (h : FreshN n neg w e w') (hn : n = z.natAbs) (hb : (neg && decide (0 < n)) = decide (z < 0)) : ∃ v, e = .returned v ∧ OwnDNum w' w.heap.size v z ∧ Below w.heap.size w w' := by
  obtain ⟨s, rfl, hr, hbl⟩ := h
  subst hn
  exact ⟨_, rfl, ⟨s, by rw [hb], hr⟩, hbl⟩
/-- a fresh number of the reference -/
def FreshD (z : Int) (w : World) (e : Ending) (w' : World) : Prop := ∃ v, e = .returned v ∧ OwnDNum w' w.heap.size v z ∧ Below w.heap.size w w'
theorem plusR_fn {v u : Value} {a b : Int} {w : World} (hv : DNum w v a) (hu : DNum w u b) (hla : dlen 10 a.natAbs ≤ 10000000) (hlb : dlen 10 b.natAbs ≤ 10000000) : Calls Tryz.prog 66 #[v, u] w (FreshD (a + b) w) := by
  obtain ⟨a1, c1, rfl, hs⟩ := hv.shape
  obtain ⟨a2, c2, rfl, ht⟩ := hu.shape
  by_cases hsg : (decide (a < 0) == decide (b < 0)) = true
  · refine (plusR_same hs ht hla hlb _ _ hsg).mono fun e w' h => h.dnum ?_ ?_
    · have : (a < 0) ↔ (b < 0) := by simpa using hsg
      omega
    · have : (a < 0) ↔ (b < 0) := by simpa using hsg
      by_cases ha : a < 0
      · have hb := this.1 ha
        rw [decide_eq_true ha, decide_eq_true (show a + b < 0 by omega)]
        simp; omega
      · have hb : ¬ b < 0 := fun hh => ha (this.2 hh)
        rw [decide_eq_false ha, decide_eq_false (show ¬ a + b < 0 by omega)]
        rfl
  · have hsg' : (decide (a < 0) == decide (b < 0)) = false := by simpa using hsg
    have hne : ¬ ((a < 0) ↔ (b < 0)) := by simpa using hsg
    by_cases hc : b.natAbs ≤ a.natAbs
    · refine (plusR_big hs ht hla hlb _ _ hsg' hc).mono fun e w' h => h.dnum (by omega) ?_
      by_cases ha : a < 0
      · rw [decide_eq_true ha]
        by_cases h0 : a + b < 0
        · rw [decide_eq_true h0, decide_eq_true (by omega)]; rfl
        · rw [decide_eq_false h0, decide_eq_false (by omega)]; rfl
      · rw [decide_eq_false ha, decide_eq_false (show ¬ a + b < 0 by omega)]
        rfl
    · refine (plusR_less hs ht hla hlb _ _ hsg' (by omega)).mono fun e w' h => h.dnum (by omega) ?_
      by_cases hb : b < 0
      · rw [decide_eq_true hb]
        by_cases h0 : a + b < 0
        · rw [decide_eq_true h0, decide_eq_true (by omega)]; rfl
        · rw [decide_eq_false h0, decide_eq_false (by omega)]; rfl
      · rw [decide_eq_false hb, decide_eq_false (show ¬ a + b < 0 by omega)]
        rfl
end Go.Proofs.YtkhgoeippamobaaGreatDoor
/-
  The reference: Opposite, Order.
-/
namespace Go.Proofs.YtkhgoeippamobaaGreatDoor
open Go.RowKit
theorem opp_sign (z : Int) : (!decide (z < 0) && decide (0 < z.natAbs)) = decide (-z < 0) := by
  by_cases h1 : z < 0
  · rw [decide_eq_true h1, decide_eq_false (show ¬ -z < 0 by omega)]; rfl
  · by_cases h2 : z = 0
    · subst h2; rfl
    · rw [decide_eq_false h1, decide_eq_true (show 0 < z.natAbs by omega), decide_eq_true (show -z < 0 by omega)]; rfl
theorem DNum.shape4 {w : World} {v : Value} {z : Int} (h : DNum w v z) : ∃ g a n c, v = .agg #[.bool g, .slice a n c] := by
  obtain ⟨a, c, rfl, _⟩ := h.shape
  exact ⟨_, _, _, _, rfl⟩
theorem DNum.parts {w : World} {g : Bool} {a : Option Addr} {n c : Nat} {z : Int} (h : DNum w (.agg #[.bool g, .slice a n c]) z) : g = decide (z < 0) ∧ n = dlen 10 z.natAbs := by
  obtain ⟨a', c', he, _⟩ := h.shape
  simp only [Value.agg.injEq, Array.mk.injEq, List.cons.injEq, Value.bool.injEq, Value.slice.injEq, and_true] at he
  exact ⟨he.1, he.2.2.1⟩
/-- a number of the reference, perhaps over an argument's memory -/
def RetD (z : Int) (w : World) (e : Ending) (w' : World) : Prop := ∃ v, e = .returned v ∧ DNum w' v z ∧ Below w.heap.size w w'
set_option maxRecDepth 100000 in
set_option maxHeartbeats 4000000 in
theorem oppR_fn {v : Value} {z : Int} {w : World} (h : DNum w v z) (hl : dlen 10 z.natAbs ≤ 100000000) : Calls Tryz.prog 67 #[v] w (RetD (-z) w) := by
  obtain ⟨a, cap, rfl, hd⟩ := h.shape
  have HS := hid (opp_sign z)
  generalize hneg : decide (z < 0) = neg at *
  clear hneg
  have k1 := Blk.new w #[.bool neg, .slice a (dlen 10 z.natAbs) cap] 56
  have k2 := Blk.new (w.alloc (.cells #[.bool neg, .slice a (dlen 10 z.natAbs) cap] 56)) #[.bool false, .slice none 0 0] 56
  simp only [World.size_alloc] at k2
  have k1' := k1.alloc (.cells #[.bool false, .slice none 0 0] 56)
  have hb0 : Below w.heap.size w ((w.alloc (.cells #[.bool neg, .slice a (dlen 10 z.natAbs) cap] 56)).alloc (.cells #[.bool false, .slice none 0 0] 56)) := ((Below.refl _ _).alloc (Nat.le_refl _) _).alloc (by simp) _
  have hc := hid (num_fn (hd.below hb0) (by omega) (!neg))
  generalize hG : (!neg && decide (0 < z.natAbs)) = G at *
  have hdn := hid (show z.natAbs = (-z).natAbs from (Int.natAbs_neg z).symm)
  clear hG
  go_enter Tryz.func67, Tryz.ntmps67
  go_wp2_with fail
  generalize (w.alloc (.cells #[.bool neg, .slice a (dlen 10 z.natAbs) cap] 56)).alloc (.cells #[.bool false, .slice none 0 0] 56) = w0 at *
  obtain ⟨⟨p1, p2⟩, _⟩ := k1'.two
  go_wp2_with fail
  (with_reducible refine hc.out.mono ?_); rintro e w1 ⟨rfl, hb1⟩
  obtain ⟨⟨r1, r2⟩, ⟨s1, s2⟩⟩ := (k2.later hb1).two
  have hsz0 := hb0.size
  have hsz1 := hb1.size
  have hbE := hb0.trans (hb1.mono hsz0)
  have hbF := (hbE.setCell (p := ⟨w.heap.size + 1, 0, none⟩) (by simp) (.bool G)).setCell (p := ⟨w.heap.size + 1, 1, none⟩) (by simp) (.slice a (dlen 10 z.natAbs) cap)
  go_wp2
  refine bodyPost_ret (v := .agg #[.bool G, .slice a (dlen 10 z.natAbs) cap]) (by simp [results, Tryz.results67, go_sem, r1, r2]) rfl ⟨_, rfl, ⟨_, by rw [HS.out], ?_⟩, hbF⟩
  rw [Int.natAbs_neg]
  exact hd.below hbF
/-- -1, 0 or 1 -/
def cmpI (a b : Int) : Int := if a < b then -1 else if b < a then 1 else 0
theorem Blk.set2 {w : World} {b : Nat} {x y : Value} {t : TypeId} (h : Blk w b #[x, y] t) (x' y' : Value) : Blk ((w.setCell ⟨b, 0, none⟩ x').setCell ⟨b, 1, none⟩ y') b #[x', y'] t := by
  have h0 : w.heap[b]? = _ := h
  have h1 := heap_setCell_same w b 0 _ t x' h0
  have h2 := heap_setCell_same _ b 1 _ t y' h1
  exact h2
set_option maxRecDepth 100000 in
set_option maxHeartbeats 4000000 in
theorem orderR_fn {v u : Value} {a b : Int} {w : World} (hv : DNum w v a) (hu : DNum w u b) (hla : dlen 10 a.natAbs ≤ 10000000) (hlb : dlen 10 b.natAbs ≤ 10000000) :
    Calls Tryz.prog 72 #[v, u] w fun e w' => e = .returned (.int .i64 (cmpI a b)) ∧ Below w.heap.size w w' := by
  obtain ⟨a1, c1, rfl, hs⟩ := hv.shape
  obtain ⟨a2, c2, rfl, ht⟩ := hu.shape
  generalize hx1 : decide (a < 0) = g1 at *
  generalize hx2 : decide (b < 0) = g2 at *
  clear hx1 hx2
  have k1 := Blk.new w #[.bool g1, .slice a1 (dlen 10 a.natAbs) c1] 56
  have k2 := Blk.new (w.alloc (.cells #[.bool g1, .slice a1 (dlen 10 a.natAbs) c1] 56)) #[.bool g2, .slice a2 (dlen 10 b.natAbs) c2] 56
  simp only [World.size_alloc] at k2
  have k1' := k1.alloc (.cells #[.bool g2, .slice a2 (dlen 10 b.natAbs) c2] 56)
  have hb0 : Below w.heap.size w ((w.alloc (.cells #[.bool g1, .slice a1 (dlen 10 a.natAbs) c1] 56)).alloc (.cells #[.bool g2, .slice a2 (dlen 10 b.natAbs) c2] 56)) := ((Below.refl _ _).alloc (Nat.le_refl _) _).alloc (by simp) _
  go_enter Tryz.func72, Tryz.ntmps72
  go_wp2_with fail
  generalize (w.alloc (.cells #[.bool g1, .slice a1 (dlen 10 a.natAbs) c1] 56)).alloc (.cells #[.bool g2, .slice a2 (dlen 10 b.natAbs) c2] 56) = w0 at *
  clear k1
  have hv := hv.below hb0.drew
  have hu := hu.below hb0.drew
  have kA := k1'.drew
  have kB := k2.drew
  have hb := hb0.drew
  refine U_begin (late := fun i => decide (5 ≤ i)) (S := fun u => Blk u w.heap.size #[.bool g1, .slice a1 (dlen 10 a.natAbs) c1] 56 ∧ Blk u (w.heap.size + 1) #[.bool g2, .slice a2 (dlen 10 b.natAbs) c2] 56) (by kernel_rfl) ?_
  generalize w0.drew = wd at *
  clear k1' k2 hb0
  refine U_take (i := 0) (v := .agg #[.bool g1, .slice a1 (dlen 10 a.natAbs) c1]) rfl (by kernel_rfl) (by kernel_rfl) (by kernel_rfl) (by kernel_rfl) (by kernel_rfl) (fun _ _ _ h => h) (.inl ⟨rfl, fun u hu => (by obtain ⟨⟨h1, h2⟩, _⟩ := hu.1.two; go_simp)⟩) ⟨kA, kB⟩ ?_
  refine U_take (i := 1) (v := .agg #[.bool g2, .slice a2 (dlen 10 b.natAbs) c2]) rfl (by kernel_rfl) (by kernel_rfl) (by kernel_rfl) (by kernel_rfl) (by kernel_rfl) (fun _ _ _ h => h) (.inl ⟨rfl, fun u hu => (by obtain ⟨⟨h1, h2⟩, _⟩ := hu.2.two; go_simp)⟩) ⟨kA, kB⟩ ?_
  refine U_two (j1 := 2) (j2 := 4) (by kernel_rfl) rfl rfl (fun K hK => ?_) (fun K hK => ?_)
  · go_simp
    have hc := hid (oppR_fn hu (by omega))
    (with_reducible refine hc.out.mono ?_); rintro e w1 ⟨r, rfl, hr, gg⟩
    clear hc
    have hb := hb.trans (gg.mono hb.size)
    have kA := kA.later gg
    have kB := kB.later gg
    have hv := hv.below gg
    have hu := hu.below gg
    clear gg
    obtain ⟨rg, ra, rn, rc, rfl⟩ := hr.shape4
    refine hK.out _ _ (.inr ⟨kA, kB⟩) ?_
    clear hK K
    refine U_two (j1 := 3) (j2 := 4) (by kernel_rfl) rfl rfl (fun K hK => ?_) (fun K hK => ?_)
    · go_simp
      have hc := hid (plusR_fn hv hr (by omega) (by rw [Int.natAbs_neg]; omega))
      (with_reducible refine hc.out.mono ?_); rintro e w2 ⟨q, rfl, hq, gg⟩
      clear hc
      have hq := hq.num
      have hb := hb.trans (gg.mono hb.size)
      have kA := kA.later gg
      have kB := kB.later gg
      have hv := hv.below gg
      have hu := hu.below gg
      have hr := hr.below gg
      clear gg
      obtain ⟨qg, qa, qn, qc, rfl⟩ := hq.shape4
      have HQ := hid hq.parts
      refine hK.out _ _ (.inr ⟨kA, kB⟩) ?_
      clear hK K
      refine U_step (j := 4) (by kernel_rfl) rfl (fun K hK => ?_)
      go_simp
      have hbase := hb.size
      have gg : Below w2.heap.size w2 (w2.alloc (.cells #[.bool false, .slice none 0 0] 56)) := (Below.refl _ _).alloc (Nat.le_refl _) _
      have k5 := Blk.new w2 #[.bool false, .slice none 0 0] 56
      have hb := hb.trans (gg.mono hb.size)
      have kA := kA.later gg
      have kB := kB.later gg
      have hv := hv.below gg
      have hu := hu.below gg
      have hr := hr.below gg
      have hq := hq.below gg
      clear gg
      refine hK.out _ _ (.inr ⟨kA, kB⟩) ?_
      clear hK K
      have hA : w.heap.size ≤ w2.heap.size := hbase
      generalize hB5 : w2.heap.size = B5 at *
      clear hB5
      generalize w2.alloc (.cells #[.bool false, .slice none 0 0] 56) = w3 at *
      refine U_step (j := 5) (by kernel_rfl) rfl (fun K hK => ?_)
      go_simp
      obtain ⟨⟨r1, r2⟩, ⟨s1, s2⟩⟩ := k5.two
      go_simp
      refine hK.out _ _ (.inl rfl) ?_
      clear hK K
      refine U_done (by kernel_rfl) ?_ _
      have k5 := k5.set2 (.bool qg) (.slice qa qn qc)
      have hb := (hb.setCell (p := ⟨B5, 0, none⟩) hA (.bool qg)).setCell (p := ⟨B5, 1, none⟩) hA (.slice qa qn qc)
      generalize ((w3.setCell ⟨B5, 0, none⟩ (.bool qg)).setCell ⟨B5, 1, none⟩ (.slice qa qn qc)) = wz at *
      clear r1 r2 s1 s2 kA kB hv hu hr hq
      obtain ⟨⟨r1, r2⟩, ⟨s1, s2⟩⟩ := k5.two
      rcases Int.lt_trichotomy a b with hab | hab | hab
      · have HC := hid (show cmpI a b = -1 by unfold cmpI; rw [if_pos hab])
        have hd : qg = true := HQ.out.1.trans (decide_eq_true (by omega))
        clear HQ
        subst hd
        go_wp2
        go_ret
        exact ⟨by rw [HC.out]; rfl, hb⟩
      · have HC := hid (show cmpI a b = 0 by unfold cmpI; rw [if_neg (by omega), if_neg (by omega)])
        have hd : qg = false := HQ.out.1.trans (decide_eq_false (by omega))
        have hz : qn = 0 := HQ.out.2.trans ((dlen_zero_iff 10 _ (by decide)).2 (by omega))
        clear HQ
        subst hd
        subst hz
        go_wp2
        go_ret
        exact ⟨by rw [HC.out]; rfl, hb⟩
      · have HC := hid (show cmpI a b = 1 by unfold cmpI; rw [if_neg (by omega), if_pos hab])
        have hd : qg = false := HQ.out.1.trans (decide_eq_false (by omega))
        have hz : 0 < qn := by rw [HQ.out.2]; exact (dlen_pos_iff _).2 (by omega)
        clear HQ
        subst hd
        go_wp2
        go_ret
        exact ⟨by rw [HC.out]; rfl, hb⟩
    · go_simp
      have hbase := hb.size
      have gg : Below w1.heap.size w1 (w1.alloc (.cells #[.bool false, .slice none 0 0] 56)) := (Below.refl _ _).alloc (Nat.le_refl _) _
      have k5 := Blk.new w1 #[.bool false, .slice none 0 0] 56
      have hb := hb.trans (gg.mono hb.size)
      have kA := kA.later gg
      have kB := kB.later gg
      have hv := hv.below gg
      have hu := hu.below gg
      have hr := hr.below gg
      clear gg
      refine hK.out _ _ (.inr ⟨kA, kB⟩) ?_
      clear hK K
      have hA : w.heap.size ≤ w1.heap.size := hbase
      generalize hB5 : w1.heap.size = B5 at *
      clear hB5
      generalize w1.alloc (.cells #[.bool false, .slice none 0 0] 56) = w2 at *
      refine U_step (j := 3) (by kernel_rfl) rfl (fun K hK => ?_)
      go_simp
      have hc := hid (plusR_fn hv hr (by omega) (by rw [Int.natAbs_neg]; omega))
      (with_reducible refine hc.out.mono ?_); rintro e w3 ⟨q, rfl, hq, gg⟩
      clear hc
      have hq := hq.num
      have hb := hb.trans (gg.mono hb.size)
      have kA := kA.later gg
      have kB := kB.later gg
      have hv := hv.below gg
      have hu := hu.below gg
      have k5 := k5.later gg
      have hr := hr.below gg
      clear gg
      obtain ⟨qg, qa, qn, qc, rfl⟩ := hq.shape4
      have HQ := hid hq.parts
      refine hK.out _ _ (.inr ⟨kA, kB⟩) ?_
      clear hK K
      refine U_step (j := 5) (by kernel_rfl) rfl (fun K hK => ?_)
      go_simp
      obtain ⟨⟨r1, r2⟩, ⟨s1, s2⟩⟩ := k5.two
      go_simp
      refine hK.out _ _ (.inl rfl) ?_
      clear hK K
      refine U_done (by kernel_rfl) ?_ _
      have k5 := k5.set2 (.bool qg) (.slice qa qn qc)
      have hb := (hb.setCell (p := ⟨B5, 0, none⟩) hA (.bool qg)).setCell (p := ⟨B5, 1, none⟩) hA (.slice qa qn qc)
      generalize ((w3.setCell ⟨B5, 0, none⟩ (.bool qg)).setCell ⟨B5, 1, none⟩ (.slice qa qn qc)) = wz at *
      clear r1 r2 s1 s2 kA kB hv hu hr hq
      obtain ⟨⟨r1, r2⟩, ⟨s1, s2⟩⟩ := k5.two
      rcases Int.lt_trichotomy a b with hab | hab | hab
      · have HC := hid (show cmpI a b = -1 by unfold cmpI; rw [if_pos hab])
        have hd : qg = true := HQ.out.1.trans (decide_eq_true (by omega))
        clear HQ
        subst hd
        go_wp2
        go_ret
        exact ⟨by rw [HC.out]; rfl, hb⟩
      · have HC := hid (show cmpI a b = 0 by unfold cmpI; rw [if_neg (by omega), if_neg (by omega)])
        have hd : qg = false := HQ.out.1.trans (decide_eq_false (by omega))
        have hz : qn = 0 := HQ.out.2.trans ((dlen_zero_iff 10 _ (by decide)).2 (by omega))
        clear HQ
        subst hd
        subst hz
        go_wp2
        go_ret
        exact ⟨by rw [HC.out]; rfl, hb⟩
      · have HC := hid (show cmpI a b = 1 by unfold cmpI; rw [if_neg (by omega), if_pos hab])
        have hd : qg = false := HQ.out.1.trans (decide_eq_false (by omega))
        have hz : 0 < qn := by rw [HQ.out.2]; exact (dlen_pos_iff _).2 (by omega)
        clear HQ
        subst hd
        go_wp2
        go_ret
        exact ⟨by rw [HC.out]; rfl, hb⟩
  · go_simp
    have hbase := hb.size
    have gg : Below wd.heap.size wd (wd.alloc (.cells #[.bool false, .slice none 0 0] 56)) := (Below.refl _ _).alloc (Nat.le_refl _) _
    have k5 := Blk.new wd #[.bool false, .slice none 0 0] 56
    have hb := hb.trans (gg.mono hb.size)
    have kA := kA.later gg
    have kB := kB.later gg
    have hv := hv.below gg
    have hu := hu.below gg
    clear gg
    refine hK.out _ _ (.inr ⟨kA, kB⟩) ?_
    clear hK K
    have hA : w.heap.size ≤ wd.heap.size := hbase
    generalize hB5 : wd.heap.size = B5 at *
    clear hB5
    generalize wd.alloc (.cells #[.bool false, .slice none 0 0] 56) = w1 at *
    refine U_step (j := 2) (by kernel_rfl) rfl (fun K hK => ?_)
    go_simp
    have hc := hid (oppR_fn hu (by omega))
    (with_reducible refine hc.out.mono ?_); rintro e w2 ⟨r, rfl, hr, gg⟩
    clear hc
    have hb := hb.trans (gg.mono hb.size)
    have kA := kA.later gg
    have kB := kB.later gg
    have hv := hv.below gg
    have hu := hu.below gg
    have k5 := k5.later gg
    clear gg
    obtain ⟨rg, ra, rn, rc, rfl⟩ := hr.shape4
    refine hK.out _ _ (.inr ⟨kA, kB⟩) ?_
    clear hK K
    refine U_step (j := 3) (by kernel_rfl) rfl (fun K hK => ?_)
    go_simp
    have hc := hid (plusR_fn hv hr (by omega) (by rw [Int.natAbs_neg]; omega))
    (with_reducible refine hc.out.mono ?_); rintro e w3 ⟨q, rfl, hq, gg⟩
    clear hc
    have hq := hq.num
    have hb := hb.trans (gg.mono hb.size)
    have kA := kA.later gg
    have kB := kB.later gg
    have hv := hv.below gg
    have hu := hu.below gg
    have k5 := k5.later gg
    have hr := hr.below gg
    clear gg
    obtain ⟨qg, qa, qn, qc, rfl⟩ := hq.shape4
    have HQ := hid hq.parts
    refine hK.out _ _ (.inr ⟨kA, kB⟩) ?_
    clear hK K
    refine U_step (j := 5) (by kernel_rfl) rfl (fun K hK => ?_)
    go_simp
    obtain ⟨⟨r1, r2⟩, ⟨s1, s2⟩⟩ := k5.two
    go_simp
    refine hK.out _ _ (.inl rfl) ?_
    clear hK K
    refine U_done (by kernel_rfl) ?_ _
    have k5 := k5.set2 (.bool qg) (.slice qa qn qc)
    have hb := (hb.setCell (p := ⟨B5, 0, none⟩) hA (.bool qg)).setCell (p := ⟨B5, 1, none⟩) hA (.slice qa qn qc)
    generalize ((w3.setCell ⟨B5, 0, none⟩ (.bool qg)).setCell ⟨B5, 1, none⟩ (.slice qa qn qc)) = wz at *
    clear r1 r2 s1 s2 kA kB hv hu hr hq
    obtain ⟨⟨r1, r2⟩, ⟨s1, s2⟩⟩ := k5.two
    rcases Int.lt_trichotomy a b with hab | hab | hab
    · have HC := hid (show cmpI a b = -1 by unfold cmpI; rw [if_pos hab])
      have hd : qg = true := HQ.out.1.trans (decide_eq_true (by omega))
      clear HQ
      subst hd
      go_wp2
      go_ret
      exact ⟨by rw [HC.out]; rfl, hb⟩
    · have HC := hid (show cmpI a b = 0 by unfold cmpI; rw [if_neg (by omega), if_neg (by omega)])
      have hd : qg = false := HQ.out.1.trans (decide_eq_false (by omega))
      have hz : qn = 0 := HQ.out.2.trans ((dlen_zero_iff 10 _ (by decide)).2 (by omega))
      clear HQ
      subst hd
      subst hz
      go_wp2
      go_ret
      exact ⟨by rw [HC.out]; rfl, hb⟩
    · have HC := hid (show cmpI a b = 1 by unfold cmpI; rw [if_neg (by omega), if_pos hab])
      have hd : qg = false := HQ.out.1.trans (decide_eq_false (by omega))
      have hz : 0 < qn := by rw [HQ.out.2]; exact (dlen_pos_iff _).2 (by omega)
      clear HQ
      subst hd
      go_wp2
      go_ret
      exact ⟨by rw [HC.out]; rfl, hb⟩
end Go.Proofs.YtkhgoeippamobaaGreatDoor
/-
  The reference: both.
-/
namespace Go.Proofs.YtkhgoeippamobaaGreatDoor
open Go.RowKit
/-- a number that the reference read -/
def CNum (w : World) (v : Value) (z : Int) : Prop := ∃ z', DNum w v z' ∧ dlen 10 z'.natAbs ≤ 2002000 ∧ Cut z' z
theorem CNum.below {w w' : World} {v : Value} {z : Int} (h : CNum w v z) (hb : Below w.heap.size w w') : CNum w' v z := by
  obtain ⟨z', h1, h2, h3⟩ := h
  exact ⟨z', h1.below hb, h2, h3⟩
theorem CNum.shape4 {w : World} {v : Value} {z : Int} (h : CNum w v z) : ∃ g a n c, v = .agg #[.bool g, .slice a n c] := by
  obtain ⟨z', h1, h2, h3⟩ := h
  exact h1.shape4
theorem PRef.cnum {w : World} {base : Nat} {v : Value} {z : Int} (h : PRef w base v z) : CNum w v z := by
  obtain ⟨z', h1, h2, h3⟩ := h
  exact ⟨z', h1.num, h2, h3⟩
theorem Blk.set2_ne {w : World} {b c : Nat} {cs : Array Value} {t : TypeId} (h : Blk w c cs t) (hne : c ≠ b) (x y : Value) : Blk ((w.setCell ⟨b, 0, none⟩ x).setCell ⟨b, 1, none⟩ y) c cs t :=
  ((Below.heap_setCell _ _ _ _ hne).trans (Below.heap_setCell _ _ _ _ hne)).trans h
theorem PRef.keep {w w' : World} {base : Nat} {v : Value} {z : Int} (h : PRef w base v z) (hb : Below w.heap.size w w') : PRef w' base v z := by
  obtain ⟨z', ⟨s, h0, h1⟩, h2, h3⟩ := h
  exact ⟨z', ⟨s, h0, Own.keep h1 hb (Nat.le_refl _)⟩, h2, h3⟩
theorem PRef.set2 {w : World} {base b : Nat} {v : Value} {z : Int} (h : PRef w base v z) (hb : b < base) (x y : Value) : PRef ((w.setCell ⟨b, 0, none⟩ x).setCell ⟨b, 1, none⟩ y) base v z := by
  obtain ⟨z', ⟨s, h0, h1⟩, h2, h3⟩ := h
  exact ⟨z', ⟨s, h0, own_set2 h1 x y hb⟩, h2, h3⟩
theorem PRef.drew {w : World} {base : Nat} {v : Value} {z : Int} (h : PRef w base v z) : PRef w.drew base v z := h
/-- what 'both' answers -/
def BothQ (o1 o2 : Bool) (x y : Int) (w : World) (e : Ending) (w' : World) : Prop :=
  ∃ g1 s1 n1 c1 g2 s2 n2 c2, e = .returned (.tuple #[.agg #[.bool g1, .slice s1 n1 c1], .agg #[.bool g2, .slice s2 n2 c2], .int .i64 (if (o1 && o2) = true then 0 else 2)]) ∧ Below w.heap.size w w' ∧ ((o1 && o2) = true → CNum w' (.agg #[.bool g1, .slice s1 n1 c1]) x ∧ CNum w' (.agg #[.bool g2, .slice s2 n2 c2]) y)
set_option maxRecDepth 100000 in
set_option maxHeartbeats 4000000 in
theorem both_fn (a b : List UInt8) (ha : a.length ≤ 2000000) (hb : b.length ≤ 2000000) (w : World) :
    Calls Tryz.prog 65 #[.string ⟨a.toArray⟩, .string ⟨b.toArray⟩] w (BothQ (pOK a) (pOK b) (pVal a) (pVal b) w) := by
  have k1 := Blk.new w #[.bool false, .slice none 0 0] 56
  have k2 := Blk.new (w.alloc (.cells #[.bool false, .slice none 0 0] 56)) #[.bool false, .slice none 0 0] 56
  simp only [World.size_alloc] at k2
  have k1' := k1.alloc (.cells #[.bool false, .slice none 0 0] 56)
  have hb0 : Below w.heap.size w ((w.alloc (.cells #[.bool false, .slice none 0 0] 56)).alloc (.cells #[.bool false, .slice none 0 0] 56)) := ((Below.refl _ _).alloc (Nat.le_refl _) _).alloc (by simp) _
  have hw0 : w.heap.size + 2 ≤ ((w.alloc (.cells #[.bool false, .slice none 0 0] 56)).alloc (.cells #[.bool false, .slice none 0 0] 56)).heap.size := by simp
  have hA := fun w => hid (number_fn a ha w)
  have hB := fun w => hid (number_fn b hb w)
  unfold NumP at hA hB
  generalize hp1 : pOK a = o1 at *
  generalize hp2 : pOK b = o2 at *
  clear hp1 hp2 ha hb
  go_enter Tryz.func65, Tryz.ntmps65
  go_wp2_with fail
  generalize ((w.alloc (.cells #[.bool false, .slice none 0 0] 56)).alloc (.cells #[.bool false, .slice none 0 0] 56)) = w0 at *
  clear k1
  (with_reducible refine (hA _).out.mono ?_); rintro e w1 ⟨v, rfl, gg, hv, g1, s1, n1, c1, rfl⟩
  have HV := hid hv
  clear hv
  have k1' := k1'.later gg
  have k2 := k2.later gg
  have hb := hb0.trans (gg.mono hb0.size)
  have hg1 := gg.size
  clear hb0 gg
  have gg : Below w1.heap.size w1 (w1.alloc (.cells #[.bool g1, .slice s1 n1 c1] 56)) := (Below.refl _ _).alloc (Nat.le_refl _) _
  have k3 := Blk.new w1 #[.bool g1, .slice s1 n1 c1] 56
  have HV := hid (fun h => (HV.out h).keep gg)
  have k1' := k1'.later gg
  have k2 := k2.later gg
  have hb := hb.trans (gg.mono hb.size)
  have hsz1 : w1.heap.size < (w1.alloc (.cells #[.bool g1, .slice s1 n1 c1] 56)).heap.size := k3.lt
  have hle1 := k1'.lt
  have hbb1 : w0.heap.size ≤ w1.heap.size := hg1
  generalize hw1 : w1.heap.size = B1 at *
  clear gg
  go_wp2_with fail
  generalize w1.alloc (.cells #[.bool g1, .slice s1 n1 c1] 56) = wa at *
  (with_reducible refine (hB _).out.mono ?_); rintro e w2 ⟨v, rfl, gg, hv, g2, s2, n2, c2, rfl⟩
  have HV2 := hid hv
  clear hv
  have k1' := k1'.later gg
  have k2 := k2.later gg
  have k3 := k3.later gg
  have HV := hid (fun h => (HV.out h).keep gg)
  have hb := hb.trans (gg.mono hb.size)
  have hsz2 := gg.size
  clear gg
  have gg : Below w2.heap.size w2 (w2.alloc (.cells #[.bool g2, .slice s2 n2 c2] 56)) := (Below.refl _ _).alloc (Nat.le_refl _) _
  have k4 := Blk.new w2 #[.bool g2, .slice s2 n2 c2] 56
  have HV := hid (fun h => (HV.out h).keep gg)
  have HV2 := hid (fun h => (HV2.out h).keep gg)
  have k1' := k1'.later gg
  have k2 := k2.later gg
  have k3 := k3.later gg
  have hb := hb.trans (gg.mono hb.size)
  clear gg
  obtain ⟨⟨p1, p2⟩, q1, q2⟩ := k1'.two
  obtain ⟨⟨p3, p4⟩, q3, q4⟩ := k2.two
  obtain ⟨⟨p5, p6⟩, q5, q6⟩ := k3.two
  cases o1
  · go_wp2
    have k1F := (k1'.set2 (.bool false) (.slice none 0 0)).set2_ne (b := w.heap.size + 1) (by omega) (.bool false) (.slice none 0 0)
    have k2F := (k2.set2_ne (b := w.heap.size) (by omega) (.bool false) (.slice none 0 0)).set2 (.bool false) (.slice none 0 0)
    obtain ⟨⟨r1, r2⟩, _⟩ := k1F.two
    obtain ⟨⟨r3, r4⟩, _⟩ := k2F.two
    have hbF := (((hb.setCell (p := ⟨w.heap.size, 0, none⟩) (Nat.le_refl _) (.bool false)).setCell (p := ⟨w.heap.size, 1, none⟩) (Nat.le_refl _) (.slice none 0 0)).setCell (p := ⟨w.heap.size + 1, 0, none⟩) (Nat.le_succ _) (.bool false)).setCell (p := ⟨w.heap.size + 1, 1, none⟩) (Nat.le_succ _) (.slice none 0 0)
    exact bodyPost_ret (v := .tuple #[.agg #[.bool false, .slice none 0 0], .agg #[.bool false, .slice none 0 0], .int .i64 2]) (by simp [results, Tryz.results65, go_sem, r1, r2, r3, r4]) rfl ⟨_, _, _, _, _, _, _, _, rfl, hbF, fun h => by simp at h⟩
  · cases o2
    · go_wp2
      have k1F := (k1'.set2 (.bool false) (.slice none 0 0)).set2_ne (b := w.heap.size + 1) (by omega) (.bool false) (.slice none 0 0)
      have k2F := (k2.set2_ne (b := w.heap.size) (by omega) (.bool false) (.slice none 0 0)).set2 (.bool false) (.slice none 0 0)
      obtain ⟨⟨r1, r2⟩, _⟩ := k1F.two
      obtain ⟨⟨r3, r4⟩, _⟩ := k2F.two
      have hbF := (((hb.setCell (p := ⟨w.heap.size, 0, none⟩) (Nat.le_refl _) (.bool false)).setCell (p := ⟨w.heap.size, 1, none⟩) (Nat.le_refl _) (.slice none 0 0)).setCell (p := ⟨w.heap.size + 1, 0, none⟩) (Nat.le_succ _) (.bool false)).setCell (p := ⟨w.heap.size + 1, 1, none⟩) (Nat.le_succ _) (.slice none 0 0)
      exact bodyPost_ret (v := .tuple #[.agg #[.bool false, .slice none 0 0], .agg #[.bool false, .slice none 0 0], .int .i64 2]) (by simp [results, Tryz.results65, go_sem, r1, r2, r3, r4]) rfl ⟨_, _, _, _, _, _, _, _, rfl, hbF, fun h => by simp at h⟩
    · obtain ⟨⟨p7, p8⟩, q7, q8⟩ := k4.two
      have hne : B1 ≠ w2.heap.size := by omega
      go_wp2_with fail
      go_region
      have k1F := (k1'.set2 (.bool g1) (.slice s1 n1 c1)).set2_ne (b := w.heap.size + 1) (by omega) (.bool g2) (.slice s2 n2 c2)
      have k2F := (k2.set2_ne (b := w.heap.size) (by omega) (.bool g1) (.slice s1 n1 c1)).set2 (.bool g2) (.slice s2 n2 c2)
      obtain ⟨⟨r1, r2⟩, _⟩ := k1F.two
      obtain ⟨⟨r3, r4⟩, _⟩ := k2F.two
      have hbF := (((hb.setCell (p := ⟨w.heap.size, 0, none⟩) (Nat.le_refl _) (.bool g1)).setCell (p := ⟨w.heap.size, 1, none⟩) (Nat.le_refl _) (.slice s1 n1 c1)).setCell (p := ⟨w.heap.size + 1, 0, none⟩) (Nat.le_succ _) (.bool g2)).setCell (p := ⟨w.heap.size + 1, 1, none⟩) (Nat.le_succ _) (.slice s2 n2 c2)
      have n1' := (((HV.out (by first | rfl | trivial)).set2 (b := w.heap.size) (by omega) (.bool g1) (.slice s1 n1 c1)).set2 (b := w.heap.size + 1) (by omega) (.bool g2) (.slice s2 n2 c2)).drew.cnum
      have n2' := (((HV2.out (by first | rfl | trivial)).set2 (b := w.heap.size) (by omega) (.bool g1) (.slice s1 n1 c1)).set2 (b := w.heap.size + 1) (by omega) (.bool g2) (.slice s2 n2 c2)).drew.cnum
      go_wp2
      exact bodyPost_ret (v := .tuple #[.agg #[.bool g1, .slice s1 n1 c1], .agg #[.bool g2, .slice s2 n2 c2], .int .i64 0]) (by simp [results, Tryz.results65, go_sem, r1, r2, r3, r4]) rfl ⟨_, _, _, _, _, _, _, _, rfl, hbF.drew, fun _ => ⟨n1', n2'⟩⟩
end Go.Proofs.YtkhgoeippamobaaGreatDoor
/-
  The reference: short, Add, Sub.
-/
namespace Go.Proofs.YtkhgoeippamobaaGreatDoor
open Go.RowKit
theorem Blk.four {w : World} {b : Nat} {x y z u : Value} {t : TypeId} (h : Blk w b #[x, y, z, u] t) : w.cell? ⟨b, 0, none⟩ = some x ∧ w.cell? ⟨b, 1, none⟩ = some y ∧ w.cell? ⟨b, 2, none⟩ = some z ∧ w.cell? ⟨b, 3, none⟩ = some u :=
  ⟨h.cell 0, h.cell 1, h.cell 2, h.cell 3⟩
theorem DNum.rep {w : World} {g : Bool} {a : Option Addr} {n c : Nat} {z : Int} (h : DNum w (.agg #[.bool g, .slice a n c]) z) : DecRep w (.slice a n c) z.natAbs := by
  obtain ⟨s, he, hd⟩ := h
  simp only [Value.agg.injEq, Array.mk.injEq, List.cons.injEq, and_true] at he
  rw [he.2]; exact hd
theorem Nums.mk2 {w : World} {b : Nat} {t : TypeId} {g1 g2 : Bool} {s1 s2 : Option Addr} {n1 n2 c1 c2 : Nat} {x y : Int} (k : Blk w b #[.bool g1, .slice s1 n1 c1, .bool g2, .slice s2 n2 c2] t)
    (hx : DNum w (.agg #[.bool g1, .slice s1 n1 c1]) x) (hy : DNum w (.agg #[.bool g2, .slice s2 n2 c2]) y) : Nums w (.slice (some ⟨b, 0, none⟩) 2 2) [x, y] := by
  obtain ⟨k1, k2, k3, k4⟩ := k.four
  obtain ⟨ex1, ex2⟩ := hx.parts
  obtain ⟨ey1, ey2⟩ := hy.parts
  subst ex1; subst ex2; subst ey1; subst ey2
  refine ⟨_, _, rfl, Nat.le_refl _, fun _ => ⟨b, rfl, k.lt, fun i hi => ?_⟩⟩
  have : i = 0 ∨ i = 1 := by simp at hi; omega
  rcases this with rfl | rfl
  · exact ⟨s1, c1, k1, k2, hx.rep⟩
  · exact ⟨s2, c2, k3, k4, hy.rep⟩
theorem Nums.mk1 {w : World} {b : Nat} {t : TypeId} {g1 : Bool} {s1 : Option Addr} {n1 c1 : Nat} {x : Int} (k : Blk w b #[.bool g1, .slice s1 n1 c1] t)
    (hx : DNum w (.agg #[.bool g1, .slice s1 n1 c1]) x) : Nums w (.slice (some ⟨b, 0, none⟩) 1 1) [x] := by
  obtain ⟨⟨k1, k2⟩, _⟩ := k.two
  obtain ⟨ex1, ex2⟩ := hx.parts
  subst ex1; subst ex2
  refine ⟨_, _, rfl, Nat.le_refl _, fun _ => ⟨b, rfl, k.lt, fun i hi => ?_⟩⟩
  have : i = 0 := by simp at hi; omega
  subst this
  exact ⟨s1, c1, k1, k2, hx.rep⟩
theorem dlen_abs_add (x y : Int) : dlen 10 (x + y).natAbs ≤ max (dlen 10 x.natAbs) (dlen 10 y.natAbs) + 1 :=
  Nat.le_trans (dlen_mono _ _ (Int.natAbs_add_le x y)) (dlen_add_le _ _)
theorem anyBig_two {x' y' x y : Int} (hx : Cut x' x) (hy : Cut y' y) : anyBig [x', y'] = (decide (big600 ≤ x.natAbs) || decide (big600 ≤ y.natAbs)) := by
  unfold anyBig
  simp only [List.any_cons, List.any_nil, Bool.or_false]
  rw [hx.big, hy.big]
theorem told_two {a b : List UInt8} {x' y' z' z : Int} (oa : pOK a = true) (ob : pOK b = true) (hx : Cut x' (pVal a)) (hy : Cut y' (pVal b)) (hz : x' = pVal a → y' = pVal b → z' = z) : toldRes z' [x', y'] = twoRes a b 0 z := by
  have e2 : twoRes a b 0 z = if big600 ≤ (pVal a).natAbs ∨ big600 ≤ (pVal b).natAbs then ([], 4) else resOf z := by
    unfold twoRes
    rw [if_pos ⟨oa, ob⟩, if_neg (by simp)]
  unfold toldRes
  rw [e2, anyBig_two hx hy]
  by_cases h1 : big600 ≤ (pVal a).natAbs
  · rw [decide_eq_true h1, if_pos (show big600 ≤ (pVal a).natAbs ∨ big600 ≤ (pVal b).natAbs from .inl h1)]; rfl
  · by_cases h2 : big600 ≤ (pVal b).natAbs
    · rw [decide_eq_true h2, Bool.or_true, if_pos (show big600 ≤ (pVal a).natAbs ∨ big600 ≤ (pVal b).natAbs from .inr h2)]; rfl
    · rw [hz (hx.small (by omega)) (hy.small (by omega)), decide_eq_false h1, decide_eq_false h2, if_neg (show ¬ (big600 ≤ (pVal a).natAbs ∨ big600 ≤ (pVal b).natAbs) by omega)]; rfl
set_option maxRecDepth 100000 in
set_option maxHeartbeats 4000000 in
theorem short_fn {u : Value} {zs : List Int} {w : World} (hs : Nums w u zs) (hz : ∀ x ∈ zs, dlen 10 x.natAbs ≤ 10000000) (hn : zs.length ≤ 100) :
    Calls Tryz.prog 71 #[u] w fun e w' => e = .returned (.bool (!anyBig zs)) ∧ Below w.heap.size w w' := by
  have hs0 := hs
  obtain ⟨su, cu, rfl, hcu, hcell⟩ := hs0
  have HZ := hid hz
  have HC := hid hcell
  clear hz hcell
  go_enter Tryz.func71, Tryz.ntmps71
  go_wp2
  go_loopw [7] (fun iv wr => ∃ k : Nat, iv = .int .i64 k ∧ k ≤ zs.length ∧ anyBig (zs.take k) = false ∧ Below w.heap.size w wr) (fun iv _ => zs.length - (intOf iv).toNat)
  case atStart => exact ⟨0, rfl, Nat.zero_le _, rfl, Below.refl _ _⟩
  case round =>
    obtain ⟨k, rfl, hk, hany, hbr⟩ := hrel
    have HA := hid hany
    clear hany
    by_cases hlt : k < zs.length
    · obtain ⟨b, rfl, hbl, hc⟩ := HC.out (by omega)
      obtain ⟨s, c, c1, c2, c3⟩ := hc k hlt
      have c1 := (hbr.cell (p := ⟨b, k * 2, none⟩) hbl).trans c1
      have c2 := (hbr.cell (p := ⟨b, k * 2 + 1, none⟩) hbl).trans c2
      have e : zs.getD k 0 = zs[k] := by rw [List.getD_eq_getElem?_getD, List.getElem?_eq_getElem hlt]; rfl
      have hdl := HZ.out (zs[k]) (List.getElem_mem hlt)
      rw [e] at c1 c2 c3
      have HT := hid (show anyBig (zs.take (k + 1)) = decide (big600 ≤ (zs[k]).natAbs) by
        have h1 := HA.out
        unfold anyBig at h1 ⊢
        rw [List.take_add_one, List.getElem?_eq_getElem hlt, List.any_append, h1]
        simp)
      have hmono : anyBig (zs.take (k + 1)) = true → anyBig zs = true := by
        unfold anyBig
        intro h
        rw [List.any_eq_true] at h ⊢
        obtain ⟨x, h1, h2⟩ := h
        exact ⟨x, List.mem_of_mem_take h1, h2⟩
      have HM := hid hmono
      clear hmono e hc
      generalize zs[k] = y at *
      have hb1 : Below wr.heap.size wr (wr.alloc (.cells #[.bool (decide (y < 0)), .slice s (dlen 10 y.natAbs) c] 56)) := (Below.refl _ _).alloc (Nat.le_refl _) _
      have hD : DNum (wr.alloc (.cells #[.bool (decide (y < 0)), .slice s (dlen 10 y.natAbs) c] 56)) (.agg #[.bool (decide (y < 0)), .slice s (dlen 10 y.natAbs) c]) y := ⟨_, rfl, (c3.below hbr).below hb1⟩
      have HLC := hid (long_fn hD (by omega))
      have hszr := hbr.size
      go_wp2_with fail
      (with_reducible refine HLC.out.mono ?_); rintro e w2 ⟨rfl, hb2⟩
      have hb3 := hbr.trans ((hb1.mono hszr).trans (hb2.mono (Nat.le_trans hszr hb1.size)))
      by_cases hbig : big600 ≤ y.natAbs
      · have HR := hid (HM.out (by rw [HT.out]; exact decide_eq_true hbig))
        rw [decide_eq_true hbig]
        clear hbig
        go_wp2
        go_ret
        exact ⟨by rw [HR.out]; rfl, hb3⟩
      · have HF := hid (show anyBig (zs.take (k + 1)) = false by rw [HT.out]; exact decide_eq_false hbig)
        rw [decide_eq_false hbig]
        clear hbig
        go_wp2
        go_roundw
        case rel => exact ⟨k + 1, by go_num, by omega, HF.out, hb3⟩
        case measure => simp [intOf] <;> omega
    · obtain rfl : k = zs.length := by omega
      have hany := HA.out
      rw [List.take_length] at hany
      have HR := hid hany
      clear hany
      go_wp2
      go_ret
      exact ⟨by rw [HR.out]; rfl, hbr⟩
set_option maxRecDepth 100000 in
set_option maxHeartbeats 4000000 in
theorem addR_fn (a b : List UInt8) (ha : a.length ≤ 2000000) (hb : b.length ≤ 2000000) (w : World) :
    Calls Tryz.prog 20 #[.string ⟨a.toArray⟩, .string ⟨b.toArray⟩] w fun e w' => e = .returned (.tuple #[.string ⟨(addRes a b).1.toArray⟩, .int .i64 (addRes a b).2]) ∧ Below w.heap.size w w' := by
  have hB := hid (both_fn a b ha hb w)
  unfold BothQ at hB
  clear ha hb
  by_cases hok : pOK a = true ∧ pOK b = true
  case neg =>
    have hf : (pOK a && pOK b) = false := by
      cases h1 : pOK a <;> cases h2 : pOK b <;> simp_all
    have HR := hid (show addRes a b = ([], 2) by unfold addRes twoRes; rw [if_neg hok])
    rw [hf] at hB
    have hB := hid hB.out
    clear hok hf
    go_enter Tryz.func20, Tryz.ntmps20
    go_wp2_with fail
    (with_reducible refine hB.out.mono ?_); rintro e w1 ⟨g1, s1, n1, c1, g2, s2, n2, c2, rfl, hb1, -⟩
    have hsz := hb1.size
    go_wp2
    go_ret2
    exact ⟨by rw [HR.out]; rfl, (hb1.alloc hsz _).alloc (by simp; omega) _⟩
  case pos =>
    obtain ⟨oa, ob⟩ := hok
    rw [oa, ob] at hB
    have hB := hid hB.out
    go_enter Tryz.func20, Tryz.ntmps20
    go_wp2_with fail
    (with_reducible refine hB.out.mono ?_); rintro e w1 ⟨g1, s1, n1, c1, g2, s2, n2, c2, rfl, hb, hn⟩
    obtain ⟨⟨x', hx, hlx, hcx⟩, ⟨y', hy, hly, hcy⟩⟩ := hn (by first | rfl | trivial)
    have HTWO := hid (fun z' z => told_two (z' := z') (z := z) oa ob hcx hcy)
    clear hn hB oa ob
    have kX := Blk.new w1 #[.bool g1, .slice s1 n1 c1] 56
    have kY := Blk.new (w1.alloc (.cells #[.bool g1, .slice s1 n1 c1] 56)) #[.bool g2, .slice s2 n2 c2] 56
    simp only [World.size_alloc] at kY
    have kX := kX.alloc (.cells #[.bool g2, .slice s2 n2 c2] 56)
    have gg : Below w1.heap.size w1 ((w1.alloc (.cells #[.bool g1, .slice s1 n1 c1] 56)).alloc (.cells #[.bool g2, .slice s2 n2 c2] 56)) := ((Below.refl _ _).alloc (Nat.le_refl _) _).alloc (by simp) _
    have hx := hx.below gg
    have hy := hy.below gg
    have hb := hb.trans (gg.mono hb.size)
    clear gg
    obtain ⟨⟨p1, p2⟩, q1, q2⟩ := kX.two
    obtain ⟨⟨p3, p4⟩, q3, q4⟩ := kY.two
    go_wp2_with fail
    clear p1 p2 p3 p4 q1 q2 q3 q4
    generalize (w1.alloc (.cells #[.bool g1, .slice s1 n1 c1] 56)).alloc (.cells #[.bool g2, .slice s2 n2 c2] 56) = w0 at *
    generalize w1.heap.size = B1 at *
    have kX := kX.drew
    have kY := kY.drew
    have hx := hx.below ((Below.refl w0.heap.size w0).drew)
    have hy := hy.below ((Below.refl w0.heap.size w0).drew)
    have hb := hb.drew
    refine U_begin (late := fun i => decide (9 ≤ i)) (S := fun u => Blk u B1 #[.bool g1, .slice s1 n1 c1] 56 ∧ Blk u (B1 + 1) #[.bool g2, .slice s2 n2 c2] 56) (by kernel_rfl) ?_
    generalize w0.drew = wd at *
    refine U_take (i := 0) (v := .agg #[.bool g1, .slice s1 n1 c1]) rfl (by kernel_rfl) (by kernel_rfl) (by kernel_rfl) (by kernel_rfl) (by kernel_rfl) (fun _ _ _ h => h) (.inl ⟨rfl, fun u hu => (by obtain ⟨⟨h1, h2⟩, _⟩ := hu.1.two; go_simp)⟩) ⟨kX, kY⟩ ?_
    refine U_take (i := 1) (v := .agg #[.bool g2, .slice s2 n2 c2]) rfl (by kernel_rfl) (by kernel_rfl) (by kernel_rfl) (by kernel_rfl) (by kernel_rfl) (fun _ _ _ h => h) (.inl ⟨rfl, fun u hu => (by obtain ⟨⟨h1, h2⟩, _⟩ := hu.2.two; go_simp)⟩) ⟨kX, kY⟩ ?_
    refine U_take (i := 3) (v := .agg #[.bool g1, .slice s1 n1 c1]) rfl (by kernel_rfl) (by kernel_rfl) (by kernel_rfl) (by kernel_rfl) (by kernel_rfl) (fun _ _ _ h => h) (.inl ⟨rfl, fun u hu => (by obtain ⟨⟨h1, h2⟩, _⟩ := hu.1.two; go_simp)⟩) ⟨kX, kY⟩ ?_
    refine U_take (i := 4) (v := .agg #[.bool g2, .slice s2 n2 c2]) rfl (by kernel_rfl) (by kernel_rfl) (by kernel_rfl) (by kernel_rfl) (by kernel_rfl) (fun _ _ _ h => h) (.inl ⟨rfl, fun u hu => (by obtain ⟨⟨h1, h2⟩, _⟩ := hu.2.two; go_simp)⟩) ⟨kX, kY⟩ ?_
    refine U_two (j1 := 2) (j2 := 5) (by kernel_rfl) rfl rfl (fun K hK => ?_) (fun K hK => ?_)
    · go_simp
      have hc := hid (plusR_fn hx hy (by omega) (by omega))
      (with_reducible refine hc.out.mono ?_); rintro e v1 ⟨q, rfl, hq, gg⟩
      clear hc
      have hq := hq.num
      have hb := hb.trans (gg.mono hb.size)
      have kX := kX.later gg
      have kY := kY.later gg
      have hx := hx.below gg
      have hy := hy.below gg
      obtain ⟨qg, qa, qn, qc, rfl⟩ := hq.shape4
      clear gg
      refine hK.out _ _ (.inr ⟨kX, kY⟩) ?_
      clear hK K
      refine U_step (j := 5) (by kernel_rfl) rfl (fun K hK => ?_)
      go_simp
      have gg : Below v1.heap.size v1 (v1.alloc (.cells #[.bool g1, .slice s1 n1 c1, .bool g2, .slice s2 n2 c2] 56)) := (Below.refl _ _).alloc (Nat.le_refl _) _
      have kN := Blk.new v1 #[.bool g1, .slice s1 n1 c1, .bool g2, .slice s2 n2 c2] 56
      have hb := hb.trans (gg.mono hb.size)
      have kX := kX.later gg
      have kY := kY.later gg
      have hx := hx.below gg
      have hy := hy.below gg
      have hq := hq.below gg
      have hN := Nums.mk2 kN hx hy
      clear gg
      refine hK.out _ _ (.inr ⟨kX, kY⟩) ?_
      clear hK K
      generalize v1.heap.size = B5 at *
      generalize v1.alloc (.cells #[.bool g1, .slice s1 n1 c1, .bool g2, .slice s2 n2 c2] 56) = v2 at *
      clear kN
      refine U_step (j := 6) (by kernel_rfl) rfl (fun K hK => ?_)
      go_simp
      have hc := hid (told_fn hq (by have := dlen_abs_add x' y'; omega) hN (fun x hm => by simp at hm; rcases hm with rfl | rfl <;> omega) (by simp))
      (with_reducible refine hc.out.mono ?_); rintro e v3 ⟨rfl, gg⟩
      clear hc
      have hb := hb.trans (gg.mono hb.size)
      have kX := kX.later gg
      have kY := kY.later gg
      have hx := hx.below gg
      have hy := hy.below gg
      have hq := hq.below gg
      have hN := hN.below gg
      clear gg
      refine hK.out _ _ (.inr ⟨kX, kY⟩) ?_
      clear hK K
      refine U_take (i := 7) (v := .string ⟨(toldRes (x' + y') [x', y']).1.toArray⟩) rfl (by kernel_rfl) (by kernel_rfl) (by kernel_rfl) (by kernel_rfl) (by kernel_rfl) (fun _ _ _ h => h) (.inl ⟨rfl, fun u hu => (by go_simp)⟩) ⟨kX, kY⟩ ?_
      refine U_take (i := 8) (v := .int .i64 (toldRes (x' + y') [x', y']).2) rfl (by kernel_rfl) (by kernel_rfl) (by kernel_rfl) (by kernel_rfl) (by kernel_rfl) (fun _ _ _ h => h) (.inl ⟨rfl, fun u hu => (by go_simp)⟩) ⟨kX, kY⟩ ?_
      refine U_step (j := 9) (by kernel_rfl) rfl (fun K hK => ?_)
      go_simp
      refine hK.out _ _ (.inl rfl) ?_
      clear hK K
      refine U_step (j := 10) (by kernel_rfl) rfl (fun K hK => ?_)
      go_simp
      refine hK.out _ _ (.inl rfl) ?_
      clear hK K
      refine U_done (by kernel_rfl) ?_ _
      have HR := hid (show addRes a b = toldRes (x' + y') [x', y'] from (HTWO.out (x' + y') (pVal a + pVal b) (fun e1 e2 => by rw [e1, e2])).symm)
      clear HTWO
      go_wp2
      go_ret2
      exact ⟨by rw [HR.out]; rfl, hb⟩
    · go_simp
      have gg : Below wd.heap.size wd (wd.alloc (.cells #[.bool g1, .slice s1 n1 c1, .bool g2, .slice s2 n2 c2] 56)) := (Below.refl _ _).alloc (Nat.le_refl _) _
      have kN := Blk.new wd #[.bool g1, .slice s1 n1 c1, .bool g2, .slice s2 n2 c2] 56
      have hb := hb.trans (gg.mono hb.size)
      have kX := kX.later gg
      have kY := kY.later gg
      have hx := hx.below gg
      have hy := hy.below gg
      have hN := Nums.mk2 kN hx hy
      clear gg
      refine hK.out _ _ (.inr ⟨kX, kY⟩) ?_
      clear hK K
      generalize wd.heap.size = B5 at *
      generalize wd.alloc (.cells #[.bool g1, .slice s1 n1 c1, .bool g2, .slice s2 n2 c2] 56) = v1 at *
      clear kN
      refine U_step (j := 2) (by kernel_rfl) rfl (fun K hK => ?_)
      go_simp
      have hc := hid (plusR_fn hx hy (by omega) (by omega))
      (with_reducible refine hc.out.mono ?_); rintro e v2 ⟨q, rfl, hq, gg⟩
      clear hc
      have hq := hq.num
      have hb := hb.trans (gg.mono hb.size)
      have kX := kX.later gg
      have kY := kY.later gg
      have hx := hx.below gg
      have hy := hy.below gg
      have hN := hN.below gg
      obtain ⟨qg, qa, qn, qc, rfl⟩ := hq.shape4
      clear gg
      refine hK.out _ _ (.inr ⟨kX, kY⟩) ?_
      clear hK K
      refine U_step (j := 6) (by kernel_rfl) rfl (fun K hK => ?_)
      go_simp
      have hc := hid (told_fn hq (by have := dlen_abs_add x' y'; omega) hN (fun x hm => by simp at hm; rcases hm with rfl | rfl <;> omega) (by simp))
      (with_reducible refine hc.out.mono ?_); rintro e v3 ⟨rfl, gg⟩
      clear hc
      have hb := hb.trans (gg.mono hb.size)
      have kX := kX.later gg
      have kY := kY.later gg
      have hx := hx.below gg
      have hy := hy.below gg
      have hN := hN.below gg
      have hq := hq.below gg
      clear gg
      refine hK.out _ _ (.inr ⟨kX, kY⟩) ?_
      clear hK K
      refine U_take (i := 7) (v := .string ⟨(toldRes (x' + y') [x', y']).1.toArray⟩) rfl (by kernel_rfl) (by kernel_rfl) (by kernel_rfl) (by kernel_rfl) (by kernel_rfl) (fun _ _ _ h => h) (.inl ⟨rfl, fun u hu => (by go_simp)⟩) ⟨kX, kY⟩ ?_
      refine U_take (i := 8) (v := .int .i64 (toldRes (x' + y') [x', y']).2) rfl (by kernel_rfl) (by kernel_rfl) (by kernel_rfl) (by kernel_rfl) (by kernel_rfl) (fun _ _ _ h => h) (.inl ⟨rfl, fun u hu => (by go_simp)⟩) ⟨kX, kY⟩ ?_
      refine U_step (j := 9) (by kernel_rfl) rfl (fun K hK => ?_)
      go_simp
      refine hK.out _ _ (.inl rfl) ?_
      clear hK K
      refine U_step (j := 10) (by kernel_rfl) rfl (fun K hK => ?_)
      go_simp
      refine hK.out _ _ (.inl rfl) ?_
      clear hK K
      refine U_done (by kernel_rfl) ?_ _
      have HR := hid (show addRes a b = toldRes (x' + y') [x', y'] from (HTWO.out (x' + y') (pVal a + pVal b) (fun e1 e2 => by rw [e1, e2])).symm)
      clear HTWO
      go_wp2
      go_ret2
      exact ⟨by rw [HR.out]; rfl, hb⟩
set_option maxRecDepth 100000 in
set_option maxHeartbeats 4000000 in
theorem subR_fn (a b : List UInt8) (ha : a.length ≤ 2000000) (hb : b.length ≤ 2000000) (w : World) :
    Calls Tryz.prog 21 #[.string ⟨a.toArray⟩, .string ⟨b.toArray⟩] w fun e w' => e = .returned (.tuple #[.string ⟨(subRes a b).1.toArray⟩, .int .i64 (subRes a b).2]) ∧ Below w.heap.size w w' := by
  have hB := hid (both_fn a b ha hb w)
  unfold BothQ at hB
  clear ha hb
  by_cases hok : pOK a = true ∧ pOK b = true
  case neg =>
    have hf : (pOK a && pOK b) = false := by
      cases h1 : pOK a <;> cases h2 : pOK b <;> simp_all
    have HR := hid (show subRes a b = ([], 2) by unfold subRes twoRes; rw [if_neg hok])
    rw [hf] at hB
    have hB := hid hB.out
    clear hok hf
    go_enter Tryz.func21, Tryz.ntmps21
    go_wp2_with fail
    (with_reducible refine hB.out.mono ?_); rintro e w1 ⟨g1, s1, n1, c1, g2, s2, n2, c2, rfl, hb1, -⟩
    have hsz := hb1.size
    go_wp2
    go_ret2
    exact ⟨by rw [HR.out]; rfl, (hb1.alloc hsz _).alloc (by simp; omega) _⟩
  case pos =>
    obtain ⟨oa, ob⟩ := hok
    rw [oa, ob] at hB
    have hB := hid hB.out
    go_enter Tryz.func21, Tryz.ntmps21
    go_wp2_with fail
    (with_reducible refine hB.out.mono ?_); rintro e w1 ⟨g1, s1, n1, c1, g2, s2, n2, c2, rfl, hb, hn⟩
    obtain ⟨⟨x', hx, hlx, hcx⟩, ⟨y', hy, hly, hcy⟩⟩ := hn (by first | rfl | trivial)
    have HTWO := hid (fun z' z => told_two (z' := z') (z := z) oa ob hcx hcy)
    clear hn hB oa ob
    have kX := Blk.new w1 #[.bool g1, .slice s1 n1 c1] 56
    have kY := Blk.new (w1.alloc (.cells #[.bool g1, .slice s1 n1 c1] 56)) #[.bool g2, .slice s2 n2 c2] 56
    simp only [World.size_alloc] at kY
    have kX := kX.alloc (.cells #[.bool g2, .slice s2 n2 c2] 56)
    have gg : Below w1.heap.size w1 ((w1.alloc (.cells #[.bool g1, .slice s1 n1 c1] 56)).alloc (.cells #[.bool g2, .slice s2 n2 c2] 56)) := ((Below.refl _ _).alloc (Nat.le_refl _) _).alloc (by simp) _
    have hx := hx.below gg
    have hy := hy.below gg
    have hb := hb.trans (gg.mono hb.size)
    clear gg
    obtain ⟨⟨p1, p2⟩, q1, q2⟩ := kX.two
    obtain ⟨⟨p3, p4⟩, q3, q4⟩ := kY.two
    go_wp2_with fail
    clear p1 p2 p3 p4 q1 q2 q3 q4
    generalize (w1.alloc (.cells #[.bool g1, .slice s1 n1 c1] 56)).alloc (.cells #[.bool g2, .slice s2 n2 c2] 56) = w0 at *
    generalize w1.heap.size = B1 at *
    have kX := kX.drew
    have kY := kY.drew
    have hx := hx.below ((Below.refl w0.heap.size w0).drew)
    have hy := hy.below ((Below.refl w0.heap.size w0).drew)
    have hb := hb.drew
    refine U_begin (late := fun i => decide (10 ≤ i)) (S := fun u => Blk u B1 #[.bool g1, .slice s1 n1 c1] 56 ∧ Blk u (B1 + 1) #[.bool g2, .slice s2 n2 c2] 56) (by kernel_rfl) ?_
    generalize w0.drew = wd at *
    refine U_take (i := 0) (v := .agg #[.bool g1, .slice s1 n1 c1]) rfl (by kernel_rfl) (by kernel_rfl) (by kernel_rfl) (by kernel_rfl) (by kernel_rfl) (fun _ _ _ h => h) (.inl ⟨rfl, fun u hu => (by obtain ⟨⟨h1, h2⟩, _⟩ := hu.1.two; go_simp)⟩) ⟨kX, kY⟩ ?_
    refine U_take (i := 1) (v := .agg #[.bool g2, .slice s2 n2 c2]) rfl (by kernel_rfl) (by kernel_rfl) (by kernel_rfl) (by kernel_rfl) (by kernel_rfl) (fun _ _ _ h => h) (.inl ⟨rfl, fun u hu => (by obtain ⟨⟨h1, h2⟩, _⟩ := hu.2.two; go_simp)⟩) ⟨kX, kY⟩ ?_
    refine U_take (i := 4) (v := .agg #[.bool g1, .slice s1 n1 c1]) rfl (by kernel_rfl) (by kernel_rfl) (by kernel_rfl) (by kernel_rfl) (by kernel_rfl) (fun _ _ _ h => h) (.inl ⟨rfl, fun u hu => (by obtain ⟨⟨h1, h2⟩, _⟩ := hu.1.two; go_simp)⟩) ⟨kX, kY⟩ ?_
    refine U_take (i := 5) (v := .agg #[.bool g2, .slice s2 n2 c2]) rfl (by kernel_rfl) (by kernel_rfl) (by kernel_rfl) (by kernel_rfl) (by kernel_rfl) (fun _ _ _ h => h) (.inl ⟨rfl, fun u hu => (by obtain ⟨⟨h1, h2⟩, _⟩ := hu.2.two; go_simp)⟩) ⟨kX, kY⟩ ?_
    refine U_two (j1 := 2) (j2 := 6) (by kernel_rfl) rfl rfl (fun K hK => ?_) (fun K hK => ?_)
    · go_simp
      have hc := hid (oppR_fn hy (by omega))
      (with_reducible refine hc.out.mono ?_); rintro e v1 ⟨r, rfl, hr, gg⟩
      clear hc
      have hb := hb.trans (gg.mono hb.size)
      have kX := kX.later gg
      have kY := kY.later gg
      have hx := hx.below gg
      have hy := hy.below gg
      obtain ⟨rg, ra, rn, rc, rfl⟩ := hr.shape4
      clear gg
      refine hK.out _ _ (.inr ⟨kX, kY⟩) ?_
      clear hK K
      refine U_two (j1 := 3) (j2 := 6) (by kernel_rfl) rfl rfl (fun K hK => ?_) (fun K hK => ?_)
      · go_simp
        have hc := hid (plusR_fn hx hr (by omega) (by rw [Int.natAbs_neg]; omega))
        (with_reducible refine hc.out.mono ?_); rintro e v2 ⟨q, rfl, hq, gg⟩
        clear hc
        have hq := hq.num
        have hb := hb.trans (gg.mono hb.size)
        have kX := kX.later gg
        have kY := kY.later gg
        have hx := hx.below gg
        have hy := hy.below gg
        have hr := hr.below gg
        obtain ⟨qg, qa, qn, qc, rfl⟩ := hq.shape4
        clear gg
        refine hK.out _ _ (.inr ⟨kX, kY⟩) ?_
        clear hK K
        refine U_step (j := 6) (by kernel_rfl) rfl (fun K hK => ?_)
        go_simp
        have gg : Below v2.heap.size v2 (v2.alloc (.cells #[.bool g1, .slice s1 n1 c1, .bool g2, .slice s2 n2 c2] 56)) := (Below.refl _ _).alloc (Nat.le_refl _) _
        have kN := Blk.new v2 #[.bool g1, .slice s1 n1 c1, .bool g2, .slice s2 n2 c2] 56
        have hb := hb.trans (gg.mono hb.size)
        have kX := kX.later gg
        have kY := kY.later gg
        have hx := hx.below gg
        have hy := hy.below gg
        have hr := hr.below gg
        have hq := hq.below gg
        have hN := Nums.mk2 kN hx hy
        clear gg
        refine hK.out _ _ (.inr ⟨kX, kY⟩) ?_
        clear hK K
        generalize v2.heap.size = B5 at *
        generalize v2.alloc (.cells #[.bool g1, .slice s1 n1 c1, .bool g2, .slice s2 n2 c2] 56) = v3 at *
        clear kN
        refine U_step (j := 7) (by kernel_rfl) rfl (fun K hK => ?_)
        go_simp
        have hc := hid (told_fn hq (by have := dlen_abs_add x' (-y'); rw [Int.natAbs_neg] at this; omega) hN (fun x hm => by simp at hm; rcases hm with rfl | rfl <;> omega) (by simp))
        (with_reducible refine hc.out.mono ?_); rintro e v4 ⟨rfl, gg⟩
        clear hc
        have hb := hb.trans (gg.mono hb.size)
        have kX := kX.later gg
        have kY := kY.later gg
        have hx := hx.below gg
        have hy := hy.below gg
        have hr := hr.below gg
        have hq := hq.below gg
        have hN := hN.below gg
        clear gg
        refine hK.out _ _ (.inr ⟨kX, kY⟩) ?_
        clear hK K
        refine U_take (i := 8) (v := .string ⟨(toldRes (x' + -y') [x', y']).1.toArray⟩) rfl (by kernel_rfl) (by kernel_rfl) (by kernel_rfl) (by kernel_rfl) (by kernel_rfl) (fun _ _ _ h => h) (.inl ⟨rfl, fun u hu => (by go_simp)⟩) ⟨kX, kY⟩ ?_
        refine U_take (i := 9) (v := .int .i64 (toldRes (x' + -y') [x', y']).2) rfl (by kernel_rfl) (by kernel_rfl) (by kernel_rfl) (by kernel_rfl) (by kernel_rfl) (fun _ _ _ h => h) (.inl ⟨rfl, fun u hu => (by go_simp)⟩) ⟨kX, kY⟩ ?_
        refine U_step (j := 10) (by kernel_rfl) rfl (fun K hK => ?_)
        go_simp
        refine hK.out _ _ (.inl rfl) ?_
        clear hK K
        refine U_step (j := 11) (by kernel_rfl) rfl (fun K hK => ?_)
        go_simp
        refine hK.out _ _ (.inl rfl) ?_
        clear hK K
        refine U_done (by kernel_rfl) ?_ _
        have HR := hid (show subRes a b = toldRes (x' + -y') [x', y'] from (HTWO.out (x' + -y') (pVal a - pVal b) (fun e1 e2 => by rw [e1, e2]; omega)).symm)
        clear HTWO
        go_wp2
        go_ret2
        exact ⟨by rw [HR.out]; rfl, hb⟩
      · go_simp
        have gg : Below v1.heap.size v1 (v1.alloc (.cells #[.bool g1, .slice s1 n1 c1, .bool g2, .slice s2 n2 c2] 56)) := (Below.refl _ _).alloc (Nat.le_refl _) _
        have kN := Blk.new v1 #[.bool g1, .slice s1 n1 c1, .bool g2, .slice s2 n2 c2] 56
        have hb := hb.trans (gg.mono hb.size)
        have kX := kX.later gg
        have kY := kY.later gg
        have hx := hx.below gg
        have hy := hy.below gg
        have hr := hr.below gg
        have hN := Nums.mk2 kN hx hy
        clear gg
        refine hK.out _ _ (.inr ⟨kX, kY⟩) ?_
        clear hK K
        generalize v1.heap.size = B5 at *
        generalize v1.alloc (.cells #[.bool g1, .slice s1 n1 c1, .bool g2, .slice s2 n2 c2] 56) = v2 at *
        clear kN
        refine U_step (j := 3) (by kernel_rfl) rfl (fun K hK => ?_)
        go_simp
        have hc := hid (plusR_fn hx hr (by omega) (by rw [Int.natAbs_neg]; omega))
        (with_reducible refine hc.out.mono ?_); rintro e v3 ⟨q, rfl, hq, gg⟩
        clear hc
        have hq := hq.num
        have hb := hb.trans (gg.mono hb.size)
        have kX := kX.later gg
        have kY := kY.later gg
        have hx := hx.below gg
        have hy := hy.below gg
        have hr := hr.below gg
        have hN := hN.below gg
        obtain ⟨qg, qa, qn, qc, rfl⟩ := hq.shape4
        clear gg
        refine hK.out _ _ (.inr ⟨kX, kY⟩) ?_
        clear hK K
        refine U_step (j := 7) (by kernel_rfl) rfl (fun K hK => ?_)
        go_simp
        have hc := hid (told_fn hq (by have := dlen_abs_add x' (-y'); rw [Int.natAbs_neg] at this; omega) hN (fun x hm => by simp at hm; rcases hm with rfl | rfl <;> omega) (by simp))
        (with_reducible refine hc.out.mono ?_); rintro e v4 ⟨rfl, gg⟩
        clear hc
        have hb := hb.trans (gg.mono hb.size)
        have kX := kX.later gg
        have kY := kY.later gg
        have hx := hx.below gg
        have hy := hy.below gg
        have hr := hr.below gg
        have hN := hN.below gg
        have hq := hq.below gg
        clear gg
        refine hK.out _ _ (.inr ⟨kX, kY⟩) ?_
        clear hK K
        refine U_take (i := 8) (v := .string ⟨(toldRes (x' + -y') [x', y']).1.toArray⟩) rfl (by kernel_rfl) (by kernel_rfl) (by kernel_rfl) (by kernel_rfl) (by kernel_rfl) (fun _ _ _ h => h) (.inl ⟨rfl, fun u hu => (by go_simp)⟩) ⟨kX, kY⟩ ?_
        refine U_take (i := 9) (v := .int .i64 (toldRes (x' + -y') [x', y']).2) rfl (by kernel_rfl) (by kernel_rfl) (by kernel_rfl) (by kernel_rfl) (by kernel_rfl) (fun _ _ _ h => h) (.inl ⟨rfl, fun u hu => (by go_simp)⟩) ⟨kX, kY⟩ ?_
        refine U_step (j := 10) (by kernel_rfl) rfl (fun K hK => ?_)
        go_simp
        refine hK.out _ _ (.inl rfl) ?_
        clear hK K
        refine U_step (j := 11) (by kernel_rfl) rfl (fun K hK => ?_)
        go_simp
        refine hK.out _ _ (.inl rfl) ?_
        clear hK K
        refine U_done (by kernel_rfl) ?_ _
        have HR := hid (show subRes a b = toldRes (x' + -y') [x', y'] from (HTWO.out (x' + -y') (pVal a - pVal b) (fun e1 e2 => by rw [e1, e2]; omega)).symm)
        clear HTWO
        go_wp2
        go_ret2
        exact ⟨by rw [HR.out]; rfl, hb⟩
    · go_simp
      have gg : Below wd.heap.size wd (wd.alloc (.cells #[.bool g1, .slice s1 n1 c1, .bool g2, .slice s2 n2 c2] 56)) := (Below.refl _ _).alloc (Nat.le_refl _) _
      have kN := Blk.new wd #[.bool g1, .slice s1 n1 c1, .bool g2, .slice s2 n2 c2] 56
      have hb := hb.trans (gg.mono hb.size)
      have kX := kX.later gg
      have kY := kY.later gg
      have hx := hx.below gg
      have hy := hy.below gg
      have hN := Nums.mk2 kN hx hy
      clear gg
      refine hK.out _ _ (.inr ⟨kX, kY⟩) ?_
      clear hK K
      generalize wd.heap.size = B5 at *
      generalize wd.alloc (.cells #[.bool g1, .slice s1 n1 c1, .bool g2, .slice s2 n2 c2] 56) = v1 at *
      clear kN
      refine U_step (j := 2) (by kernel_rfl) rfl (fun K hK => ?_)
      go_simp
      have hc := hid (oppR_fn hy (by omega))
      (with_reducible refine hc.out.mono ?_); rintro e v2 ⟨r, rfl, hr, gg⟩
      clear hc
      have hb := hb.trans (gg.mono hb.size)
      have kX := kX.later gg
      have kY := kY.later gg
      have hx := hx.below gg
      have hy := hy.below gg
      have hN := hN.below gg
      obtain ⟨rg, ra, rn, rc, rfl⟩ := hr.shape4
      clear gg
      refine hK.out _ _ (.inr ⟨kX, kY⟩) ?_
      clear hK K
      refine U_step (j := 3) (by kernel_rfl) rfl (fun K hK => ?_)
      go_simp
      have hc := hid (plusR_fn hx hr (by omega) (by rw [Int.natAbs_neg]; omega))
      (with_reducible refine hc.out.mono ?_); rintro e v3 ⟨q, rfl, hq, gg⟩
      clear hc
      have hq := hq.num
      have hb := hb.trans (gg.mono hb.size)
      have kX := kX.later gg
      have kY := kY.later gg
      have hx := hx.below gg
      have hy := hy.below gg
      have hN := hN.below gg
      have hr := hr.below gg
      obtain ⟨qg, qa, qn, qc, rfl⟩ := hq.shape4
      clear gg
      refine hK.out _ _ (.inr ⟨kX, kY⟩) ?_
      clear hK K
      refine U_step (j := 7) (by kernel_rfl) rfl (fun K hK => ?_)
      go_simp
      have hc := hid (told_fn hq (by have := dlen_abs_add x' (-y'); rw [Int.natAbs_neg] at this; omega) hN (fun x hm => by simp at hm; rcases hm with rfl | rfl <;> omega) (by simp))
      (with_reducible refine hc.out.mono ?_); rintro e v4 ⟨rfl, gg⟩
      clear hc
      have hb := hb.trans (gg.mono hb.size)
      have kX := kX.later gg
      have kY := kY.later gg
      have hx := hx.below gg
      have hy := hy.below gg
      have hN := hN.below gg
      have hr := hr.below gg
      have hq := hq.below gg
      clear gg
      refine hK.out _ _ (.inr ⟨kX, kY⟩) ?_
      clear hK K
      refine U_take (i := 8) (v := .string ⟨(toldRes (x' + -y') [x', y']).1.toArray⟩) rfl (by kernel_rfl) (by kernel_rfl) (by kernel_rfl) (by kernel_rfl) (by kernel_rfl) (fun _ _ _ h => h) (.inl ⟨rfl, fun u hu => (by go_simp)⟩) ⟨kX, kY⟩ ?_
      refine U_take (i := 9) (v := .int .i64 (toldRes (x' + -y') [x', y']).2) rfl (by kernel_rfl) (by kernel_rfl) (by kernel_rfl) (by kernel_rfl) (by kernel_rfl) (fun _ _ _ h => h) (.inl ⟨rfl, fun u hu => (by go_simp)⟩) ⟨kX, kY⟩ ?_
      refine U_step (j := 10) (by kernel_rfl) rfl (fun K hK => ?_)
      go_simp
      refine hK.out _ _ (.inl rfl) ?_
      clear hK K
      refine U_step (j := 11) (by kernel_rfl) rfl (fun K hK => ?_)
      go_simp
      refine hK.out _ _ (.inl rfl) ?_
      clear hK K
      refine U_done (by kernel_rfl) ?_ _
      have HR := hid (show subRes a b = toldRes (x' + -y') [x', y'] from (HTWO.out (x' + -y') (pVal a - pVal b) (fun e1 e2 => by rw [e1, e2]; omega)).symm)
      clear HTWO
      go_wp2
      go_ret2
      exact ⟨by rw [HR.out]; rfl, hb⟩
end Go.Proofs.YtkhgoeippamobaaGreatDoor
/-
  The reference: Compare. Compare of big.
-/
namespace Go.Proofs.YtkhgoeippamobaaGreatDoor
open Go.RowKit
/-- what Compare answers -/
def cmpRes (a b : List UInt8) : Int × Int :=
  if pOK a = true ∧ pOK b = true then if big600 ≤ (pVal a).natAbs ∨ big600 ≤ (pVal b).natAbs then (0, 4) else (cmpI (pVal a) (pVal b), 0) else (0, 2)
set_option maxRecDepth 100000 in
set_option maxHeartbeats 4000000 in
theorem cmpR_fn (a b : List UInt8) (ha : a.length ≤ 2000000) (hb : b.length ≤ 2000000) (w : World) :
    Calls Tryz.prog 23 #[.string ⟨a.toArray⟩, .string ⟨b.toArray⟩] w fun e w' => e = .returned (.tuple #[.int .i64 (cmpRes a b).1, .int .i64 (cmpRes a b).2]) ∧ Below w.heap.size w w' := by
  have hB := hid (both_fn a b ha hb w)
  unfold BothQ at hB
  clear ha hb
  by_cases hok : pOK a = true ∧ pOK b = true
  case neg =>
    have hf : (pOK a && pOK b) = false := by
      cases h1 : pOK a <;> cases h2 : pOK b <;> simp_all
    have HR := hid (show cmpRes a b = (0, 2) by unfold cmpRes; rw [if_neg hok])
    rw [hf] at hB
    have hB := hid hB.out
    clear hok hf
    go_enter Tryz.func23, Tryz.ntmps23
    go_wp2_with fail
    (with_reducible refine hB.out.mono ?_); rintro e w1 ⟨g1, s1, n1, c1, g2, s2, n2, c2, rfl, hb1, -⟩
    have hsz := hb1.size
    go_wp2
    go_ret2
    exact ⟨by rw [HR.out]; rfl, (hb1.alloc hsz _).alloc (by simp; omega) _⟩
  case pos =>
    have HR := hid (show cmpRes a b = if big600 ≤ (pVal a).natAbs ∨ big600 ≤ (pVal b).natAbs then (0, 4) else (cmpI (pVal a) (pVal b), 0) by unfold cmpRes; rw [if_pos hok])
    obtain ⟨oa, ob⟩ := hok
    rw [oa, ob] at hB
    have hB := hid hB.out
    go_enter Tryz.func23, Tryz.ntmps23
    go_wp2_with fail
    (with_reducible refine hB.out.mono ?_); rintro e w1 ⟨g1, s1, n1, c1, g2, s2, n2, c2, rfl, hb, hn⟩
    obtain ⟨⟨x', hx, hlx, hcx⟩, ⟨y', hy, hly, hcy⟩⟩ := hn (by first | rfl | trivial)
    have HAB := hid (anyBig_two hcx hcy)
    have HCX := hid hcx.small
    have HCY := hid hcy.small
    clear hn hB oa ob hcx hcy
    have kX := Blk.new w1 #[.bool g1, .slice s1 n1 c1] 56
    have kY := Blk.new (w1.alloc (.cells #[.bool g1, .slice s1 n1 c1] 56)) #[.bool g2, .slice s2 n2 c2] 56
    simp only [World.size_alloc] at kY
    have kX := kX.alloc (.cells #[.bool g2, .slice s2 n2 c2] 56)
    have gg : Below w1.heap.size w1 ((w1.alloc (.cells #[.bool g1, .slice s1 n1 c1] 56)).alloc (.cells #[.bool g2, .slice s2 n2 c2] 56)) := ((Below.refl _ _).alloc (Nat.le_refl _) _).alloc (by simp) _
    have hx := hx.below gg
    have hy := hy.below gg
    have hb := hb.trans (gg.mono hb.size)
    clear gg
    have kN := Blk.new ((w1.alloc (.cells #[.bool g1, .slice s1 n1 c1] 56)).alloc (.cells #[.bool g2, .slice s2 n2 c2] 56)) #[.bool g1, .slice s1 n1 c1, .bool g2, .slice s2 n2 c2] 56
    have gg : Below ((w1.alloc (.cells #[.bool g1, .slice s1 n1 c1] 56)).alloc (.cells #[.bool g2, .slice s2 n2 c2] 56)).heap.size ((w1.alloc (.cells #[.bool g1, .slice s1 n1 c1] 56)).alloc (.cells #[.bool g2, .slice s2 n2 c2] 56)) (((w1.alloc (.cells #[.bool g1, .slice s1 n1 c1] 56)).alloc (.cells #[.bool g2, .slice s2 n2 c2] 56)).alloc (.cells #[.bool g1, .slice s1 n1 c1, .bool g2, .slice s2 n2 c2] 56)) := (Below.refl _ _).alloc (Nat.le_refl _) _
    have hx := hx.below gg
    have hy := hy.below gg
    have hb := hb.trans (gg.mono hb.size)
    have hN := Nums.mk2 kN hx hy
    have kX := kX.later gg
    have kY := kY.later gg
    simp only [World.size_alloc] at hN
    have hsc := hid (short_fn hN (fun x hm => by simp at hm; rcases hm with rfl | rfl <;> omega) (by simp))
    rw [HAB.out] at hsc
    clear gg kN hN
    have kX0 := kX
    obtain ⟨⟨p1, p2⟩, q1, q2⟩ := kX.two
    obtain ⟨⟨p3, p4⟩, q3, q4⟩ := kY.two
    go_wp2_with fail
    (with_reducible refine hsc.out.mono ?_); rintro e w2 ⟨rfl, gg⟩
    have hx := hx.below gg
    have hy := hy.below gg
    have hb := hb.trans (gg.mono hb.size)
    have kX := kX.later gg
    have kY := kY.later gg
    clear p1 p2 p3 p4 q1 q2 q3 q4 hsc gg kX0
    by_cases hbig : big600 ≤ (pVal a).natAbs ∨ big600 ≤ (pVal b).natAbs
    · have hT : (!(decide (big600 ≤ (pVal a).natAbs) || decide (big600 ≤ (pVal b).natAbs))) = false := by
        rcases hbig with h | h <;> rw [decide_eq_true h] <;> simp
      have HR2 := hid (show cmpRes a b = (0, 4) by rw [HR.out, if_pos hbig])
      rw [hT]
      clear hbig hT
      go_wp2
      go_ret2
      exact ⟨by rw [HR2.out]; rfl, hb⟩
    · have hT : (!(decide (big600 ≤ (pVal a).natAbs) || decide (big600 ≤ (pVal b).natAbs))) = true := by
        rw [decide_eq_false (show ¬ big600 ≤ (pVal a).natAbs by omega), decide_eq_false (show ¬ big600 ≤ (pVal b).natAbs by omega)]; rfl
      have HR2 := hid (show cmpRes a b = (cmpI x' y', 0) by rw [HR.out, if_neg hbig, HCX.out (by omega), HCY.out (by omega)])
      have HO := hid (orderR_fn hx hy (by omega) (by omega))
      obtain ⟨⟨p1, p2⟩, q1, q2⟩ := kX.two
      obtain ⟨⟨p3, p4⟩, q3, q4⟩ := kY.two
      rw [hT]
      clear hbig hT
      go_wp2_with fail
      (with_reducible refine HO.out.mono ?_); rintro e w3 ⟨rfl, gg⟩
      have hb := hb.trans (gg.mono hb.size)
      go_wp2
      go_ret2
      exact ⟨by rw [HR2.out]; rfl, hb⟩
end Go.Proofs.YtkhgoeippamobaaGreatDoor
/-
  Compare of big.
-/
namespace Go.Proofs.YtkhgoeippamobaaGreatDoor
open Go.RowKit
def sgnK (k : Nat) (neg : Bool) : Int := if neg then -1 else if 0 < k then 1 else 0
theorem sign_raw {a : Option Addr} {k cap : Nat} {neg : Bool} {w : World} (_hk : k ≤ 1000000) :
    Calls Tryz.prog 70 #[.agg #[.slice a k cap, .bool neg, .bool false]] w fun e w' => e = .returned (.int .i64 (sgnK k neg)) ∧ Below w.heap.size w w' := by
  have hb : Below w.heap.size w (w.alloc (.cells #[.slice a k cap, .bool neg, .bool false] 49)) := (Below.refl _ _).alloc (Nat.le_refl _) _
  have k1 := Blk.new w #[.slice a k cap, .bool neg, .bool false] 49
  cases neg
  · by_cases h0 : 0 < k
    · have HS := hid (show sgnK k false = 1 by unfold sgnK; rw [if_neg (by decide), if_pos h0])
      go_enter Tryz.func70, Tryz.ntmps70
      go_wp2
      go_ret
      exact ⟨by rw [HS.out]; rfl, hb⟩
    · have HS := hid (show sgnK k false = 0 by unfold sgnK; rw [if_neg (by decide), if_neg h0])
      go_enter Tryz.func70, Tryz.ntmps70
      go_wp2
      go_ret
      exact ⟨by rw [HS.out]; rfl, hb⟩
  · have HS := hid (show sgnK k true = -1 by unfold sgnK; rw [if_pos rfl])
    go_enter Tryz.func70, Tryz.ntmps70
    go_wp2
    go_ret
    exact ⟨by rw [HS.out]; rfl, hb⟩
/-- held between -1 and 1 -/
def clampI (c : Int) : Int := if c < -1 then -1 else if 1 < c then 1 else c
theorem clamp_max (c : Int) : max (-1) (min c 1) = clampI c := by
  by_cases h1 : c < -1
  · rw [clampI, if_pos h1]; omega
  · by_cases h2 : 1 < c
    · rw [clampI, if_neg h1, if_pos h2]; omega
    · rw [clampI, if_neg h1, if_neg h2]; omega
theorem clamp_diff {x y : Int} (h : (x < 0) ↔ ¬ (y < 0)) : clampI (sgnK (nlen x.natAbs) (decide (x < 0)) - sgnK (nlen y.natAbs) (decide (y < 0))) = cmpI x y := by
  have h1 := nlen_eq_zero x.natAbs
  have h2 := nlen_eq_zero y.natAbs
  unfold clampI cmpI sgnK
  by_cases hx : x < 0
  · have hy : ¬ y < 0 := h.1 hx
    rw [decide_eq_true hx, decide_eq_false hy, if_pos rfl, if_neg (by decide : ¬ (false = true)), if_pos (show x < y by omega)]
    split <;> split <;> (try split) <;> omega
  · have hy : y < 0 := by
      by_cases hy : y < 0
      · exact hy
      · exact absurd (h.2 hy) hx
    rw [decide_eq_false hx, decide_eq_true hy, if_pos rfl, if_neg (by decide : ¬ (false = true)), if_neg (show ¬ x < y by omega), if_pos (show y < x by omega)]
    split <;> split <;> (try split) <;> omega
theorem clamp_neg {x y : Int} (hx : x < 0) (hy : y < 0) : clampI (-(cmpN x.natAbs y.natAbs)) = cmpI x y := by
  unfold clampI cmpI cmpN
  repeat' split
  all_goals omega
theorem clamp_pos {x y : Int} (hx : ¬ x < 0) (hy : ¬ y < 0) : clampI (cmpN x.natAbs y.natAbs) = cmpI x y := by
  unfold clampI cmpI cmpN
  repeat' split
  all_goals omega
theorem cmpN_le (m n : Nat) : -1 ≤ cmpN m n ∧ cmpN m n ≤ 1 := by
  unfold cmpN
  repeat' split
  all_goals omega
theorem Blk.set1 {w : World} {b : Nat} {x : Value} {t : TypeId} (h : Blk w b #[x] t) (x' : Value) : Blk (w.setCell ⟨b, 0, none⟩ x') b #[x'] t := by
  have h0 : w.heap[b]? = _ := h
  exact heap_setCell_same w b 0 _ t x' h0
theorem Blk.set1_ne {w : World} {b c : Nat} {cs : Array Value} {t : TypeId} (h : Blk w c cs t) (hne : c ≠ b) (o : Nat) (x : Value) : Blk (w.setCell ⟨b, o, none⟩ x) c cs t :=
  (Below.heap_setCell _ _ _ _ hne).trans h
set_option maxRecDepth 100000 in
set_option maxHeartbeats 4000000 in
theorem cmp1 {v u : Value} {x y : Int} {w : World} {c : Nat} (hv : IntV w v x) (hu : IntV w u y) (hx : nlen x.natAbs ≤ 1000) (hy : nlen y.natAbs ≤ 1000) (k0 : Blk w c #[.int .i64 0] 3) :
    Calls Tryz.prog 68 #[v, u, .pointer (some ⟨c, 0, none⟩)] w fun e w' => ∃ s, e = .returned s ∧ RNum w' s 0 ∧ Below c w w' ∧ Blk w' c #[.int .i64 (cmpI x y)] 3 := by
  obtain ⟨a1, c1, rfl, h1⟩ := hv.shape
  obtain ⟨a2, c2, rfl, h2⟩ := hu.shape
  have hlt := k0.lt
  have k1 := Blk.new w #[.slice a1 (nlen x.natAbs) c1, .bool (decide (x < 0)), .bool false] 49
  have k2 := Blk.new (w.alloc (.cells #[.slice a1 (nlen x.natAbs) c1, .bool (decide (x < 0)), .bool false] 49)) #[.slice a2 (nlen y.natAbs) c2, .bool (decide (y < 0)), .bool false] 49
  have k3 := Blk.new ((w.alloc (.cells #[.slice a1 (nlen x.natAbs) c1, .bool (decide (x < 0)), .bool false] 49)).alloc (.cells #[.slice a2 (nlen y.natAbs) c2, .bool (decide (y < 0)), .bool false] 49)) #[.slice none 0 0, .bool false, .bool false] 49
  simp only [World.size_alloc] at k2 k3
  have k1 := (k1.alloc (.cells #[.slice a2 (nlen y.natAbs) c2, .bool (decide (y < 0)), .bool false] 49)).alloc (.cells #[.slice none 0 0, .bool false, .bool false] 49)
  have k2 := k2.alloc (.cells #[.slice none 0 0, .bool false, .bool false] 49)
  have k0 := ((k0.alloc (.cells #[.slice a1 (nlen x.natAbs) c1, .bool (decide (x < 0)), .bool false] 49)).alloc (.cells #[.slice a2 (nlen y.natAbs) c2, .bool (decide (y < 0)), .bool false] 49)).alloc (.cells #[.slice none 0 0, .bool false, .bool false] 49)
  have hb0 : Below w.heap.size w (((w.alloc (.cells #[.slice a1 (nlen x.natAbs) c1, .bool (decide (x < 0)), .bool false] 49)).alloc (.cells #[.slice a2 (nlen y.natAbs) c2, .bool (decide (y < 0)), .bool false] 49)).alloc (.cells #[.slice none 0 0, .bool false, .bool false] 49)) := (((Below.refl _ _).alloc (Nat.le_refl _) _).alloc (by simp) _).alloc (by simp; omega) _
  have hcmp := hid (compare_nat (h1.below hb0) (h2.below hb0) (by omega) (by omega))
  have hrg := cmpN_le x.natAbs y.natAbs
  have HD := hid (clamp_diff (x := x) (y := y))
  have HN := hid (clamp_neg (x := x) (y := y))
  have HP := hid (clamp_pos (x := x) (y := y))
  have hb := hb0.mono (show c ≤ w.heap.size by omega)
  have hxy : x < 0 ∨ ¬ x < 0 := by omega
  generalize cmpN x.natAbs y.natAbs = C at *
  generalize nlen x.natAbs = n1 at *
  generalize nlen y.natAbs = n2 at *
  go_enter Tryz.func68, Tryz.ntmps68
  go_wp2_with fail
  generalize ((w.alloc (.cells #[.slice a1 n1 c1, .bool (decide (x < 0)), .bool false] 49)).alloc (.cells #[.slice a2 n2 c2, .bool (decide (y < 0)), .bool false] 49)).alloc (.cells #[.slice none 0 0, .bool false, .bool false] 49) = w0 at *
  clear hb0 h1 h2 hv hu
  obtain ⟨⟨p1, p2, p3⟩, _⟩ := k1.three
  obtain ⟨⟨p4, p5, p6⟩, _⟩ := k2.three
  obtain ⟨⟨t1, t2, t3⟩, t4, t5, t6⟩ := k3.three
  have p7 := k0.cell 0
  have p8 := k0.free 0
  go_wp2_with fail
  (with_reducible refine hcmp.out.mono ?_); rintro e w' ⟨rfl, rfl⟩
  have k0 := k0.set1 (.int .i64 C)
  have k1 := k1.set1_ne (b := c) (by omega) 0 (.int .i64 C)
  have k2 := k2.set1_ne (b := c) (by omega) 0 (.int .i64 C)
  have k3 := k3.set1_ne (b := c) (by omega) 0 (.int .i64 C)
  have hb := hb.setCell (p := ⟨c, 0, none⟩) (Nat.le_refl _) (.int .i64 C)
  clear hcmp
  have r7 := k0.cell 0
  have r8 := k0.free 0
  obtain ⟨⟨r1, r2, r3⟩, _⟩ := k1.three
  obtain ⟨⟨r4, r5, r6⟩, _⟩ := k2.three
  obtain ⟨⟨r9, r10, r11⟩, r12, r13, r14⟩ := k3.three
  generalize hs1 : decide (x < 0) = s1 at *
  generalize hs2 : decide (y < 0) = s2 at *
  by_cases hne : s1 = s2
  · subst hne
    have hsg : (s1 != s1) = false := by simp
    cases s1
    · have k0' := k0
      have HX := hid (show max (-1) (min C 1) = cmpI x y by rw [clamp_max, HP.out (by have := of_decide_eq_false hs1; omega) (by have := of_decide_eq_false hs2; omega)])
      have k0 := k0.set1 (.int .i64 (max (-1) (min C 1)))
      have k3 := k3.set1_ne (b := c) (by omega) 0 (.int .i64 (max (-1) (min C 1)))
      have hb := hb.setCell (p := ⟨c, 0, none⟩) (Nat.le_refl _) (.int .i64 (max (-1) (min C 1)))
      obtain ⟨⟨q1, q2, q3⟩, q4, q5, q6⟩ := k3.three
      clear hs1 hs2
      go_wp2
      have k0 := ((k0.set1_ne (b := w.heap.size + 1 + 1) (by omega) 0 (.slice none 0 0)).set1_ne (b := w.heap.size + 1 + 1) (by omega) 1 (.bool false)).set1_ne (b := w.heap.size + 1 + 1) (by omega) 2 (.bool false)
      have k3 := k3.set3 (.slice none 0 0) (.bool false) (.bool false)
      have hb := ((hb.setCell (p := ⟨w.heap.size + 1 + 1, 0, none⟩) (by simp; omega) (.slice none 0 0)).setCell (p := ⟨w.heap.size + 1 + 1, 1, none⟩) (by simp; omega) (.bool false)).setCell (p := ⟨w.heap.size + 1 + 1, 2, none⟩) (by simp; omega) (.bool false)
      obtain ⟨⟨z1, z2, z3⟩, _⟩ := k3.three
      rw [HX.out] at k0 k3 hb z1 z2 z3 ⊢
      exact bodyPost_ret (v := .agg #[.slice none 0 0, .bool false, .bool false]) (by simp [results, Tryz.results68, go_sem, z1, z2, z3]) rfl ⟨_, rfl, RNum.of_int ⟨.slice none 0 0, rfl, nat_zero _⟩ (by decide), hb, k0⟩
    · have k0' := k0
      have k0 := k0.set1 (.int .i64 (-C))
      have k3 := k3.set1_ne (b := c) (by omega) 0 (.int .i64 (-C))
      have hb := hb.setCell (p := ⟨c, 0, none⟩) (Nat.le_refl _) (.int .i64 (-C))
      have u7 := k0.cell 0
      have u8 := k0.free 0
      obtain ⟨⟨u9, u10, u11⟩, u12, u13, u14⟩ := k3.three
      have HX := hid (show max (-1) (min (-C) 1) = cmpI x y by rw [clamp_max, HN.out (by have := of_decide_eq_true hs1; omega) (by have := of_decide_eq_true hs2; omega)])
      have k0 := k0.set1 (.int .i64 (max (-1) (min (-C) 1)))
      have k3 := k3.set1_ne (b := c) (by omega) 0 (.int .i64 (max (-1) (min (-C) 1)))
      have hb := hb.setCell (p := ⟨c, 0, none⟩) (Nat.le_refl _) (.int .i64 (max (-1) (min (-C) 1)))
      obtain ⟨⟨q1, q2, q3⟩, q4, q5, q6⟩ := k3.three
      clear hs1 hs2
      go_wp2
      have k0 := ((k0.set1_ne (b := w.heap.size + 1 + 1) (by omega) 0 (.slice none 0 0)).set1_ne (b := w.heap.size + 1 + 1) (by omega) 1 (.bool false)).set1_ne (b := w.heap.size + 1 + 1) (by omega) 2 (.bool false)
      have k3 := k3.set3 (.slice none 0 0) (.bool false) (.bool false)
      have hb := ((hb.setCell (p := ⟨w.heap.size + 1 + 1, 0, none⟩) (by simp; omega) (.slice none 0 0)).setCell (p := ⟨w.heap.size + 1 + 1, 1, none⟩) (by simp; omega) (.bool false)).setCell (p := ⟨w.heap.size + 1 + 1, 2, none⟩) (by simp; omega) (.bool false)
      obtain ⟨⟨z1, z2, z3⟩, _⟩ := k3.three
      rw [HX.out] at k0 k3 hb z1 z2 z3 ⊢
      exact bodyPost_ret (v := .agg #[.slice none 0 0, .bool false, .bool false]) (by simp [results, Tryz.results68, go_sem, z1, z2, z3]) rfl ⟨_, rfl, RNum.of_int ⟨.slice none 0 0, rfl, nat_zero _⟩ (by decide), hb, k0⟩
  · have hsg : (s1 == s2) = false := by simpa using hne
    have HX0 := hid (show max (-1) (min (sgnK n1 s1 - sgnK n2 s2) 1) = cmpI x y by
      rw [clamp_max]
      refine HD.out ?_
      cases s1 <;> cases s2 <;> first
        | exact absurd rfl hne
        | (have h1 := of_decide_eq_true hs2; have h2 := of_decide_eq_false hs1; constructor <;> intro _ <;> omega)
        | (have h1 := of_decide_eq_true hs1; have h2 := of_decide_eq_false hs2; constructor <;> intro _ <;> omega))
    clear hs1 hs2 HD HN HP hxy
    go_wp2_with fail
    clear p1 p2 p3 p4 p5 p6 p7 p8 r1 r2 r3 r4 r5 r6 r7 r8 r9 r10 r11 r12 r13 r14 t1 t2 t3 t4 t5 t6
    generalize w0.setCell ⟨c, 0, none⟩ (.int .i64 C) = w1 at *
    have kA := k1.drew
    have kB := k2.drew
    have k0 := k0.drew
    have k3 := k3.drew
    have hb := hb.drew
    refine U_begin (late := fun i => decide (5 ≤ i)) (S := fun u => Blk u w.heap.size #[.slice a1 n1 c1, .bool s1, .bool false] 49 ∧ Blk u (w.heap.size + 1) #[.slice a2 n2 c2, .bool s2, .bool false] 49) (by kernel_rfl) ?_
    generalize w1.drew = wd at *
    refine U_take (i := 0) (v := .agg #[.slice a1 n1 c1, .bool s1, .bool false]) rfl (by kernel_rfl) (by kernel_rfl) (by kernel_rfl) (by kernel_rfl) (by kernel_rfl) (fun _ _ _ h => h) (.inl ⟨rfl, fun u hu => (by obtain ⟨⟨h1, h2, h3⟩, _⟩ := hu.1.three; go_simp)⟩) ⟨kA, kB⟩ ?_
    refine U_take (i := 2) (v := .agg #[.slice a2 n2 c2, .bool s2, .bool false]) rfl (by kernel_rfl) (by kernel_rfl) (by kernel_rfl) (by kernel_rfl) (by kernel_rfl) (fun _ _ _ h => h) (.inl ⟨rfl, fun u hu => (by obtain ⟨⟨h1, h2, h3⟩, _⟩ := hu.2.three; go_simp)⟩) ⟨kA, kB⟩ ?_
    refine U_step (j := 1) (by kernel_rfl) rfl (fun K hK => ?_)
    go_simp
    have hc := fun w => hid (sign_raw (a := a1) (k := n1) (cap := c1) (neg := s1) (w := w) (by omega))
    (with_reducible refine (hc _).out.mono ?_); rintro e v1 ⟨rfl, gg⟩
    clear hc
    have hb := hb.trans (gg.mono (by have := k0.lt; omega))
    have kA := kA.later gg
    have kB := kB.later gg
    have k0 := k0.later gg
    have k3 := k3.later gg
    refine hK.out _ _ (.inr ⟨kA, kB⟩) ?_
    clear hK K gg
    refine U_step (j := 3) (by kernel_rfl) rfl (fun K hK => ?_)
    go_simp
    have hc := fun w => hid (sign_raw (a := a2) (k := n2) (cap := c2) (neg := s2) (w := w) (by omega))
    (with_reducible refine (hc _).out.mono ?_); rintro e v2 ⟨rfl, gg⟩
    clear hc
    have hb := hb.trans (gg.mono (by have := k0.lt; omega))
    have kA := kA.later gg
    have kB := kB.later gg
    have k0 := k0.later gg
    have k3 := k3.later gg
    refine hK.out _ _ (.inr ⟨kA, kB⟩) ?_
    clear hK K gg
    have hq1 : -1 ≤ sgnK n1 s1 ∧ sgnK n1 s1 ≤ 1 := by unfold sgnK; split <;> (try split) <;> omega
    have hq2 : -1 ≤ sgnK n2 s2 ∧ sgnK n2 s2 ≤ 1 := by unfold sgnK; split <;> (try split) <;> omega
    obtain ⟨hq1, hq3⟩ := hq1
    obtain ⟨hq2, hq4⟩ := hq2
    generalize sgnK n1 s1 = X1 at *
    generalize sgnK n2 s2 = X2 at *
    refine U_step (j := 4) (by kernel_rfl) rfl (fun K hK => ?_)
    go_simp
    refine hK.out _ _ (.inr ⟨kA, kB⟩) ?_
    clear hK K
    have p7 := k0.cell 0
    have p8 := k0.free 0
    obtain ⟨⟨p9, p10, p11⟩, p12, p13, p14⟩ := k3.three
    refine U_step (j := 5) (by kernel_rfl) rfl (fun K hK => ?_)
    go_simp
    refine hK.out _ _ (.inl rfl) ?_
    clear hK K
    refine U_done (by kernel_rfl) ?_ _
    have k0 := k0.set1 (.int .i64 (X1 - X2))
    have k3 := k3.set1_ne (b := c) (by omega) 0 (.int .i64 (X1 - X2))
    have hb := hb.setCell (p := ⟨c, 0, none⟩) (Nat.le_refl _) (.int .i64 (X1 - X2))
    have u7 := k0.cell 0
    have u8 := k0.free 0
    obtain ⟨⟨u9, u10, u11⟩, u12, u13, u14⟩ := k3.three
    have HX := HX0
    have k0 := k0.set1 (.int .i64 (max (-1) (min (X1 - X2) 1)))
    have k3 := k3.set1_ne (b := c) (by omega) 0 (.int .i64 (max (-1) (min (X1 - X2) 1)))
    have hb := hb.setCell (p := ⟨c, 0, none⟩) (Nat.le_refl _) (.int .i64 (max (-1) (min (X1 - X2) 1)))
    obtain ⟨⟨q1, q2, q3⟩, q4, q5, q6⟩ := k3.three
    go_wp2
    have k0 := ((k0.set1_ne (b := w.heap.size + 1 + 1) (by omega) 0 (.slice none 0 0)).set1_ne (b := w.heap.size + 1 + 1) (by omega) 1 (.bool false)).set1_ne (b := w.heap.size + 1 + 1) (by omega) 2 (.bool false)
    have k3 := k3.set3 (.slice none 0 0) (.bool false) (.bool false)
    have hb := ((hb.setCell (p := ⟨w.heap.size + 1 + 1, 0, none⟩) (by simp; omega) (.slice none 0 0)).setCell (p := ⟨w.heap.size + 1 + 1, 1, none⟩) (by simp; omega) (.bool false)).setCell (p := ⟨w.heap.size + 1 + 1, 2, none⟩) (by simp; omega) (.bool false)
    obtain ⟨⟨z1, z2, z3⟩, _⟩ := k3.three
    rw [HX.out] at k0 k3 hb z1 z2 z3 ⊢
    exact bodyPost_ret (v := .agg #[.slice none 0 0, .bool false, .bool false]) (by simp [results, Tryz.results68, go_sem, z1, z2, z3]) rfl ⟨_, rfl, RNum.of_int ⟨.slice none 0 0, rfl, nat_zero _⟩ (by decide), hb, k0⟩
/-- Compare of big -/
theorem bigCmp_fn (a b : List UInt8) (ha : a.length ≤ 1000000000) (hb : b.length ≤ 1000000000) (w : World) :
    Calls Tryz.prog 22 #[.string ⟨a.toArray⟩, .string ⟨b.toArray⟩] w fun e w' => e = .returned (.tuple #[.int .i64 (cmpRes a b).1, .int .i64 (cmpRes a b).2]) ∧ Below w.heap.size w w' := by
  have k0 := Blk.new w #[.int .i64 0] 3
  have hb0 : Below w.heap.size w (w.alloc (.cells #[.int .i64 0] 3)) := (Below.refl _ _).alloc (Nat.le_refl _) _
  have hc := hid (two_fnJ a b ha hb 55 68 #[] #[.pointer (some ⟨w.heap.size, 0, none⟩)] 0 0 (w.alloc (.cells #[.int .i64 0] 3)) w.heap.size hb0.size
    (fun u => Blk u w.heap.size #[.int .i64 0] 3) (fun u => Blk u w.heap.size #[.int .i64 (cmpI (pVal a) (pVal b))] 3)
    (fun w' h => k0.later h) (fun w1 w2 h h2 => h.later h2)
    (enters_of Tryz.func55 (by kernel_rfl) rfl) (enters_of Tryz.func68 (by kernel_rfl) rfl)
    (fun _ _ w1 v u _ h1 h2 => by
      obtain ⟨n, lg, h1, _⟩ := h1
      obtain ⟨m, lg', h2, _⟩ := h2
      exact neither_fn h1 h2)
    (fun _ _ _ _ _ w1 v u h0 h1 h3 h2 h4 => cmp1 h1 h2 h3 h4 (k0.later h0)))
  have hend : JIf (twoDone a b 0) ((cmpRes a b).1 = cmpI (pVal a) (pVal b)) ((cmpRes a b).1 = 0) ∧ (twoRes a b 0 0).2 = (cmpRes a b).2 := by
    unfold twoDone twoRes cmpRes JIf
    cases h1 : pOK a <;> cases h2 : pOK b <;> simp
    by_cases h3 : big600 ≤ (pVal a).natAbs
    · simp [h3]
      try (intro g1 g2; omega)
    · by_cases h4 : big600 ≤ (pVal b).natAbs
      · simp [h3, h4]
        try (intro g1 g2; omega)
      · simp [h3, h4]
        unfold resOf
        rw [if_pos (by have := big600_pos; simpa using this)]
  obtain ⟨hj, he⟩ := hend
  have HJ := hid hj
  have HE := hid he
  clear hj he ha hb
  cases htd : twoDone a b 0 with
  | true =>
    have HC := hid (HJ.out.1 htd)
    rw [htd] at hc
    have hc := hid hc.out
    go_enter Tryz.func22, Tryz.ntmps22
    go_wp2_with fail
    (with_reducible refine hc.out.mono ?_); rintro e w1 ⟨rfl, hb1, hj1⟩
    have k1 := hj1.1 rfl
    have p1 := k1.cell 0
    clear hj1 htd HJ
    go_wp2
    go_ret2
    exact ⟨by rw [HC.out, ← HE.out]; rfl, hb0.trans hb1⟩
  | false =>
    have HC := hid (HJ.out.2 htd)
    rw [htd] at hc
    have hc := hid hc.out
    go_enter Tryz.func22, Tryz.ntmps22
    go_wp2_with fail
    (with_reducible refine hc.out.mono ?_); rintro e w1 ⟨rfl, hb1, hj1⟩
    have k1 := hj1.2 rfl
    have p1 := k1.cell 0
    clear hj1 htd HJ
    go_wp2
    go_ret2
    exact ⟨by rw [HC.out, ← HE.out]; rfl, hb0.trans hb1⟩
end Go.Proofs.YtkhgoeippamobaaGreatDoor
