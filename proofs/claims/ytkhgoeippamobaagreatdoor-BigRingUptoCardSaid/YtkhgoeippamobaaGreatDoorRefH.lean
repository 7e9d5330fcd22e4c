/-
  The reference: digits of a base.
-/
import Derived.Test.YtkhgoeippamobaaGreatDoorTimesD
namespace Go.Proofs.YtkhgoeippamobaaGreatDoor
open Go.RowKit
/-- what the reference reads: a number too long may be cut -/
def Near (n N : Nat) : Prop := n = N ∨ (big600 ≤ n ∧ big600 ≤ N)
theorem big_1200 (n : Nat) (h : 1200 < dlen 10 n) : big600 ≤ n := by
  have h1 := digits_600 n
  rcases Nat.lt_or_ge n big600 with h2 | h2
  · have := h1.2 h2; omega
  · exact h2
theorem dlen_mono (m n : Nat) (h : m ≤ n) : dlen 10 m ≤ dlen 10 n := (dlen_le_iff 10 m _ (by decide)).2 (Nat.lt_of_le_of_lt h (dlen_lt 10 n (by decide)))
theorem dlen_step (n b c : Nat) (hb : b ≤ 36) (hc : c ≤ 36) : dlen 10 (n * b + c) ≤ dlen 10 n + 2 := by
  rw [dlen_le_iff 10 _ _ (by decide)]
  have h1 := dlen_lt 10 n (by decide)
  have h2 := Nat.mul_le_mul_left n hb
  rw [Nat.pow_add]
  generalize 10 ^ dlen 10 n = X at h1 ⊢
  omega
/-- what 'digits' answers -/
def DigP (b : Nat) (l : List UInt8) (w : World) (e : Ending) (w' : World) : Prop :=
  ∃ v n, e = .returned (.tuple #[v, .bool (rOK b l)]) ∧ Below w.heap.size w w' ∧ OwnDec w' w.heap.size v n ∧ dlen 10 n ≤ 2000 ∧ (rOK b l = true → Near n (numOf b l))
theorem near_step (n N b c : Nat) (hb : 2 ≤ b) (h : Near n N) : Near (n * b + c) (N * b + c) := by
  rcases h with rfl | ⟨h1, h2⟩
  · exact .inl rfl
  · right
    have h3 := Nat.le_mul_of_pos_right n (show 0 < b by omega)
    have h4 := Nat.le_mul_of_pos_right N (show 0 < b by omega)
    omega
theorem near_keep (n N b c : Nat) (hb : 2 ≤ b) (h : Near n N) (hn : big600 ≤ n) : Near n (N * b + c) := by
  right
  have h4 := Nat.le_mul_of_pos_right N (show 0 < b by omega)
  rcases h with rfl | ⟨h1, h2⟩ <;> omega
set_option maxRecDepth 100000 in
set_option maxHeartbeats 4000000 in
theorem digits_fn (l : List UInt8) (hl : l.length ≤ 1000000000) (b : Nat) (hb2 : 2 ≤ b) (hb36 : b ≤ 36) (w : World) :
    Calls Tryz.prog 127 #[.string ⟨l.toArray⟩, .int .i64 b] w (DigP b l w) := by
  have hsz : (⟨l.toArray⟩ : ByteArray).size = l.length := Lib.size_mk _
  go_enter Tryz.func127, Tryz.ntmps127
  go_wp2
  go_loopw [6, 7, 12] (fun sv zv iv wr => ∃ (i n : Nat) (z : Bool), iv = .int .i64 i ∧ i ≤ l.length ∧ OwnDec wr w.heap.size sv n ∧ zv = .bool z ∧ (z = true → n = 0 ∧ numOf b (l.take i) = 0) ∧ Near n (numOf b (l.take i)) ∧ dlen 10 n ≤ 1202 ∧ (∀ j (h : j < l.length), j < i → valOf (l[j]'h) < b) ∧ Below w.heap.size w wr) (fun _ _ iv _ => l.length - (intOf iv).toNat)
  case atStart => exact ⟨0, 0, true, rfl, Nat.zero_le _, Own.nil, rfl, fun _ => ⟨rfl, rfl⟩, .inl rfl, by decide, fun j _ h => absurd h (Nat.not_lt_zero _), Below.refl _ _⟩
  case round =>
    obtain ⟨i, n, z, rfl, hi, hown, rfl, hz, hnear, hdl, hall, hbr⟩ := hrel
    obtain ⟨a, cap, hv⟩ := hown.dec.shape
    subst hv
    have HZ := hid hz
    have HN := hid hnear
    have HA := hid hall
    have hszr := hbr.size
    clear hz hnear hall
    by_cases hlt : i < l.length
    · have hx : ∀ h, (⟨l.toArray⟩ : ByteArray)[i]'h = l[i]'hlt := fun h => rfl
      have hc := hid (digitR_fn (l[i]'hlt) b hb36 hb2 wr)
      have HT := hid (numOf_take_succ b l i hlt)
      have hv36 := valOf_le (l[i]'hlt)
      by_cases hv : valOf (l[i]'hlt) < b
      · have hd : digR (l[i]'hlt) b = (valOf (l[i]'hlt) : Int) := by unfold digR; rw [if_pos hv]
        rw [hd] at hc
        have hc := hid hc.out
        have HA2 := hid (show ∀ j (h : j < l.length), j < i + 1 → valOf (l[j]'h) < b from fun j h hj => by
          rcases Nat.lt_or_ge j i with h1 | h1
          · exact HA.out j h h1
          · obtain rfl : j = i := by omega
            exact hv)
        clear hd
        generalize valOf (l[i]'hlt) = c at *
        by_cases hskip : z = true ∧ c = 0
        · obtain ⟨rfl, rfl⟩ := hskip
          go_wp2_with fail
          (with_reducible refine hc.out.mono ?_); rintro e w' ⟨rfl, rfl⟩
          go_wp2
          go_roundw
          case rel =>
            obtain ⟨h1, h2⟩ := HZ.out (by first | rfl | trivial)
            refine ⟨i + 1, n, true, by go_num, by omega, hown, rfl, fun _ => ⟨h1, by rw [HT.out, h2]; simp⟩, ?_, hdl, HA2.out, hbr⟩
            rw [HT.out, h2, h1]
            left; simp
          case measure => simp [intOf] <;> omega
        · cases z with
          | false =>
            have HB := hid (big_1200 n)
            by_cases hlong : dlen 10 n ≤ 1200
            · have hn1 := hid (natOf_fn b (by omega) wr)
              have hdlb := dlen_step n b c hb36 hv36
              have hdb : dlen 10 b ≤ 19 := dlen_small b (by omega)
              have hdc : dlen 10 c ≤ 19 := dlen_small c (by omega)
              have hdnb : dlen 10 (n * b) ≤ 1300 := by have := dlen_step n b 0 hb36 (by omega); simp at this; omega
              go_wp2_with fail
              (with_reducible refine hc.out.mono ?_); rintro e w' ⟨rfl, rfl⟩
              go_wp2_with fail
              (with_reducible refine hn1.out.mono ?_); rintro e w1 ⟨v1, rfl, ho1, hb1⟩
              have ht := hid (timesD_fn (hown.dec.below hb1) ho1.dec (by omega) (by omega))
              obtain ⟨a1, p1, rfl⟩ := ho1.dec.shape
              go_wp2_with fail
              (with_reducible refine ht.out.mono ?_); rintro e w2 ⟨v2, rfl, ho2, hb2'⟩
              have hn2 := hid (natOf_fn c (by omega) w2)
              obtain ⟨a2, p2, rfl⟩ := ho2.dec.shape
              go_wp2_with fail
              (with_reducible refine hn2.out.mono ?_); rintro e w3 ⟨v3, rfl, ho3, hb3⟩
              have hp := hid (plusD_fn (ho2.dec.below hb3) ho3.dec (by omega) (by omega))
              obtain ⟨a3, p3, rfl⟩ := ho3.dec.shape
              go_wp2_with fail
              (with_reducible refine hp.out.mono ?_); rintro e w4 ⟨v4, rfl, ho4, hb4⟩
              obtain ⟨a4, p4, rfl⟩ := ho4.dec.shape
              have e1 := hb1.size
              have e2 := hb2'.size
              have e3 := hb3.size
              go_wp2
              go_roundw
              case rel =>
                refine ⟨i + 1, n * b + c, false, by go_num, by omega, Own.mono ho4 (by omega), rfl, fun h => (by first | exact absurd h (by decide) | cases h), ?_, by omega, HA2.out, hbr.trans ((hb1.mono hszr).trans ((hb2'.mono (by omega)).trans ((hb3.mono (by omega)).trans (hb4.mono (by omega)))))⟩
                rw [HT.out]
                exact near_step n _ b c hb2 HN.out
              case measure => simp [intOf] <;> omega
            · go_wp2_with fail
              (with_reducible refine hc.out.mono ?_); rintro e w' ⟨rfl, rfl⟩
              go_wp2
              go_roundw
              case rel =>
                refine ⟨i + 1, n, false, by go_num, by omega, hown, rfl, fun h => (by first | exact absurd h (by decide) | cases h), ?_, hdl, HA2.out, hbr⟩
                rw [HT.out]
                exact near_keep n _ b c hb2 HN.out (HB.out (by omega))
              case measure => simp [intOf] <;> omega
          | true =>
            have hc0 : c ≠ 0 := fun h => hskip ⟨rfl, h⟩
            have hcb : ((c : Int) == 0) = false := by rw [beq_eq_false_iff_ne]; omega
            clear hskip
            have HB := hid (big_1200 n)
            by_cases hlong : dlen 10 n ≤ 1200
            · have hn1 := hid (natOf_fn b (by omega) wr)
              have hdlb := dlen_step n b c hb36 hv36
              have hdb : dlen 10 b ≤ 19 := dlen_small b (by omega)
              have hdc : dlen 10 c ≤ 19 := dlen_small c (by omega)
              have hdnb : dlen 10 (n * b) ≤ 1300 := by have := dlen_step n b 0 hb36 (by omega); simp at this; omega
              go_wp2_with fail
              (with_reducible refine hc.out.mono ?_); rintro e w' ⟨rfl, rfl⟩
              go_wp2_with fail
              (with_reducible refine hn1.out.mono ?_); rintro e w1 ⟨v1, rfl, ho1, hb1⟩
              have ht := hid (timesD_fn (hown.dec.below hb1) ho1.dec (by omega) (by omega))
              obtain ⟨a1, p1, rfl⟩ := ho1.dec.shape
              go_wp2_with fail
              (with_reducible refine ht.out.mono ?_); rintro e w2 ⟨v2, rfl, ho2, hb2'⟩
              have hn2 := hid (natOf_fn c (by omega) w2)
              obtain ⟨a2, p2, rfl⟩ := ho2.dec.shape
              go_wp2_with fail
              (with_reducible refine hn2.out.mono ?_); rintro e w3 ⟨v3, rfl, ho3, hb3⟩
              have hp := hid (plusD_fn (ho2.dec.below hb3) ho3.dec (by omega) (by omega))
              obtain ⟨a3, p3, rfl⟩ := ho3.dec.shape
              go_wp2_with fail
              (with_reducible refine hp.out.mono ?_); rintro e w4 ⟨v4, rfl, ho4, hb4⟩
              obtain ⟨a4, p4, rfl⟩ := ho4.dec.shape
              have e1 := hb1.size
              have e2 := hb2'.size
              have e3 := hb3.size
              go_wp2
              go_roundw
              case rel =>
                refine ⟨i + 1, n * b + c, false, by go_num, by omega, Own.mono ho4 (by omega), rfl, fun h => (by first | exact absurd h (by decide) | cases h), ?_, by omega, HA2.out, hbr.trans ((hb1.mono hszr).trans ((hb2'.mono (by omega)).trans ((hb3.mono (by omega)).trans (hb4.mono (by omega)))))⟩
                rw [HT.out]
                exact near_step n _ b c hb2 HN.out
              case measure => simp [intOf] <;> omega
            · go_wp2_with fail
              (with_reducible refine hc.out.mono ?_); rintro e w' ⟨rfl, rfl⟩
              go_wp2
              go_roundw
              case rel =>
                refine ⟨i + 1, n, false, by go_num, by omega, hown, rfl, fun h => (by first | exact absurd h (by decide) | cases h), ?_, hdl, HA2.out, hbr⟩
                rw [HT.out]
                exact near_keep n _ b c hb2 HN.out (HB.out (by omega))
              case measure => simp [intOf] <;> omega
      · have hd : digR (l[i]'hlt) b = -1 := by unfold digR; rw [if_neg hv]
        rw [hd] at hc
        have hc := hid hc.out
        have HB := hid (rOK_bad b l i hlt hv)
        clear hd hv
        go_wp2_with fail
        (with_reducible refine hc.out.mono ?_); rintro e w' ⟨rfl, rfl⟩
        go_wp2
        refine bodyPost_ret (v := .tuple #[.slice none 0 0, .bool false]) (by simp [results, Tryz.results127, go_sem]) rfl ⟨_, 0, by rw [HB.out], hbr, Own.nil, by decide, fun h => absurd h (by rw [HB.out]; decide)⟩
    · obtain rfl : i = l.length := by omega
      have HR := hid (show rOK b l = !l.isEmpty by
        unfold rOK
        rw [List.all_eq_true.2 (fun c hc => by
          obtain ⟨j, hj, rfl⟩ := List.getElem_of_mem hc
          exact decide_eq_true (HA.out j hj hj)), Bool.and_true])
      have hnn := HN.out
      rw [List.take_length] at hnn
      have HNN := hid hnn
      clear hnn HN HZ
      go_wp2
      refine bodyPost_ret (v := .tuple #[.slice a (dlen 10 n) cap, .bool (!l.isEmpty)]) (by simp [results, Tryz.results127, go_sem]) rfl ⟨_, n, by rw [HR.out], hbr, hown, by omega, fun _ => HNN.out⟩
end Go.Proofs.YtkhgoeippamobaaGreatDoor
