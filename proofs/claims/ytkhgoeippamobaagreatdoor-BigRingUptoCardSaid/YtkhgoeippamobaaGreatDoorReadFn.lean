/-
  Reading digits of a base: the walk.
-/
import Derived.Test.YtkhgoeippamobaaGreatDoorRead
import Derived.Test.YtkhgoeippamobaaGreatDoorSmall
namespace Go.Proofs.YtkhgoeippamobaaGreatDoor
open Go.RowKit
/-- what 'read' answers -/
def ReadP (b : Nat) (l : List UInt8) (neg : Bool) (w : World) (e : Ending) (w' : World) : Prop :=
  ∃ v, e = .returned (.tuple #[v, .bool (rOK b l)]) ∧ Below w.heap.size w w' ∧ (rOK b l = true → PNumO w' w.heap.size v (sgnInt neg (numOf b l))) ∧ (∃ a n c g h, v = .agg #[.slice a n c, .bool g, .bool h])
theorem sgnInt_abs (neg : Bool) (n : Nat) : (sgnInt neg n).natAbs = n := by cases neg <;> simp [sgnInt]
theorem sgnInt_neg (neg : Bool) (n : Nat) : decide (sgnInt neg n < 0) = (neg && decide (0 < n)) := by
  cases neg
  · simp [sgnInt]
  · by_cases h : 0 < n
    · simp [sgnInt, h]
    · have : n = 0 := by omega
      subst this; rfl
theorem nlen_of_bits (n e : Nat) (h : nbits n ≤ e) : nlen n ≤ e / 32 + 1 := by
  rw [nlen_le_iff]
  have h1 := (nbits_le_iff n e).1 h
  exact Nat.lt_of_lt_of_le h1 (Nat.pow_le_pow_right (by decide) (by omega))
theorem bits_small (n b c e : Nat) (h : nbits n ≤ e) (hb : b ≤ 36) (hc : c ≤ 36) : nbits (n * b + c) ≤ e + 6 := by
  rw [nbits_le_iff]
  have h1 := (nbits_le_iff n e).1 h
  have h2 := Nat.mul_le_mul_left n hb
  rw [Nat.pow_add]
  generalize 2 ^ e = X at h1 ⊢
  omega
theorem big_of_bits (m : Nat) (h : ¬ nbits m ≤ 2010) : big600 ≤ m := by
  rcases Nat.lt_or_ge m big600 with h1 | h1
  · exact absurd (bits_2010 m h1) h
  · exact h1
theorem big_of_len (n k e : Nat) (hk : e < k) (h : 2 ^ k ≤ 2 * n) (he : big600 ≤ 2 ^ e) : big600 ≤ n := by
  have h1 : 2 ^ (e + 1) ≤ 2 ^ k := Nat.pow_le_pow_right (by decide) hk
  rw [Nat.pow_succ] at h1
  generalize 2 ^ k = X at *
  generalize 2 ^ e = Y at *
  omega
theorem big600_pos : 0 < big600 := by
  unfold big600
  exact Nat.pow_pos (Nat.pow_pos (Nat.pow_pos (by decide)))
theorem nat_zero (w : World) : NatRep w (.slice none 0 0) 0 := ⟨none, 0, rfl, by decide, fun h => absurd h (by decide)⟩
theorem PNum.mkLong {w : World} {base : Nat} {neg : Bool} {N : Nat} (h : big600 ≤ N) : PNumO w base (.agg #[.slice none 0 0, .bool neg, .bool true]) (sgnInt neg N) := by
  refine ⟨_, 0, true, ?_, Own.nil, fun h => (by cases h), ?_, by decide⟩
  · have := big600_pos
    rw [sgnInt_neg, decide_eq_true (show 0 < N by omega), Bool.and_true]
  · rw [sgnInt_abs, decide_eq_true h]
theorem rOK_nil (b : Nat) : rOK b [] = false := rfl
theorem rOK_bad (b : Nat) (l : List UInt8) (i : Nat) (h : i < l.length) (hv : ¬ valOf (l[i]'h) < b) : rOK b l = false := by
  unfold rOK
  have : l.all (fun c => decide (valOf c < b)) = false := by
    rw [List.all_eq_false]
    exact ⟨l[i]'h, List.getElem_mem h, by simpa using hv⟩
  rw [this, Bool.and_false]
theorem rOK_good (b : Nat) (l : List UInt8) (h : ∀ i (h : i < l.length), valOf (l[i]'h) < b) (h0 : l ≠ []) : rOK b l = true := by
  unfold rOK
  have h1 : l.all (fun c => decide (valOf c < b)) = true := by
    rw [List.all_eq_true]
    intro c hc
    obtain ⟨i, hi, rfl⟩ := List.getElem_of_mem hc
    exact decide_eq_true (h i hi)
  rw [h1, Bool.and_true]
  cases l with
  | nil => exact absurd rfl h0
  | cons => rfl
set_option maxRecDepth 100000 in
set_option maxHeartbeats 4000000 in
theorem read_fn (l : List UInt8) (hl : l.length ≤ 1000000000) (b : Nat) (hb2 : 2 ≤ b) (hb36 : b ≤ 36) (neg : Bool) (w : World) :
    Calls Tryz.prog 139 #[.string ⟨l.toArray⟩, .int .i64 b, .bool neg] w (ReadP b l neg w) := by
  have hsz : (⟨l.toArray⟩ : ByteArray).size = l.length := Lib.size_mk _
  have k0 := Blk.new w #[.slice none 0 0, .bool false, .bool false] 49
  have hb0 : Below w.heap.size w (w.alloc (.cells #[.slice none 0 0, .bool false, .bool false] 49)) := (Below.refl _ _).alloc (Nat.le_refl _) _
  have hsz0 : (w.alloc (.cells #[.slice none 0 0, .bool false, .bool false] 49)).heap.size = w.heap.size + 1 := by simp
  go_enter Tryz.func139, Tryz.ntmps139
  go_wp2
  generalize w.alloc (.cells #[.slice none 0 0, .bool false, .bool false] 49) = W at *
  go_loop [14] (fun iv => ∃ i : Nat, iv = .int .i64 i ∧ i ≤ l.length ∧ ∀ j (h : j < l.length), j < i → valOf (l[j]'h) < b) (fun iv => l.length - (intOf iv).toNat)
  case atStart => exact ⟨0, rfl, Nat.zero_le _, fun j _ h => absurd h (Nat.not_lt_zero _)⟩
  case round =>
    obtain ⟨i, rfl, hi, hall⟩ := hrel
    have hA := hid hall
    clear hall
    obtain ⟨⟨p1, p2, p3⟩, q1, q2, q3⟩ := k0.three
    by_cases hlt : i < l.length
    · have hx : ∀ h, (⟨l.toArray⟩ : ByteArray)[i]'h = l[i]'hlt := fun h => rfl
      have hc := hid (value_fn (l[i]'hlt) W)
      by_cases hv : valOf (l[i]'hlt) < b
      · go_wp2_with fail
        (with_reducible refine hc.out.mono ?_); rintro e w' ⟨rfl, rfl⟩
        go_wp2
        refine ⟨⟨i + 1, by go_num, by omega, fun j h hj => ?_⟩, ?_⟩
        · rcases Nat.lt_or_ge j i with h1 | h1
          · exact hA.out j h h1
          · obtain rfl : j = i := by omega
            exact hv
        · simp [intOf] <;> omega
      · have hbad := rOK_bad b l i hlt hv
        go_wp2_with fail
        (with_reducible refine hc.out.mono ?_); rintro e w' ⟨rfl, rfl⟩
        go_wp2
        refine bodyPost_ret (v := .tuple #[.agg #[.slice none 0 0, .bool false, .bool false], .bool false]) (by simp [results, Tryz.results139, go_sem, p1, p2, p3]) rfl ⟨_, by rw [hbad], ?_, fun h => absurd h (by rw [hbad]; decide), ⟨_, _, _, _, _, rfl⟩⟩
        exact ((hb0.setCell (p := ⟨w.heap.size, 0, none⟩) (by simp) _).setCell (p := ⟨w.heap.size, 1, none⟩) (by simp) _).setCell (p := ⟨w.heap.size, 2, none⟩) (by simp) _
    · obtain rfl : i = l.length := by omega
      have hgood : l ≠ [] → rOK b l = true := rOK_good b l (fun j h => hA.out j h h)
      have hG := hid hgood
      clear hgood hA
      have hc := hid (trimLeft_fn l hl W)
      have hlong := hid (numOf_long b hb2 l)
      have htr := hid (numOf_trim b l)
      have htl : (l.dropWhile (· == 48)).length ≤ 1000000000 := Nat.le_trans (List.dropWhile_sublist _).length_le hl
      generalize ht : l.dropWhile (· == 48) = t at *
      clear ht
      have htsz : (⟨t.toArray⟩ : ByteArray).size = t.length := Lib.size_mk _
      cases hle : l == ([] : List UInt8)
      · have hgood := hG.out (fun e => by rw [e] at hle; exact absurd hle (by decide))
        go_wp2_with fail
        (with_reducible refine hc.out.mono ?_); rintro e w' ⟨rfl, rfl⟩
        by_cases hlen : t.length ≤ 2010
        · go_wp2
          go_loopw [9, 37] (fun sv iv wr => ∃ i : Nat, iv = .int .i64 i ∧ i ≤ t.length ∧ Own .u32 75 wr (w.heap.size + 1) sv (nlen (numOf b (t.take i))) (D (numOf b (t.take i))) ∧ nbits (numOf b (t.take i)) ≤ 2010 ∧ Below w.heap.size w wr ∧ Blk wr w.heap.size #[.slice none 0 0, .bool false, .bool false] 49) (fun _ iv _ => t.length - (intOf iv).toNat)
          case atStart => exact ⟨0, rfl, Nat.zero_le _, Own.nil, by show nbits 0 ≤ 2010; decide, hb0, k0⟩
          case round =>
            obtain ⟨i, rfl, hi, hov, hbi, hbr, kr⟩ := hrel
            have hsv := hov.nat
            obtain ⟨a, cap, rfl⟩ := hsv.shape
            have hnl := nlen_of_bits _ _ hbi
            by_cases hlt : i < t.length
            · have hx : ∀ h, (⟨t.toArray⟩ : ByteArray)[i]'h = t[i]'hlt := fun h => rfl
              have hcv := hid (value_fn (t[i]'hlt) wr)
              have hv36 := valOf_le (t[i]'hlt)
              have hbw : IntKind.u32.wrap (b : Int) = b := by rw [wrap_u32_nat, Nat.mod_eq_of_lt (by omega)]
              have hvw : IntKind.u32.wrap (valOf (t[i]'hlt) : Int) = valOf (t[i]'hlt) := by rw [wrap_u32_nat, Nat.mod_eq_of_lt (by omega)]
              have hcs := hid (small_nat hsv (by omega) b (valOf (t[i]'hlt)) (by omega) (by omega))
              have hbs := bits_small _ b (valOf (t[i]'hlt)) _ hbi hb36 hv36
              have hstep := numOf_take_succ b t i hlt
              rw [← hstep] at hcs hbs
              have hnl2 := nlen_of_bits _ _ hbs
              have hTL := hid (numOf_take_le b hb2 t (i + 1))
              clear hstep hbs
              go_wp2_with fail
              (with_reducible refine hcv.out.mono ?_); rintro e w' ⟨rfl, rfl⟩
              go_wp2_with fail
              (with_reducible refine hcs.out.mono ?_); rintro e w1 ⟨u, rfl, hu, hb1⟩
              obtain ⟨ua, uc, rfl⟩ := hu.shape
              have hcb := hid (bits_nat hu.nat (by omega))
              have hbw1 := hbr.trans (hb1.mono hbr.size)
              have k1 := kr.later hb1
              obtain ⟨⟨p1, p2, p3⟩, q1, q2, q3⟩ := k1.three
              go_wp2_with fail
              (with_reducible refine hcb.out.mono ?_); rintro e w' ⟨rfl, rfl⟩
              by_cases hbits : nbits (numOf b (t.take (i + 1))) ≤ 2010
              · go_wp2
                go_roundw
                case rel => exact ⟨i + 1, by go_num, by omega, hu.mono kr.lt, hbits, hbw1, k1⟩
                case measure => simp [intOf] <;> omega
              · have hbig : big600 ≤ numOf b l := by
                  have h1 := big_of_bits _ hbits
                  have h2 := hTL.out
                  rw [htr.out] at h2
                  omega
                have hbits' : 2010 < nbits (numOf b (t.take (i + 1))) := by omega
                clear hbits
                go_wp2
                refine bodyPost_ret (v := .tuple #[.agg #[.slice none 0 0, .bool neg, .bool true], .bool true]) (by simp [results, Tryz.results139, go_sem, p1, p2, p3]) rfl ⟨_, by rw [hgood], ?_, fun _ => PNum.mkLong hbig, ⟨_, _, _, _, _, rfl⟩⟩
                exact ((hbw1.setCell (p := ⟨w.heap.size, 0, none⟩) (by simp) _).setCell (p := ⟨w.heap.size, 1, none⟩) (by simp) _).setCell (p := ⟨w.heap.size, 2, none⟩) (by simp) _
            · obtain rfl : i = t.length := by omega
              rw [List.take_length, htr.out] at hsv hbi hov
              rw [List.take_length, htr.out] at hnl
              clear hlong hc
              have hcc : ¬ t.length < t.length := by omega
              rw [List.take_length, htr.out]
              generalize hN : numOf b l = N at *
              have HN := hid hN
              clear hN
              have hco := hid (of_nat hsv neg (by omega))
              go_wp2_with fail
              (with_reducible refine hco.out.mono ?_); rintro e w1 ⟨rfl, hb1⟩
              have hbw1 := hbr.trans (hb1.mono hbr.size)
              have k1 := kr.later hb1
              obtain ⟨⟨p1, p2, p3⟩, q1, q2, q3⟩ := k1.three
              have hs1 := hsv.below hb1
              have kA := Blk.new w1 #[.slice a (nlen N) cap, .bool (neg && decide (0 < N)), .bool false] 49
              have hbA : Below w1.heap.size w1 (w1.alloc (.cells #[.slice a (nlen N) cap, .bool (neg && decide (0 < N)), .bool false] 49)) := (Below.refl _ _).alloc (Nat.le_refl _) _
              have hs2 := hs1.below hbA
              have hcd := hid (decimal_nat hs2 (by omega))
              have hdsz : (⟨(strOf 10 N).toArray⟩ : ByteArray).size = dlen 10 N := by rw [Lib.size_mk, strOf_length]
              have hdb := dlen_bound 10 N (by decide)
              have hdb2 : dlen 10 N ≤ 100000 := by omega
              clear hdb
              go_wp2_with fail
              (with_reducible refine hcd.out.mono ?_); rintro e w2 ⟨rfl, hb2⟩
              have hs3 := hs2.below hb2
              have kA2 := kA.later hb2
              have kR2 := (k1.alloc (.cells #[.slice a (nlen N) cap, .bool (neg && decide (0 < N)), .bool false] 49)).later hb2
              obtain ⟨⟨a1, a2, a3⟩, a4, a5, a6⟩ := kA2.three
              obtain ⟨⟨r1, r2, r3⟩, r4, r5, r6⟩ := kR2.three
              clear p1 p2 p3 q1 q2 q3
              have hlt1 := k1.lt
              have hbw2 : Below w.heap.size w w2 := hbw1.trans ((hbA.mono hbw1.size).trans (hb2.mono (by simp; have := hbw1.size; omega)))
              go_wp2
              have hbZ : Below w1.heap.size w1 (w2.setCell ⟨w1.heap.size, 2, none⟩ (.bool (decide ((600 : Int) < (dlen 10 N : Nat))))) := (hbA.trans (hb2.mono (by simp))).setCell (p := ⟨w1.heap.size, 2, none⟩) (Nat.le_refl _) _
              have hov1 := hov.keep hb1 (Nat.le_refl _)
              have hovZ := own_set3 (hov1.keep hbZ (Nat.le_refl _)) (.slice a (nlen N) cap) (.bool (neg && decide (0 < N))) (.bool (decide ((600 : Int) < (dlen 10 N : Nat)))) (b := w.heap.size) (by omega)
              have hbF := (((hbw1.trans (hbZ.mono hbw1.size)).setCell (p := ⟨w.heap.size, 0, none⟩) (Nat.le_refl _) (.slice a (nlen N) cap)).setCell (p := ⟨w.heap.size, 1, none⟩) (Nat.le_refl _) (.bool (neg && decide (0 < N)))).setCell (p := ⟨w.heap.size, 2, none⟩) (Nat.le_refl _) (.bool (decide ((600 : Int) < (dlen 10 N : Nat))))
              refine bodyPost_ret (v := .tuple #[.agg #[.slice a (nlen N) cap, .bool (neg && decide (0 < N)), .bool (decide ((600 : Int) < (dlen 10 N : Nat)))], .bool true]) (by simp [results, Tryz.results139, go_sem, r1, r2, r3]) rfl ⟨_, by rw [hgood], hbF, fun _ => ?_, ⟨_, _, _, _, _, rfl⟩⟩
              rw [HN.out]
              refine ⟨_, N, _, by rw [sgnInt_neg], hovZ.mono (by omega), fun _ => (sgnInt_abs neg N).symm, ?_, by omega⟩
              rw [sgnInt_abs]
              have h1 := digits_600 N
              by_cases h2 : N < big600
              · have h3 := h1.2 h2
                rw [decide_eq_false (by omega), decide_eq_false (by omega)]
              · have h3 : ¬ dlen 10 N ≤ 600 := fun h => h2 (h1.1 h)
                rw [decide_eq_true (by omega), decide_eq_true (by omega)]
        · have hbig : big600 ≤ numOf b l := by
            rcases hlong.out with h1 | h1
            · exact big_of_len _ _ 2010 (by omega) h1 big600_le
            · rw [h1] at hlen; simp at hlen
          go_wp2
          refine bodyPost_ret (v := .tuple #[.agg #[.slice none 0 0, .bool neg, .bool true], .bool true]) (by simp [results, Tryz.results139, go_sem, p1, p2, p3]) rfl ⟨_, by rw [hgood], ?_, fun _ => PNum.mkLong hbig, ⟨_, _, _, _, _, rfl⟩⟩
          exact ((hb0.setCell (p := ⟨w.heap.size, 0, none⟩) (by simp) _).setCell (p := ⟨w.heap.size, 1, none⟩) (by simp) _).setCell (p := ⟨w.heap.size, 2, none⟩) (by simp) _
      · have hnil : l = [] := by simpa using hle
        subst hnil
        have hbad : rOK b [] = false := rfl
        go_wp2
        refine bodyPost_ret (v := .tuple #[.agg #[.slice none 0 0, .bool false, .bool false], .bool false]) (by simp [results, Tryz.results139, go_sem, p1, p2, p3]) rfl ⟨_, by rw [hbad], ?_, fun h => absurd h (by rw [hbad]; decide), ⟨_, _, _, _, _, rfl⟩⟩
        exact ((hb0.setCell (p := ⟨w.heap.size, 0, none⟩) (by simp) _).setCell (p := ⟨w.heap.size, 1, none⟩) (by simp) _).setCell (p := ⟨w.heap.size, 2, none⟩) (by simp) _
end Go.Proofs.YtkhgoeippamobaaGreatDoor
