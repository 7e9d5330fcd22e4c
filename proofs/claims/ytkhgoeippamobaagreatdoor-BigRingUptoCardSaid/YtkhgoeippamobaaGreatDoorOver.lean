/-
  Quotient and remainder.
-/
import Derived.Test.YtkhgoeippamobaaGreatDoorMinus
import Derived.Test.YtkhgoeippamobaaGreatDoorOverMath
namespace Go.Proofs.YtkhgoeippamobaaGreatDoor
open Go.RowKit
set_option maxRecDepth 100000 in
set_option maxHeartbeats 4000000 in
theorem over_nat {v u : Value} {m n : Nat} {w : World} (hv : NatRep w v m) (hu : NatRep w u n) (hm : nlen m ≤ 10000000) (hn : nlen n ≤ 10000000) (hn0 : 0 < n) :
    Calls Tryz.prog 92 #[v, u] w fun e w' => (∃ q r, e = .returned (.tuple #[q, r]) ∧ Own .u32 75 w' w.heap.size q (nlen (m / n)) (D (m / n)) ∧ Own .u32 75 w' w.heap.size r (nlen (m % n)) (D (m % n))) ∧ Below w.heap.size w w' := by
  obtain ⟨a, cap, rfl⟩ := hv.shape
  obtain ⟨a', cap', rfl⟩ := hu.shape
  have hbm := nbits_le_nlen m
  go_enter Tryz.func92, Tryz.ntmps92
  go_wp2_with (first | (at_make; refine mk_u32 _ rfl (.tmp 11) (.tmp 11) rfl w.heap.size (nlen m) _ _ rfl rfl rfl rfl (by omega) (Nat.le_refl _) ?_; intro w1 hown hb hz hb1) | (at_make; refine mk2_u32 _ rfl (.const (.int .i64 0)) (.tmp 15) rfl (w.heap.size + 1) 0 (nlen n + 2) _ _ rfl rfl rfl (by simp) (by omega) (by omega) (by omega) ?_; intro w2 hownr hbr hz2 hbr1))
  refine (bits_nat ((hv.below hb).below hbr1) (by omega)).mono ?_
  rintro e w' ⟨rfl, rfl⟩
  go_wp2
  have hb2 : Below w.heap.size w w2 := hb.trans (hbr1.mono (by omega))
  have hown2 := hown.keepAt hbr1 (by omega)
  go_loopw [5, 6] (fun r i wr => ∃ j : Nat, i = .int .i64 ((j : Int) - 1) ∧ j ≤ nbits m ∧ Own .u32 75 wr w.heap.size (.slice (some ⟨w.heap.size, 0, none⟩) (nlen m) (nlen m)) (nlen m) (D (ovQ m n j)) ∧ Own .u32 75 wr (w.heap.size + 1) r (nlen (ovR m n j)) (D (ovR m n j)) ∧ Below w.heap.size w wr)
    (fun _ i _ => (intOf i + 1).toNat)
  case atStart =>
    have hs := ov_start m n
    exact ⟨nbits m, rfl, Nat.le_refl _, hown2.congr (fun t _ => by rw [hs.1, D_zero]), by rw [hs.2, ← hz]; rw [← hz] at hownr; exact hownr.congr (fun t ht => absurd ht (by omega)), hb2⟩
  case round =>
    obtain ⟨j, rfl, hj, hq, hr, hbw⟩ := hrel
    by_cases hj0 : j = 0
    · subst hj0
      have he := ov_end m n
      rw [he.1] at hq
      rw [he.2] at hr
      clear he
      have hlt1 : m / n < 2 ^ (32 * nlen m) := Nat.lt_of_le_of_lt (Nat.div_le_self _ _) (lt_nlen m)
      have hlt2 := lt_nlen (m % n)
      have hn2 : nlen (m % n) ≤ nlen n := nlen_mono (Nat.le_of_lt (Nat.mod_lt _ hn0))
      have c1 := hid (trimmed_own hq (by omega) hlt1)
      have c2 := hid (trimmed_own hr (by omega) hlt2)
      clear hlt1 hlt2 hown hb hz hownr hbr hz2 hbr1 hown2 hb2 hb1
      go_wp2_with fail
      (with_reducible refine c1.out.mono ?_); rintro e w' ⟨⟨q2, rfl, hq2⟩, rfl⟩
      go_wp2_with fail
      (with_reducible refine c2.out.mono ?_); rintro e w' ⟨⟨r2, rfl, hr2⟩, rfl⟩
      go_wp2
      go_ret2
      exact ⟨⟨q2, r2, rfl, hq2, hr2.mono (by omega)⟩, hbw⟩
    · obtain ⟨i, rfl⟩ : ∃ i, j = i + 1 := ⟨j - 1, by omega⟩
      have he : ((i + 1 : Nat) : Int) - 1 = i := by omega
      rw [he]
      clear he hown hb hz hownr hbr hz2 hbr1 hown2 hb2 hb1
      obtain ⟨wo, rfl⟩ : ∃ wo : World, wo = wr := ⟨_, rfl⟩
      obtain ⟨ar, capr, rfl⟩ := hr.shape
      obtain ⟨c, hc⟩ : ∃ c, c = (m.testBit i).toNat := ⟨_, rfl⟩
      have hc2 : c < 2 := by have := Bool.toNat_le (m.testBit i); omega
      have HC := hid hc
      have hRn : nlen (ovR m n (i + 1)) ≤ nlen n := nlen_mono (Nat.le_of_lt (ovR_lt m n (i + 1) hn0))
      go_wp2_with fail
      refine (bit_nat (hv.below hbw) (by omega) _ (by omega) (by omega)).mono ?_
      rintro e w' ⟨rfl, rfl⟩
      rw [Int.toNat_natCast]
      cases hb : m.testBit i
      all_goals
        rw [hb] at hc
        have HB := hid hb
        clear hb
        go_wp2
        go_loopw [7, 29] (fun carry k wr => ∃ j : Nat, k = .int .i64 j ∧ j ≤ nlen (ovR m n (i + 1)) ∧ carry = .int .u32 (cySmall (ovR m n (i + 1)) 2 c j) ∧ Own .u32 75 wr w.heap.size (.slice (some ⟨w.heap.size, 0, none⟩) (nlen m) (nlen m)) (nlen m) (D (ovQ m n (i + 1))) ∧ Own .u32 75 wr (w.heap.size + 1) (.slice ar (nlen (ovR m n (i + 1))) capr) (nlen (ovR m n (i + 1))) (fun t => if t < j then D (ovR m n (i + 1) * 2 + c) t else D (ovR m n (i + 1)) t) ∧ Below w.heap.size w wr)
          (fun _ k _ => nlen (ovR m n (i + 1)) - (intOf k).toNat)
        case atStart => exact ⟨0, rfl, Nat.zero_le _, by rw [cySmall_zero, hc]; rfl, hq, hr.congr (fun t _ => by rw [if_neg (by omega)]), hbw⟩
        case round =>
          clear hc
          obtain ⟨k, rfl, hk, rfl, hq2, hr2, hbw2⟩ := hrel
          have hcy := cySmall_lt3 (ovR m n (i + 1)) 2 c k hc2
          by_cases hlt : k < nlen (ovR m n (i + 1))
          · obtain ⟨g, rfl⟩ := hr2.addr (by omega)
            have hrc := hr2.cell k hlt
            rw [if_neg (by omega)] at hrc
            have hrf := hr2.free k
            have hge := hr2.base_le
            have hd := D_lt (ovR m n (i + 1)) k
            have hw1 := two_or (ovR m n (i + 1)) c k hc2
            have hw2 := two_top (ovR m n (i + 1)) c k hc2
            clear hr hq
            go_wp2
            go_roundw
            case rel =>
              refine ⟨k + 1, by go_num, by omega, rfl, hq2.other _ _ (by simp <;> omega), (hr2.store k _).congr ?_, hbw2.setCell (by simp <;> omega) _⟩
              intro t ht
              show (if t = k then _ else if t < k then _ else _) = _
              by_cases e : t = k
              · rw [if_pos e, if_pos (by omega), e]
              · rw [if_neg e]
                by_cases e2 : t < k
                · rw [if_pos e2, if_pos (by omega)]
                · rw [if_neg e2, if_neg (by omega)]
            case measure => simp [intOf] <;> omega
          · obtain rfl : k = nlen (ovR m n (i + 1)) := by omega
            have hr3 := hr2.congr (g := D (ovR m n (i + 1) * 2 + c)) (fun t ht => by rw [if_pos ht])
            clear hr hq hr2
            by_cases hcz : cySmall (ovR m n (i + 1)) 2 c (nlen (ovR m n (i + 1))) = 0
            · have hnl := nlen_two_none _ c hc2 hcz
              go_wp2_with fail
              have hrW := hr3.len_eq hnl.symm rfl
              clear hnl
              have hqW := hq2
              have hbW := hbw2
              clear hr3 hq2 hbw2
              have hTe : ovR m n (i + 1) * 2 + c = ovT m n i := by rw [ovT, ← HC.out]
              replace hrW := hrW.len_eq (congrArg nlen hTe) (congrArg D hTe)
              clear hTe
              have hTn : nlen (ovT m n i) ≤ nlen n + 1 := by
                refine (nlen_le_iff _ _).2 ?_
                have h1 := ovR_lt m n (i + 1) hn0
                have h2 := Bool.toNat_le (m.testBit i)
                have h3 := lt_nlen n
                rw [pow32_succ]
                unfold ovT
                omega
              refine (compare_nat hrW.nat (hu.below hbW) (by omega) (by omega)).mono ?_
              rintro e w' ⟨rfl, rfl⟩
              have hil : i / 32 < nlen m := by omega
              by_cases hge2 : n ≤ ovT m n i
              · have hcm : 0 ≤ cmpN (ovT m n i) n := by unfold cmpN; split <;> (try split) <;> omega
                go_wp2_with fail
                refine (minus_nat hrW.nat (hu.below hbW) (by omega) (by omega) hge2).mono ?_
                rintro e w3 ⟨rn, rfl, hrn, hb3⟩
                have hg := hrW.row
                have hq3 := hqW.keepAt hb3 hqW.lt
                have hqc := hq3.cell (i / 32) hil
                have hqf := hq3.free (i / 32)
                have hw1 := ovQ_bit m n i
                have hst := hid (ov_big m n i hn0 hge2)
                go_wp2
                go_region
                all_goals
                  go_wp2
                  go_roundw
                  case rel =>
                    have hst2 := hst.out
                    have hq4 : Own .u32 75 (w3.setCell ⟨w.heap.size, i / 32, none⟩ (.int .u32 ((D (ovQ m n (i + 1) + 2 ^ i) (i / 32) : Nat) : Int))) w.heap.size (.slice (some ⟨w.heap.size, 0, none⟩) (nlen m) (nlen m)) (nlen m) (D (ovQ m n i)) := by
                      refine (hq3.store (i / 32) _).congr (fun t _ => ?_)
                      rw [hst2.2]
                      by_cases e : t = i / 32
                      · rw [if_pos e, e]
                      · rw [if_neg e, set_bit_D_ne _ i t (ovQ_mod m n (i + 1)) e]
                    have hb5 : Below w.heap.size w w3 := hbW.trans (hb3.mono hbW.size)
                    have hqlt := hqW.lt
                    have hr5 : Own .u32 75 (w3.setCell ⟨w.heap.size, i / 32, none⟩ (.int .u32 ((D (ovQ m n (i + 1) + 2 ^ i) (i / 32) : Nat) : Int))) (w.heap.size + 1) rn (nlen (ovR m n i)) (D (ovR m n i)) := by
                      rw [hst2.1]
                      exact Own.mono (ownsRow_setCell_below hrn (a := ⟨w.heap.size, i / 32, none⟩) hqlt _) hqlt
                    exact ⟨i, rfl, by omega, hq4, hr5, (hb5.setCell (Nat.le_refl _) _).drew⟩
                  case measure => simp [intOf] <;> omega
              · have hcm : cmpN (ovT m n i) n < 0 := by unfold cmpN; split <;> (try split) <;> omega
                have hst := ov_small m n i hn0 (by omega)
                rw [← hst.1] at hrW
                rw [← hst.2] at hqW
                clear hst
                go_wp2
                go_roundw
                case rel => exact ⟨i, rfl, by omega, hqW, hrW, hbW⟩
                case measure => simp [intOf] <;> omega
            · have hnl := nlen_two_carry (ovR m n (i + 1)) c hc2 (Nat.pos_of_ne_zero hcz)
              have hX := hid (show ((cySmall (ovR m n (i + 1)) 2 c (nlen (ovR m n (i + 1))) : Nat) : Int) = ((D (ovR m n (i + 1) * 2 + c) (nlen (ovR m n (i + 1))) : Nat) : Int) from cySmall_last _ 2 c (by decide) (by omega))
              have hsz : w.heap.size + 1 ≤ wr.heap.size := by have := hq2.lt; omega
              have HN := hid hnl
              clear hnl
              go_wp2_with (at_builtin; refine app_u32 rfl _ _ rfl (w.heap.size + 1) _ (nlen (ovR m n (i + 1))) _ rfl hr3 _ rfl hX.out (by omega) hsz ?_; intro v' w1 hown1 hb1)
              have hrW := hown1.len_eq HN.out.symm rfl
              have hqW := hq2.keepAt hb1 (by omega)
              have hbW := hbw2.trans (hb1.mono (by omega))
              clear hr3 hq2 hbw2 hown1
              have hTe : ovR m n (i + 1) * 2 + c = ovT m n i := by rw [ovT, ← HC.out]
              replace hrW := hrW.len_eq (congrArg nlen hTe) (congrArg D hTe)
              clear hTe
              have hTn : nlen (ovT m n i) ≤ nlen n + 1 := by
                refine (nlen_le_iff _ _).2 ?_
                have h1 := ovR_lt m n (i + 1) hn0
                have h2 := Bool.toNat_le (m.testBit i)
                have h3 := lt_nlen n
                rw [pow32_succ]
                unfold ovT
                omega
              refine (compare_nat hrW.nat (hu.below hbW) (by omega) (by omega)).mono ?_
              rintro e w' ⟨rfl, rfl⟩
              have hil : i / 32 < nlen m := by omega
              by_cases hge2 : n ≤ ovT m n i
              · have hcm : 0 ≤ cmpN (ovT m n i) n := by unfold cmpN; split <;> (try split) <;> omega
                go_wp2_with fail
                refine (minus_nat hrW.nat (hu.below hbW) (by omega) (by omega) hge2).mono ?_
                rintro e w3 ⟨rn, rfl, hrn, hb3⟩
                have hg := hrW.row
                have hq3 := hqW.keepAt hb3 hqW.lt
                have hqc := hq3.cell (i / 32) hil
                have hqf := hq3.free (i / 32)
                have hw1 := ovQ_bit m n i
                have hst := hid (ov_big m n i hn0 hge2)
                go_wp2
                go_region
                all_goals
                  go_wp2
                  go_roundw
                  case rel =>
                    have hst2 := hst.out
                    have hq4 : Own .u32 75 (w3.setCell ⟨w.heap.size, i / 32, none⟩ (.int .u32 ((D (ovQ m n (i + 1) + 2 ^ i) (i / 32) : Nat) : Int))) w.heap.size (.slice (some ⟨w.heap.size, 0, none⟩) (nlen m) (nlen m)) (nlen m) (D (ovQ m n i)) := by
                      refine (hq3.store (i / 32) _).congr (fun t _ => ?_)
                      rw [hst2.2]
                      by_cases e : t = i / 32
                      · rw [if_pos e, e]
                      · rw [if_neg e, set_bit_D_ne _ i t (ovQ_mod m n (i + 1)) e]
                    have hb5 : Below w.heap.size w w3 := hbW.trans (hb3.mono hbW.size)
                    have hqlt := hqW.lt
                    have hr5 : Own .u32 75 (w3.setCell ⟨w.heap.size, i / 32, none⟩ (.int .u32 ((D (ovQ m n (i + 1) + 2 ^ i) (i / 32) : Nat) : Int))) (w.heap.size + 1) rn (nlen (ovR m n i)) (D (ovR m n i)) := by
                      rw [hst2.1]
                      exact Own.mono (ownsRow_setCell_below hrn (a := ⟨w.heap.size, i / 32, none⟩) hqlt _) hqlt
                    exact ⟨i, rfl, by omega, hq4, hr5, (hb5.setCell (Nat.le_refl _) _).drew⟩
                  case measure => simp [intOf] <;> omega
              · have hcm : cmpN (ovT m n i) n < 0 := by unfold cmpN; split <;> (try split) <;> omega
                have hst := ov_small m n i hn0 (by omega)
                rw [← hst.1] at hrW
                rw [← hst.2] at hqW
                clear hst
                go_wp2
                go_roundw
                case rel => exact ⟨i, rfl, by omega, hqW, hrW, hbW⟩
                case measure => simp [intOf] <;> omega
end Go.Proofs.YtkhgoeippamobaaGreatDoor
