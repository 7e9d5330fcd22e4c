/-
  The reference: decimal.
-/
import Derived.Test.YtkhgoeippamobaaGreatDoorRefD
namespace Go.Proofs.YtkhgoeippamobaaGreatDoor
open Go.RowKit
/-- what the reference's readers answer -/
def RefP (ok : Bool) (z : Int) (w : World) (e : Ending) (w' : World) : Prop :=
  ∃ v, e = .returned (.tuple #[v, .bool ok]) ∧ Below w.heap.size w w' ∧ (ok = true → OwnDNum w' w.heap.size v z) ∧ (∃ g s n c, v = .agg #[.bool g, .slice s n c])
theorem Blk.two {w : World} {b : Nat} {x y : Value} {t : TypeId} (h : Blk w b #[x, y] t) : (w.cell? ⟨b, 0, none⟩ = some x ∧ w.cell? ⟨b, 1, none⟩ = some y) ∧ (w.frozen? ⟨b, 0, none⟩ = false ∧ w.frozen? ⟨b, 1, none⟩ = false) :=
  ⟨⟨h.cell 0, h.cell 1⟩, h.free 0, h.free 1⟩
theorem own_set2 {ik : IntKind} {e : TypeId} {w : World} {base b n : Nat} {v : Value} {f : Nat → Nat} (h : Own ik e w base v n f) (x y : Value) (hb : b < base) : Own ik e ((w.setCell ⟨b, 0, none⟩ x).setCell ⟨b, 1, none⟩ y) base v n f :=
  ownsRow_setCell_below (ownsRow_setCell_below h (a := ⟨b, 0, none⟩) hb x) (a := ⟨b, 1, none⟩) hb y
set_option maxRecDepth 100000 in
set_option maxHeartbeats 4000000 in
theorem dec_fn (l : List UInt8) (hl : l.length ≤ 1000000000) (b : Bool) (w : World) :
    Calls Tryz.prog 126 #[.bool b, .string ⟨l.toArray⟩] w (RefP (rOK 10 l) (sgnInt b (numOf 10 l)) w) := by
  have hsz : (⟨l.toArray⟩ : ByteArray).size = l.length := Lib.size_mk _
  have k0 := Blk.new w #[.bool false, .slice none 0 0] 56
  have hb0 : Below w.heap.size w (w.alloc (.cells #[.bool false, .slice none 0 0] 56)) := (Below.refl _ _).alloc (Nat.le_refl _) _
  have hsz0 : (w.alloc (.cells #[.bool false, .slice none 0 0] 56)).heap.size = w.heap.size + 1 := by simp
  go_enter Tryz.func126, Tryz.ntmps126
  go_wp2
  generalize w.alloc (.cells #[.bool false, .slice none 0 0] 56) = W at *
  go_loopw [6, 7] (fun sv iv wr => ∃ k : Nat, iv = .int .i64 ((l.length : Int) - 1 - k) ∧ k ≤ l.length ∧ Own .i64 3 wr (w.heap.size + 1) sv k (fdig l) ∧ (∀ j, j < k → fdig l j < 10) ∧ Below w.heap.size w wr ∧ Blk wr w.heap.size #[.bool false, .slice none 0 0] 56) (fun _ iv _ => (intOf iv + 1).toNat)
  case atStart => exact ⟨0, by simp, Nat.zero_le _, Own.nil, fun j h => absurd h (Nat.not_lt_zero _), hb0, k0⟩
  case round =>
    obtain ⟨k, hiv, hk, hown, hall, hbr, kr⟩ := hrel
    clear k0 hb0 hsz0
    have hA := hid hall
    clear hall
    obtain ⟨a, cap, rfl⟩ := hown.shape
    have hszr := hbr.size
    have hltr := kr.lt
    by_cases hlt : k < l.length
    · obtain ⟨i, hi⟩ : ∃ i, i + k + 1 = l.length := ⟨l.length - 1 - k, by omega⟩
      have e : (l.length : Int) - 1 - k = (i : Int) := by omega
      rw [e] at hiv
      subst hiv
      have hil : i < l.length := by omega
      have hx : ∀ h, (⟨l.toArray⟩ : ByteArray)[i]'h = l[i]'hil := fun h => rfl
      have hfd : fdig l k = valOf (l[i]'hil) := by
        unfold fdig
        have e1 : l.length - 1 - k = i := by omega
        rw [e1, List.getD_eq_getElem?_getD, List.getElem?_eq_getElem hil]
        rfl
      have hc := fun w => hid (digitR_fn (l[i]'hil) 10 (by decide) (by decide) w)
      by_cases hv : valOf (l[i]'hil) < 10
      · have hd : digR (l[i]'hil) 10 = (valOf (l[i]'hil) : Int) := by unfold digR; rw [if_pos hv]
        rw [hd] at hc
        have hc' : ∀ w, Hid (Calls Tryz.prog 144 #[.int .u8 (l[i]'hil).toNat, .int .i64 10] w fun e w' => e = .returned (.int .i64 (valOf (l[i]'hil))) ∧ w' = w) := hc
        have HF := hid hfd
        clear hd hc e hfd
        go_wp2_with fail
        (with_reducible refine (hc' _).out.mono ?_); rintro e w' ⟨rfl, rfl⟩
        go_wp2_with fail
        (with_reducible refine (hc' _).out.mono ?_); rintro e w' ⟨rfl, rfl⟩
        go_wp2_with (at_builtin; refine app_i64 rfl _ _ rfl (w.heap.size + 1) _ k _ rfl hown _ rfl ?_ (by omega) (by omega) ?_; rotate_left; intro v' w2 hown2 hb2)
        · go_roundw
          case rel =>
            refine ⟨k + 1, ?_, by omega, hown2, ?_, hbr.trans (hb2.mono (by omega)), kr.below hb2 (by omega)⟩
            · congr 1; omega
            · intro j hj
              rcases Nat.lt_or_ge j k with h1 | h1
              · exact hA.out j h1
              · obtain rfl : j = k := by omega
                rw [HF.out]; exact hv
          case measure => simp [intOf] <;> omega
        · rw [HF.out]
      · have hd : digR (l[i]'hil) 10 = -1 := by unfold digR; rw [if_neg hv]
        rw [hd] at hc
        have hc' : ∀ w, Hid (Calls Tryz.prog 144 #[.int .u8 (l[i]'hil).toNat, .int .i64 10] w fun e w' => e = .returned (.int .i64 (-1)) ∧ w' = w) := hc
        have HB := hid (rOK_bad 10 l i hil hv)
        obtain ⟨⟨p1, p2⟩, q1, q2⟩ := kr.two
        clear hd hc e hfd hv
        go_wp2_with fail
        (with_reducible refine (hc' _).out.mono ?_); rintro e w' ⟨rfl, rfl⟩
        go_wp2
        refine bodyPost_ret (v := .tuple #[.agg #[.bool false, .slice none 0 0], .bool false]) (by simp [results, Tryz.results126, go_sem, p1, p2]) rfl ⟨_, by rw [HB.out], ?_, fun h => absurd h (by rw [HB.out]; decide), ⟨_, _, _, _, rfl⟩⟩
        exact (hbr.setCell (p := ⟨w.heap.size, 0, none⟩) (Nat.le_refl _) _).setCell (p := ⟨w.heap.size, 1, none⟩) (Nat.le_refl _) _
    · obtain rfl : k = l.length := by omega
      have e : (l.length : Int) - 1 - l.length = -1 := by omega
      rw [e] at hiv
      subst hiv
      have hallc : ∀ c ∈ l, valOf c < 10 := by
        intro c hc
        obtain ⟨i, hi, rfl⟩ := List.getElem_of_mem hc
        have h1 := hA.out (l.length - 1 - i) (by omega)
        unfold fdig at h1
        have e1 : l.length - 1 - (l.length - 1 - i) = i := by omega
        rw [e1, List.getD_eq_getElem?_getD, List.getElem?_eq_getElem hi] at h1
        exact h1
      have hrok : rOK 10 l = !l.isEmpty := by
        unfold rOK
        rw [List.all_eq_true.2 (fun c hc => decide_eq_true (hallc c hc)), Bool.and_true]
      have HROK := hid hrok
      have hN := numOf_lt 10 (by decide) l hallc
      have hown' := hown.congr (g := dgt 10 (numOf 10 l)) (fun j hj => (dgt_numOf 10 (by decide) l hallc j hj).symm)
      have hdl := (dlen_le_iff 10 _ _ (by decide)).2 hN
      have hcut := hown'.cut hdl
      have hct := hid (trimmedD_row hown'.row (by omega) hN)
      have HV := hid (show sgnInt b (numOf 10 l) = sgnInt b (numOf 10 l) from rfl)
      clear hallc hrok hN e hown hlt
      generalize hNN : numOf 10 l = N at *
      clear hNN
      have hrep : DecRep wr (.slice a (dlen 10 N) cap) N := Own.row hcut
      have hcn := hid (num_fn hrep (by omega) b)
      obtain ⟨⟨p1, p2⟩, q1, q2⟩ := kr.two
      go_wp2_with fail
      (with_reducible refine hct.out.mono ?_); rintro e w' ⟨rfl, rfl⟩
      go_wp2_with fail
      (with_reducible refine hcn.out.mono ?_); rintro e w1 ⟨rfl, hb1⟩
      obtain ⟨⟨r1, r2⟩, s1, s2⟩ := (kr.later hb1).two
      have hkF := own_set2 (hcut.keep hb1 (Nat.le_refl _)) (.bool (b && decide (0 < N))) (.slice a (dlen 10 N) cap) (b := w.heap.size) (by omega)
      have hbF := ((hbr.trans (hb1.mono hbr.size)).setCell (p := ⟨w.heap.size, 0, none⟩) (Nat.le_refl _) (.bool (b && decide (0 < N)))).setCell (p := ⟨w.heap.size, 1, none⟩) (Nat.le_refl _) (.slice a (dlen 10 N) cap)
      go_wp2
      refine bodyPost_ret (v := .tuple #[.agg #[.bool (b && decide (0 < N)), .slice a (dlen 10 N) cap], .bool (!l.isEmpty)]) (by simp [results, Tryz.results126, go_sem, r1, r2]) rfl ⟨_, by rw [HROK.out], hbF, fun _ => ⟨_, by rw [sgnInt_neg], ?_⟩, ⟨_, _, _, _, rfl⟩⟩
      unfold OwnDec
      rw [sgnInt_abs]
      exact hkF.mono (by omega)
end Go.Proofs.YtkhgoeippamobaaGreatDoor
