/-
  The reference: texts.
-/
import Derived.Test.YtkhgoeippamobaaGreatDoorParseFn
namespace Go.Proofs.YtkhgoeippamobaaGreatDoor
open Go.RowKit
theorem within_fn (n lo hi : Int) (w : World) : Calls Tryz.prog 163 #[.int .i64 n, .int .i64 lo, .int .i64 hi] w fun e w' => e = .returned (.bool (decide (lo ≤ n) && decide (n ≤ hi))) ∧ w' = w := by
  by_cases h1 : lo ≤ n
  · have HE := hid (show (decide (lo ≤ n) && decide (n ≤ hi)) = decide (n ≤ hi) by rw [decide_eq_true h1]; rfl)
    go_enter Tryz.func163, Tryz.ntmps163
    go_wp2
    go_ret
    exact ⟨by rw [HE.out]; rfl, rfl⟩
  · have HE := hid (show (decide (lo ≤ n) && decide (n ≤ hi)) = false by rw [decide_eq_false h1]; rfl)
    go_enter Tryz.func163, Tryz.ntmps163
    go_wp2
    go_ret
    exact ⟨by rw [HE.out]; rfl, rfl⟩
/-- a letter made small -/
def smallN (x : Nat) : Nat := if 65 ≤ x ∧ x ≤ 90 then x + 32 else x
theorem small_fn (x : Nat) (hx : x < 256) (w : World) : Calls Tryz.prog 164 #[.int .u8 x] w fun e w' => e = .returned (.int .u8 (smallN x)) ∧ w' = w := by
  have hc := hid (within_fn x 65 90 w)
  by_cases h : 65 ≤ x ∧ x ≤ 90
  · have HE := hid (show smallN x = x + 32 by unfold smallN; rw [if_pos h])
    have hb : (decide ((65 : Int) ≤ (x : Int)) && decide ((x : Int) ≤ 90)) = true := by
      rw [decide_eq_true (by omega), decide_eq_true (by omega)]; rfl
    rw [hb] at hc
    have hc := hid hc.out
    obtain ⟨g1, g2⟩ := h
    go_enter Tryz.func164, Tryz.ntmps164
    go_wp2_with fail
    (with_reducible refine hc.out.mono ?_); rintro e w' ⟨rfl, rfl⟩
    go_wp2
    go_ret
    exact ⟨by rw [HE.out]; rfl, rfl⟩
  · have HE := hid (show smallN x = x by unfold smallN; rw [if_neg h])
    have hb : (decide ((65 : Int) ≤ (x : Int)) && decide ((x : Int) ≤ 90)) = false := by
      by_cases h1 : 65 ≤ x
      · rw [decide_eq_false (show ¬ (x : Int) ≤ 90 by omega), Bool.and_false]
      · rw [decide_eq_false (show ¬ (65 : Int) ≤ (x : Int) by omega), Bool.false_and]
    rw [hb] at hc
    have hc := hid hc.out
    clear h
    go_enter Tryz.func164, Tryz.ntmps164
    go_wp2_with fail
    (with_reducible refine hc.out.mono ?_); rintro e w' ⟨rfl, rfl⟩
    go_wp2
    go_ret
    exact ⟨by rw [HE.out]; rfl, rfl⟩
/-- a digit's value to a base, or -1 -/
def digR (c : UInt8) (b : Nat) : Int := if valOf c < b then (valOf c : Int) else -1
theorem digit_fn (c : UInt8) (b : Nat) (hb : b ≤ 36) (hb2 : 2 ≤ b) (w : World) : Calls Tryz.prog 154 #[.int .u8 c.toNat, .int .i64 b] w fun e w' => e = .returned (.int .i64 (digR c b)) ∧ w' = w := by
  have hw : valOf c = if 48 ≤ c.toNat ∧ c.toNat ≤ 57 then c.toNat - 48
    else if 97 ≤ c.toNat ∧ c.toNat ≤ 122 then c.toNat - 97 + 10
    else if 65 ≤ c.toNat ∧ c.toNat ≤ 90 then c.toNat - 65 + 10
    else 36 := rfl
  have hd : digR c b = if valOf c < b then (valOf c : Int) else -1 := rfl
  have hl : c.toNat < 256 := c.toNat_lt
  generalize digR c b = R at hd ⊢
  generalize valOf c = V at hw hd
  generalize c.toNat = x at hl hw ⊢
  have hc1 := hid (within_fn x 48 57 w)
  have hsm := hid (small_fn x hl w)
  have hc2 := hid (within_fn (smallN x) 97 122 w)
  have hsl : smallN x = if 65 ≤ x ∧ x ≤ 90 then x + 32 else x := rfl
  generalize smallN x = y at hsm hc2 hsl
  have hy : y < 256 := by rw [hsl]; split <;> omega
  by_cases h1 : 48 ≤ x ∧ x ≤ 57
  · have hb1 : (decide ((48 : Int) ≤ (x : Int)) && decide ((x : Int) ≤ 57)) = true := by
      rw [decide_eq_true (by omega), decide_eq_true (by omega)]; rfl
    rw [hb1] at hc1
    have hc1 := hid hc1.out
    rw [if_pos h1] at hw
    obtain ⟨g1, g2⟩ := h1
    clear hc2 hsm hsl hy
    by_cases hlt : V < b
    · have HE := hid (show R = (x : Int) - 48 by rw [hd, if_pos hlt]; omega)
      have hlt' : (x : Int) - 48 < (b : Int) := by omega
      clear hd hw
      go_enter Tryz.func154, Tryz.ntmps154
      go_wp2_with fail
      (with_reducible refine hc1.out.mono ?_); rintro e w' ⟨rfl, rfl⟩
      go_wp2
      go_ret
      exact ⟨by rw [HE.out]; rfl, rfl⟩
    · have HE := hid (show R = -1 by rw [hd, if_neg hlt])
      have hlt' : ¬ (x : Int) - 48 < (b : Int) := by omega
      clear hd hw
      go_enter Tryz.func154, Tryz.ntmps154
      go_wp2_with fail
      (with_reducible refine hc1.out.mono ?_); rintro e w' ⟨rfl, rfl⟩
      go_wp2
      go_ret
      exact ⟨by rw [HE.out]; rfl, rfl⟩
  · have hb1 : (decide ((48 : Int) ≤ (x : Int)) && decide ((x : Int) ≤ 57)) = false := by
      by_cases h2 : 48 ≤ x
      · rw [decide_eq_false (show ¬ (x : Int) ≤ 57 by omega), Bool.and_false]
      · rw [decide_eq_false (show ¬ (48 : Int) ≤ (x : Int) by omega), Bool.false_and]
    rw [hb1] at hc1
    have hc1 := hid hc1.out
    rw [if_neg h1] at hw
    by_cases h2 : 97 ≤ y ∧ y ≤ 122
    · have hb2 : (decide ((97 : Int) ≤ (y : Int)) && decide ((y : Int) ≤ 122)) = true := by
        rw [decide_eq_true (by omega), decide_eq_true (by omega)]; rfl
      rw [hb2] at hc2
      have hc2 := hid hc2.out
      have hV : V = y - 97 + 10 := by
        rw [hw]
        by_cases h3 : 65 ≤ x ∧ x ≤ 90
        · rw [if_pos h3] at hsl; rw [if_neg (by omega), if_pos h3]; omega
        · rw [if_neg h3] at hsl; rw [hsl] at h2; rw [if_pos h2]; omega
      obtain ⟨g1, g2⟩ := h2
      clear h1 hsl hw
      by_cases hlt : V < b
      · have HE := hid (show R = (y : Int) - 97 + 10 by rw [hd, if_pos hlt]; omega)
        have hlt' : (y : Int) - 97 + 10 < (b : Int) := by omega
        clear hd hV
        go_enter Tryz.func154, Tryz.ntmps154
        go_wp2_with fail
        (with_reducible refine hc1.out.mono ?_); rintro e w' ⟨rfl, rfl⟩
        go_wp2_with fail
        (with_reducible refine hsm.out.mono ?_); rintro e w' ⟨rfl, rfl⟩
        go_wp2_with fail
        (with_reducible refine hc2.out.mono ?_); rintro e w' ⟨rfl, rfl⟩
        go_wp2_with fail
        (with_reducible refine hsm.out.mono ?_); rintro e w' ⟨rfl, rfl⟩
        go_wp2
        go_ret
        exact ⟨by rw [HE.out]; rfl, rfl⟩
      · have HE := hid (show R = -1 by rw [hd, if_neg hlt])
        have hlt' : ¬ (y : Int) - 97 + 10 < (b : Int) := by omega
        clear hd hV
        go_enter Tryz.func154, Tryz.ntmps154
        go_wp2_with fail
        (with_reducible refine hc1.out.mono ?_); rintro e w' ⟨rfl, rfl⟩
        go_wp2_with fail
        (with_reducible refine hsm.out.mono ?_); rintro e w' ⟨rfl, rfl⟩
        go_wp2_with fail
        (with_reducible refine hc2.out.mono ?_); rintro e w' ⟨rfl, rfl⟩
        go_wp2_with fail
        (with_reducible refine hsm.out.mono ?_); rintro e w' ⟨rfl, rfl⟩
        go_wp2
        go_ret
        exact ⟨by rw [HE.out]; rfl, rfl⟩
    · have hb2 : (decide ((97 : Int) ≤ (y : Int)) && decide ((y : Int) ≤ 122)) = false := by
        by_cases h3 : 97 ≤ y
        · rw [decide_eq_false (show ¬ (y : Int) ≤ 122 by omega), Bool.and_false]
        · rw [decide_eq_false (show ¬ (97 : Int) ≤ (y : Int) by omega), Bool.false_and]
      rw [hb2] at hc2
      have hc2 := hid hc2.out
      have hV : V = 36 := by
        rw [hw]
        by_cases h3 : 65 ≤ x ∧ x ≤ 90
        · rw [if_pos h3] at hsl; omega
        · rw [if_neg h3] at hsl; rw [hsl] at h2; rw [if_neg h2, if_neg h3]
      have HE := hid (show R = -1 by rw [hd, if_neg (by omega)])
      clear h1 hsl hw h2 hd hV
      go_enter Tryz.func154, Tryz.ntmps154
      go_wp2_with fail
      (with_reducible refine hc1.out.mono ?_); rintro e w' ⟨rfl, rfl⟩
      go_wp2_with fail
      (with_reducible refine hsm.out.mono ?_); rintro e w' ⟨rfl, rfl⟩
      go_wp2_with fail
      (with_reducible refine hc2.out.mono ?_); rintro e w' ⟨rfl, rfl⟩
      go_wp2
      go_ret
      exact ⟨by rw [HE.out]; rfl, rfl⟩
theorem digitR_fn (c : UInt8) (b : Nat) (hb : b ≤ 36) (hb2 : 2 ≤ b) (w : World) : Calls Tryz.prog 144 #[.int .u8 c.toNat, .int .i64 b] w fun e w' => e = .returned (.int .i64 (digR c b)) ∧ w' = w := by
  have hc := hid (digit_fn c b hb hb2 w)
  go_enter Tryz.func144, Tryz.ntmps144
  go_wp2_with fail
  (with_reducible refine hc.out.mono ?_); rintro e w' ⟨rfl, rfl⟩
  go_wp2
  go_ret
  exact ⟨rfl, rfl⟩
theorem has_fn (l : List UInt8) (hl : l.length ≤ 1000000000) (c : UInt8) (w : World) : Calls Tryz.prog 153 #[.string ⟨l.toArray⟩, .int .u8 c.toNat] w fun e w' => e = .returned (.bool (l.contains c)) ∧ w' = w := by
  have hsz : (⟨l.toArray⟩ : ByteArray).size = l.length := Lib.size_mk _
  generalize hR : l.contains c = R
  have HR := hid hR
  clear hR
  go_enter Tryz.func153, Tryz.ntmps153
  go_wp2
  go_loop [8] (fun iv => ∃ i : Nat, iv = .int .i64 i ∧ i ≤ l.length ∧ (l.take i).contains c = false) (fun iv => l.length - (intOf iv).toNat)
  case atStart => exact ⟨0, rfl, Nat.zero_le _, rfl⟩
  case round =>
    obtain ⟨i, rfl, hi, hn⟩ := hrel
    have HN := hid hn
    clear hn
    by_cases hlt : i < l.length
    · have hx : ∀ h, (⟨l.toArray⟩ : ByteArray)[i]'h = l[i]'hlt := fun h => rfl
      by_cases hc : l[i]'hlt = c
      · have hE : (((l[i]'hlt).toNat : Nat) : Int) = ((c.toNat : Nat) : Int) := by rw [hc]
        have HC := hid (show R = true by rw [← HR.out, List.contains_iff_mem]; rw [← hc]; exact List.getElem_mem hlt)
        go_wp2
        go_ret
        exact ⟨by rw [HC.out]; rfl, rfl⟩
      · have hne : ((((l[i]'hlt).toNat : Nat) : Int) == ((c.toNat : Nat) : Int)) = false := by
          have : (l[i]'hlt).toNat ≠ c.toNat := fun e => hc (UInt8.toNat_inj.1 e)
          rw [beq_eq_false_iff_ne]; omega
        go_wp2
        refine ⟨⟨i + 1, by go_num, by omega, ?_⟩, ?_⟩
        · rw [List.take_add_one, List.getElem?_eq_getElem hlt]
          have h1 := HN.out
          rw [List.contains_eq_mem, decide_eq_false_iff_not] at h1 ⊢
          intro hm
          rcases List.mem_append.1 hm with h | h
          · exact h1 h
          · exact hc (List.mem_singleton.1 h).symm
        · simp [intOf] <;> omega
    · obtain rfl : i = l.length := by omega
      have HC := hid (show R = false by have := HN.out; rw [List.take_length] at this; rw [← HR.out]; exact this)
      go_wp2
      go_ret
      exact ⟨by rw [HC.out]; rfl, rfl⟩
theorem white_has (c : UInt8) : ([9, 10, 11, 12, 13, 32] : List UInt8).contains c = isWh c := by
  have key : ∀ k : UInt8, (c = k) ↔ c.toNat = k.toNat := fun k => ⟨fun h => by rw [h], fun h => UInt8.toNat_inj.1 h⟩
  unfold isWh
  rw [List.contains_eq_mem, Bool.eq_iff_iff]
  simp only [decide_eq_true_eq, Bool.or_eq_true, Bool.and_eq_true, List.mem_cons, List.not_mem_nil, or_false, key]
  have e1 : (9 : UInt8).toNat = 9 := rfl
  have e2 : (10 : UInt8).toNat = 10 := rfl
  have e3 : (11 : UInt8).toNat = 11 := rfl
  have e4 : (12 : UInt8).toNat = 12 := rfl
  have e5 : (13 : UInt8).toNat = 13 := rfl
  have e6 : (32 : UInt8).toNat = 32 := rfl
  omega
theorem has_white (c : UInt8) (w : World) : Calls Tryz.prog 153 #[.string ⟨#[9, 10, 11, 12, 13, 32]⟩, .int .u8 c.toNat] w fun e w' => e = .returned (.bool (isWh c)) ∧ w' = w := by
  have h := has_fn [9, 10, 11, 12, 13, 32] (by decide) c w
  rw [white_has] at h
  exact h
end Go.Proofs.YtkhgoeippamobaaGreatDoor
