/-
  Part K6 of the proofs of this seat: contracts of functions and plain facts, merged from 11 texts.
-/
import Derived.BigQuiet
import Derived.Test.YtkgpmkkodpjdfaaGreatDoorK0
import Derived.Test.YtkgpmkkodpjdfaaGreatDoorK1
import Derived.Test.YtkgpmkkodpjdfaaGreatDoorK2
import Derived.Test.YtkgpmkkodpjdfaaGreatDoorK3
import Derived.Test.YtkgpmkkodpjdfaaGreatDoorK4
import Derived.Test.YtkgpmkkodpjdfaaGreatDoorK5
/-
  The reference 01: within, White, stands, First.
-/
namespace Go.Proofs.YtkgpmkkodpjdfaaGreatDoor.Pz
open Go.RowKit
set_option maxRecDepth 100000 in
theorem within1_fn (n lo hi : Int) (w : World) : Calls Tryz.prog 111 #[.int .i64 n, .int .i64 lo, .int .i64 hi] w fun e w' => e = .returned (.bool (decide (lo ≤ n) && decide (n ≤ hi))) ∧ w' = w := by
  obtain ⟨R, hR⟩ : ∃ R, R = (decide (lo ≤ n) && decide (n ≤ hi)) := ⟨_, rfl⟩
  rw [← hR]
  have HR := hid hR
  clear hR
  by_cases h1 : n ≥ lo
  · by_cases h2 : n ≤ hi
    · have hr : R = true := by rw [HR.out, decide_eq_true h1, decide_eq_true h2]; rfl
      subst hr
      go_enter Tryz.func111, Tryz.ntmps111
      go_wp2
      go_ret
      exact ⟨rfl, rfl⟩
    · have hr : R = false := by rw [HR.out, decide_eq_true h1, decide_eq_false h2]; rfl
      subst hr
      go_enter Tryz.func111, Tryz.ntmps111
      go_wp2
      go_ret
      exact ⟨rfl, rfl⟩
  · have hr : R = false := by rw [HR.out, decide_eq_false h1]; rfl
    subst hr
    go_enter Tryz.func111, Tryz.ntmps111
    go_wp2
    go_ret
    exact ⟨rfl, rfl⟩
set_option maxRecDepth 100000 in
theorem whiteR_fn (c : UInt8) (w : World) : Calls Tryz.prog 87 #[.int .u8 (c.toNat : Nat)] w fun e w' => e = .returned (.bool (white c)) ∧ w' = w := by
  have hc := hid (within1_fn (c.toNat : Nat) 9 13 w)
  have hW := hid (white_nat c)
  have hl : c.toNat < 256 := c.toNat_lt
  generalize white c = W at hW ⊢
  generalize c.toNat = x at hl hW hc ⊢
  by_cases h1 : 9 ≤ x ∧ x ≤ 13
  · have hd : (decide ((9 : Int) ≤ (x : Int)) && decide ((x : Int) ≤ 13)) = true := by simp; omega
    rw [hd] at hc
    go_enter Tryz.func87, Tryz.ntmps87
    go_wp2_with fail
    (with_reducible refine hc.out.mono ?_); rintro e w1 ⟨rfl, hw⟩; subst w1
    go_wp2
    go_ret
    exact ⟨by rw [hW.out, decide_eq_true h1.1, decide_eq_true h1.2]; rfl, rfl⟩
  · have hd : (decide ((9 : Int) ≤ (x : Int)) && decide ((x : Int) ≤ 13)) = false := by
      rw [Bool.eq_false_iff]
      intro e
      simp at e
      omega
    have hn : (decide (9 ≤ x) && decide (x ≤ 13)) = false := by
      rw [Bool.eq_false_iff]
      intro e
      simp at e
      omega
    rw [hd] at hc
    by_cases h3 : x = 32
    · have h4 : ((x : Int) == 32) = true := by rw [h3]; rfl
      have H3 := hid h3
      clear h3
      go_enter Tryz.func87, Tryz.ntmps87
      go_wp2_with fail
      (with_reducible refine hc.out.mono ?_); rintro e w1 ⟨rfl, hw⟩; subst w1
      go_wp2
      go_ret
      exact ⟨by rw [hW.out, H3.out]; rfl, rfl⟩
    · have h4 : ((x : Int) == 32) = false := by simp; omega
      go_enter Tryz.func87, Tryz.ntmps87
      go_wp2_with fail
      (with_reducible refine hc.out.mono ?_); rintro e w1 ⟨rfl, hw⟩; subst w1
      go_wp2
      go_ret
      refine ⟨?_, rfl⟩
      rw [hW.out, hn, decide_eq_false h3]
      rfl
theorem pre_take (n l : Str) (_h : n.length ≤ l.length) : n.isPrefixOf l = (l.take n.length == n) := by
  rw [Bool.eq_iff_iff, List.isPrefixOf_iff_prefix, beq_iff_eq, List.prefix_iff_eq_take]
  exact ⟨fun h => h.symm, fun h => h.symm⟩
theorem pre_short (n l : Str) (h : l.length < n.length) : n.isPrefixOf l = false := by
  rw [Bool.eq_false_iff]
  intro e
  have := (List.isPrefixOf_iff_prefix.1 e).length_le
  omega
set_option maxRecDepth 100000 in
theorem stands_fn (n s l : Str) (i : Nat) (h : At s l i) (_hs : s.length ≤ 1000000000) (_hn : n.length ≤ 1000000000) (w : World) :
    Calls Tryz.prog 94 #[.string ⟨n.toArray⟩, .string ⟨s.toArray⟩, .int .i64 (i : Nat)] w fun e w' => e = .returned (.bool (n.isPrefixOf l)) ∧ w' = w := by
  have hsz : (⟨s.toArray⟩ : ByteArray).size = s.length := Lib.size_mk _
  have hnz : (⟨n.toArray⟩ : ByteArray).size = n.length := Lib.size_mk _
  have hlen := h.len
  rcases Nat.lt_or_ge l.length n.length with hlt | hge
  · rw [pre_short n l hlt]
    have h1 : ¬ ((i : Int) ≤ (s.length : Int) - (n.length : Int)) := by omega
    go_enter Tryz.func94, Tryz.ntmps94
    go_wp2
    go_ret
    exact ⟨rfl, rfl⟩
  · have h1 : (i : Int) ≤ (s.length : Int) - (n.length : Int) := by omega
    have hex : (⟨s.toArray⟩ : ByteArray).extract i (i + n.length) = ⟨(l.take n.length).toArray⟩ := by
      have h' : At s (l.take n.length ++ l.drop n.length) i := by rw [List.take_append_drop]; exact h
      have := h'.text
      rw [List.length_take, Nat.min_eq_left hge] at this
      exact this
    obtain ⟨R, hR⟩ : ∃ R, R = n.isPrefixOf l := ⟨_, rfl⟩
    rw [← hR]
    rw [pre_take n l hge] at hR
    have HR := hid hR
    clear hR
    go_enter Tryz.func94, Tryz.ntmps94
    go_wp2
    go_ret
    refine ⟨?_, rfl⟩
    rw [HR.out]
    rfl
/-- the first place, from a place on, at which a needle stands -/
def firstI (n : Str) (f : Int) : Nat → Str → Int
  | _, [] => -1
  | i, c :: t => if decide (f ≤ (i : Int)) && n.isPrefixOf (c :: t) then (i : Int) else firstI n f (i + 1) t
set_option maxRecDepth 100000 in
set_option maxHeartbeats 1000000 in
theorem first_fn (n s : Str) (f : Int) (hn : n ≠ []) (hs : s.length ≤ 1000000000) (hnl : n.length ≤ 1000000000) (w : World) :
    Calls Tryz.prog 73 #[.string ⟨n.toArray⟩, .string ⟨s.toArray⟩, .int .i64 f] w fun e w' => e = .returned (.int .i64 (firstI n f 0 s)) ∧ w' = w := by
  have hsz : (⟨s.toArray⟩ : ByteArray).size = s.length := Lib.size_mk _
  have hne : n.isEmpty = false := by simpa using hn
  obtain ⟨R, hR⟩ : ∃ R, R = firstI n f 0 s := ⟨_, rfl⟩
  rw [← hR]
  have HR := hid hR
  clear hR
  go_enter Tryz.func73, Tryz.ntmps73
  go_wp2_with fail
  go_loopg [10] s.length (fun k iv wr => ∃ (i : Nat) (rest : Str), iv = .int .i64 (i : Nat) ∧ At s rest i ∧ R = firstI n f i rest ∧ wr = w ∧ k = rest.length)
  case atStart => exact ⟨0, s, rfl, At.start s, HR.out, rfl, rfl⟩
  case round =>
    obtain ⟨i, rest, rfl, ha, hr, hw, rfl⟩ := hrel
    replace hw := hw.symm
    subst hw
    have HR2 := hid hr
    clear hr HR
    cases rest with
    | nil =>
      have hge : s.length ≤ i := ha.nil_iff.1 rfl
      go_wp2
      go_ret
      exact ⟨by rw [HR2.out]; rfl, rfl⟩
    | cons c t =>
      have hlt := ha.lt
      have hst := stands_fn n s (c :: t) i ha hs hnl w
      obtain ⟨S, hS⟩ : ∃ S, S = n.isPrefixOf (c :: t) := ⟨_, rfl⟩
      have hr2 : R = if decide (f ≤ (i : Int)) && S then (i : Int) else firstI n f (i + 1) t := by rw [HR2.out, hS]; rfl
      rw [← hS] at hst
      have HS := hid hst
      have HR3 := hid hr2
      clear hS hst hr2 HR2
      by_cases hf : f ≤ (i : Int)
      · cases S with
        | true =>
          go_wp2_with fail
          (with_reducible refine HS.out.mono ?_); rintro e w1 ⟨rfl, hw⟩; subst w1
          go_wp2
          go_ret
          refine ⟨?_, rfl⟩
          rw [HR3.out, decide_eq_true hf]
          rfl
        | false =>
          have hR4 : R = firstI n f (i + 1) t := by rw [HR3.out, Bool.and_false, if_neg (by simp)]
          have HR4 := hid hR4
          clear hR4
          go_wp2_with fail
          (with_reducible refine HS.out.mono ?_); rintro e w1 ⟨rfl, hw⟩; subst w1
          go_wp2
          go_roundg t.length
          case measure => simp
          case rel => exact ⟨i + 1, t, by go_num, ha.tail, HR4.out, rfl, rfl⟩
      · have hR4 : R = firstI n f (i + 1) t := by rw [HR3.out, decide_eq_false hf, Bool.false_and, if_neg (by simp)]
        have HR4 := hid hR4
        clear hR4
        go_wp2
        go_roundg t.length
        case measure => simp
        case rel => exact ⟨i + 1, t, by go_num, ha.tail, HR4.out, rfl, rfl⟩
end Go.Proofs.YtkgpmkkodpjdfaaGreatDoor.Pz
/-
  The reference 06: what its walks rest on.
-/
namespace Go.Proofs.YtkgpmkkodpjdfaaGreatDoor.Pz
open Go.RowKit
end Go.Proofs.YtkgpmkkodpjdfaaGreatDoor.Pz
/-
  The reference's small, digit, Unescape.
-/
namespace Go.Proofs.YtkgpmkkodpjdfaaGreatDoor.Pz
open Go.RowKit
set_option maxRecDepth 100000 in
theorem small_fn (x r : Nat) (hl : x < 256) (hr : Hid (r = if 65 ≤ x ∧ x ≤ 90 then x + 32 else x)) (w : World) : Calls Tryz.prog 112 #[.int .u8 (x : Nat)] w fun e w' => e = .returned (.int .u8 (r : Nat)) ∧ w' = w := by
  have hc := hid (within1_fn (x : Nat) 65 90 w)
  by_cases h1 : 65 ≤ x ∧ x ≤ 90
  · have hd : (decide ((65 : Int) ≤ (x : Int)) && decide ((x : Int) ≤ 90)) = true := by simp; omega
    have hz : IntKind.u8.wrap ((x : Int) + 32) = ((x + 32 : Nat) : Int) := by rw [← u8_wrap (x + 32) (by omega)]; congr 1
    rw [hd] at hc
    go_enter Tryz.func112, Tryz.ntmps112
    go_wp2_with fail
    (with_reducible refine hc.out.mono ?_); rintro e w1 ⟨rfl, hw⟩; subst w1
    go_wp2
    go_ret
    exact ⟨ret_i (by rw [hr.out, if_pos h1]; omega), rfl⟩
  · have hd : (decide ((65 : Int) ≤ (x : Int)) && decide ((x : Int) ≤ 90)) = false := by
      rw [Bool.eq_false_iff]
      intro e
      simp at e
      omega
    rw [hd] at hc
    go_enter Tryz.func112, Tryz.ntmps112
    go_wp2_with fail
    (with_reducible refine hc.out.mono ?_); rintro e w1 ⟨rfl, hw⟩; subst w1
    go_wp2
    go_ret
    exact ⟨ret_i (by rw [hr.out, if_neg h1]), rfl⟩
set_option maxRecDepth 100000 in
set_option maxHeartbeats 1000000 in
theorem digitR_fn (c : UInt8) (b : Nat) (hb : b ≤ 16) (hb0 : 0 < b) (w : World) : Calls Tryz.prog 89 #[.int .u8 c.toNat, .int .i64 (b : Nat)] w fun e w' => e = .returned (.int .i64 (if dig16 c < b then (dig16 c : Int) else -1)) ∧ w' = w := by
  have hW := hexv_nat c
  have hl : c.toNat < 256 := c.toNat_lt
  obtain ⟨R, hR⟩ : ∃ R : Int, R = if dig16 c < b then (dig16 c : Int) else -1 := ⟨_, rfl⟩
  rw [← hR]
  rw [hW] at hR
  clear hW
  have HR := hid hR
  clear hR
  generalize c.toNat = x at hl HR ⊢
  obtain ⟨y, hy⟩ : ∃ y, y = if 65 ≤ x ∧ x ≤ 90 then x + 32 else x := ⟨_, rfl⟩
  have hy2 : y < 256 := by rw [hy]; split <;> omega
  have hY := hid hy
  have hs := hid (small_fn x y hl hY w)
  have hw1 := hid (within1_fn (x : Nat) 48 57 w)
  have hw2 := hid (within1_fn (y : Nat) 97 122 w)
  have hb1 : (0 : Int) < (b : Int) := by omega
  clear hy
  by_cases h1 : 48 ≤ x ∧ x ≤ 57
  · have hd : (decide ((48 : Int) ≤ (x : Int)) && decide ((x : Int) ≤ 57)) = true := by simp; omega
    have hz : IntKind.u8.wrap ((x : Int) - 48) = ((x - 48 : Nat) : Int) := by rw [← u8_wrap (x - 48) (by omega)]; congr 1; omega
    have hr : R = if x - 48 < b then ((x - 48 : Nat) : Int) else -1 := by rw [HR.out, if_pos h1]
    rw [hd] at hw1
    obtain ⟨v, hv⟩ : ∃ v, v = x - 48 := ⟨_, rfl⟩
    rw [← hv] at hz hr
    have hvl : v ≤ 9 := by omega
    have HR2 := hid hr
    clear hr hv
    by_cases hvb : v < b
    · have hg : ¬ ((b : Int) ≤ (v : Int)) := by omega
      go_enter Tryz.func89, Tryz.ntmps89
      go_wp2_with fail
      (with_reducible refine hw1.out.mono ?_); rintro e w1 ⟨rfl, hw⟩; subst w1
      go_wp2
      go_ret
      exact ⟨by rw [HR2.out, if_pos hvb]; rfl, rfl⟩
    · have hg : (b : Int) ≤ (v : Int) := by omega
      go_enter Tryz.func89, Tryz.ntmps89
      go_wp2_with fail
      (with_reducible refine hw1.out.mono ?_); rintro e w1 ⟨rfl, hw⟩; subst w1
      go_wp2
      go_ret
      exact ⟨by rw [HR2.out, if_neg hvb]; rfl, rfl⟩
  · have hd : (decide ((48 : Int) ≤ (x : Int)) && decide ((x : Int) ≤ 57)) = false := by
      rw [Bool.eq_false_iff]
      intro e
      simp at e
      omega
    rw [hd] at hw1
    by_cases h2 : 97 ≤ y ∧ y ≤ 122
    · have hd2 : (decide ((97 : Int) ≤ (y : Int)) && decide ((y : Int) ≤ 122)) = true := by simp; omega
      have hz : IntKind.u8.wrap ((y : Int) - 97) = ((y - 97 : Nat) : Int) := by rw [← u8_wrap (y - 97) (by omega)]; congr 1; omega
      rw [hd2] at hw2
      have hr : R = if y - 97 + 10 < b then ((y - 97 : Nat) : Int) + 10 else -1 := by
        rw [HR.out, if_neg h1]
        have := hY.out
        split at this <;> (repeat' split) <;> omega
      obtain ⟨v, hv⟩ : ∃ v, v = y - 97 := ⟨_, rfl⟩
      rw [← hv] at hz hr
      have hvl : v ≤ 25 := by omega
      have HR2 := hid hr
      clear hr hv
      by_cases hvb : v + 10 < b
      · have hg : ¬ ((b : Int) ≤ (v : Int) + 10) := by omega
        go_enter Tryz.func89, Tryz.ntmps89
        go_wp2_with fail
        (with_reducible refine hw1.out.mono ?_); rintro e w1 ⟨rfl, hw⟩; subst w1
        go_wp2_with fail
        (with_reducible refine hs.out.mono ?_); rintro e w1 ⟨rfl, hw⟩; subst w1
        go_wp2_with fail
        (with_reducible refine hw2.out.mono ?_); rintro e w1 ⟨rfl, hw⟩; subst w1
        go_wp2_with fail
        (with_reducible refine hs.out.mono ?_); rintro e w1 ⟨rfl, hw⟩; subst w1
        go_wp2
        go_ret
        exact ⟨by rw [HR2.out, if_pos hvb]; rfl, rfl⟩
      · have hg : (b : Int) ≤ (v : Int) + 10 := by omega
        go_enter Tryz.func89, Tryz.ntmps89
        go_wp2_with fail
        (with_reducible refine hw1.out.mono ?_); rintro e w1 ⟨rfl, hw⟩; subst w1
        go_wp2_with fail
        (with_reducible refine hs.out.mono ?_); rintro e w1 ⟨rfl, hw⟩; subst w1
        go_wp2_with fail
        (with_reducible refine hw2.out.mono ?_); rintro e w1 ⟨rfl, hw⟩; subst w1
        go_wp2_with fail
        (with_reducible refine hs.out.mono ?_); rintro e w1 ⟨rfl, hw⟩; subst w1
        go_wp2
        go_ret
        exact ⟨by rw [HR2.out, if_neg hvb]; rfl, rfl⟩
    · have hd2 : (decide ((97 : Int) ≤ (y : Int)) && decide ((y : Int) ≤ 122)) = false := by
        rw [Bool.eq_false_iff]
        intro e
        simp at e
        omega
      rw [hd2] at hw2
      have hr : R = -1 := by
        rw [HR.out, if_neg h1]
        have := hY.out
        split at this <;> (repeat' split) <;> omega
      have HR2 := hid hr
      clear hr
      have hg : ¬ ((b : Int) ≤ -1) := by omega
      go_enter Tryz.func89, Tryz.ntmps89
      go_wp2_with fail
      (with_reducible refine hw1.out.mono ?_); rintro e w1 ⟨rfl, hw⟩; subst w1
      go_wp2_with fail
      (with_reducible refine hs.out.mono ?_); rintro e w1 ⟨rfl, hw⟩; subst w1
      go_wp2_with fail
      (with_reducible refine hw2.out.mono ?_); rintro e w1 ⟨rfl, hw⟩; subst w1
      go_wp2
      go_ret
      rw [HR2.out]
      exact ⟨rfl, rfl⟩
theorem named_first (c : UInt8) : firstI [c] 0 0 [97, 98, 102, 110, 114, 116, 118] = match named1 c with
    | some x => (if x.toNat = 7 then 0 else if x.toNat = 8 then 1 else if x.toNat = 12 then 2 else if x.toNat = 10 then 3 else if x.toNat = 13 then 4 else if x.toNat = 9 then 5 else 6)
    | none => -1 := by
  unfold named1
  by_cases h1 : c = 97
  · subst h1; rfl
  by_cases h2 : c = 98
  · subst h2; rfl
  by_cases h3 : c = 116
  · subst h3; rfl
  by_cases h4 : c = 110
  · subst h4; rfl
  by_cases h5 : c = 118
  · subst h5; rfl
  by_cases h6 : c = 102
  · subst h6; rfl
  by_cases h7 : c = 114
  · subst h7; rfl
  simp [firstI, List.isPrefixOf, h1, h2, h3, h4, h5, h6, h7]
theorem unescNo_fn (c : UInt8) (t : Str) (ht : t.length ≤ 1000000) (h : c ≠ 92) (w : World) :
    Calls Tryz.prog 63 #[.string ⟨(c :: t).toArray⟩] w fun e w' => e = .returned (.tuple #[.string ⟨#[]⟩, .int .i64 0]) ∧ w' = w := by
  have hsz : (⟨(c :: t).toArray⟩ : ByteArray).size = t.length + 1 := by rw [Lib.size_mk]; simp
  have hx : ∀ h, (⟨(c :: t).toArray⟩ : ByteArray)[0]'h = c := fun h => rfl
  have hb := byte_ne' 92 h rfl
  go_enter Tryz.func63, Tryz.ntmps63
  go_wp2
  go_ret2
  exact ⟨rfl, rfl⟩
set_option maxRecDepth 100000 in
set_option maxHeartbeats 8000000 in
theorem unescR_fn (t : Str) (ht : t.length ≤ 1000000) (w : World) :
    Calls Tryz.prog 63 #[.string ⟨(92 :: t).toArray⟩] w fun e w' => e = .returned (.tuple #[.string ⟨(unesc t).1.toArray⟩, .int .i64 (((t.length + 1 - (unesc t).2.length : Nat) : Nat) : Int)]) ∧ Below w.heap.size w w' := by
  cases t with
  | nil =>
    go_enter Tryz.func63, Tryz.ntmps63
    go_wp2
    go_ret2
    exact ⟨rfl, Below.refl _ _⟩
  | cons c t =>
    have hsz : (⟨(92 :: c :: t).toArray⟩ : ByteArray).size = t.length + 2 := by rw [Lib.size_mk]; simp
    have hx : ∀ h, (⟨(92 :: c :: t).toArray⟩ : ByteArray)[0]'h = 92 := fun h => rfl
    have hx1 : ∀ h, (⟨(92 :: c :: t).toArray⟩ : ByteArray)[1]'h = c := fun h => rfl
    have hs12 : (⟨(92 :: c :: t).toArray⟩ : ByteArray).extract 1 2 = ⟨[c].toArray⟩ := by rw [Lib.extract_mk]; simp
    have ht' : t.length ≤ 999999 := by simpa using ht
    have hf : ∀ u, Calls Tryz.prog 73 #[.string ⟨[c].toArray⟩, .string ⟨#[97, 98, 102, 110, 114, 116, 118]⟩, .int .i64 0] u fun e w' => e = .returned (.int .i64 (firstI [c] 0 0 [97, 98, 102, 110, 114, 116, 118])) ∧ w' = u := fun u => first_fn [c] [97, 98, 102, 110, 114, 116, 118] 0 (by simp) (by simp) (by simp) u
    rw [named_first] at hf
    clear ht
    show Calls _ _ _ _ fun e w' => e = .returned (.tuple #[.string ⟨(unesc1 c t).1.toArray⟩, .int .i64 (((t.length + 1 + 1 - (unesc1 c t).2.length : Nat) : Nat) : Int)]) ∧ Below w.heap.size w w'
    obtain ⟨r, hr⟩ : ∃ r, r = unesc1 c t := ⟨_, rfl⟩
    rw [← hr]
    by_cases hn : (named1 c).isSome = true
    · have hcs : c = 97 ∨ c = 98 ∨ c = 116 ∨ c = 110 ∨ c = 118 ∨ c = 102 ∨ c = 114 := by
        unfold named1 at hn
        by_cases h1 : c = 97
        · exact .inl h1
        by_cases h2 : c = 98
        · exact .inr (.inl h2)
        by_cases h3 : c = 116
        · exact .inr (.inr (.inl h3))
        by_cases h4 : c = 110
        · exact .inr (.inr (.inr (.inl h4)))
        by_cases h5 : c = 118
        · exact .inr (.inr (.inr (.inr (.inl h5))))
        by_cases h6 : c = 102
        · exact .inr (.inr (.inr (.inr (.inr (.inl h6)))))
        by_cases h7 : c = 114
        · exact .inr (.inr (.inr (.inr (.inr (.inr h7)))))
        simp [h1, h2, h3, h4, h5, h6, h7] at hn
      rcases hcs with rfl | rfl | rfl | rfl | rfl | rfl | rfl
      · have hr2 : r = ([7], t) := by rw [hr]; rfl
        subst hr2
        have hf2 := hid (show ∀ u, Calls Tryz.prog 73 #[.string ⟨#[97]⟩, .string ⟨#[97, 98, 102, 110, 114, 116, 118]⟩, .int .i64 0] u fun e w' => e = .returned (.int .i64 0) ∧ w' = u from hf)
        have hk : (⟨#[7, 8, 12, 10, 13, 9, 11]⟩ : ByteArray).extract 0 1 = ⟨#[7]⟩ := by decide
        clear hf hr hn
        go_enter Tryz.func63, Tryz.ntmps63
        go_wp2_with fail
        (with_reducible refine (hf2.out _).mono ?_); rintro e w1 ⟨rfl, hw⟩; subst w1
        go_wp2
        go_ret2
        exact ⟨ret_si rfl (by omega), Below.refl _ _⟩
      · have hr2 : r = ([8], t) := by rw [hr]; rfl
        subst hr2
        have hf2 := hid (show ∀ u, Calls Tryz.prog 73 #[.string ⟨#[98]⟩, .string ⟨#[97, 98, 102, 110, 114, 116, 118]⟩, .int .i64 0] u fun e w' => e = .returned (.int .i64 1) ∧ w' = u from hf)
        have hk : (⟨#[7, 8, 12, 10, 13, 9, 11]⟩ : ByteArray).extract 1 2 = ⟨#[8]⟩ := by decide
        clear hf hr hn
        go_enter Tryz.func63, Tryz.ntmps63
        go_wp2_with fail
        (with_reducible refine (hf2.out _).mono ?_); rintro e w1 ⟨rfl, hw⟩; subst w1
        go_wp2
        go_ret2
        exact ⟨ret_si rfl (by omega), Below.refl _ _⟩
      · have hr2 : r = ([9], t) := by rw [hr]; rfl
        subst hr2
        have hf2 := hid (show ∀ u, Calls Tryz.prog 73 #[.string ⟨#[116]⟩, .string ⟨#[97, 98, 102, 110, 114, 116, 118]⟩, .int .i64 0] u fun e w' => e = .returned (.int .i64 5) ∧ w' = u from hf)
        have hk : (⟨#[7, 8, 12, 10, 13, 9, 11]⟩ : ByteArray).extract 5 6 = ⟨#[9]⟩ := by decide
        clear hf hr hn
        go_enter Tryz.func63, Tryz.ntmps63
        go_wp2_with fail
        (with_reducible refine (hf2.out _).mono ?_); rintro e w1 ⟨rfl, hw⟩; subst w1
        go_wp2
        go_ret2
        exact ⟨ret_si rfl (by omega), Below.refl _ _⟩
      · have hr2 : r = ([10], t) := by rw [hr]; rfl
        subst hr2
        have hf2 := hid (show ∀ u, Calls Tryz.prog 73 #[.string ⟨#[110]⟩, .string ⟨#[97, 98, 102, 110, 114, 116, 118]⟩, .int .i64 0] u fun e w' => e = .returned (.int .i64 3) ∧ w' = u from hf)
        have hk : (⟨#[7, 8, 12, 10, 13, 9, 11]⟩ : ByteArray).extract 3 4 = ⟨#[10]⟩ := by decide
        clear hf hr hn
        go_enter Tryz.func63, Tryz.ntmps63
        go_wp2_with fail
        (with_reducible refine (hf2.out _).mono ?_); rintro e w1 ⟨rfl, hw⟩; subst w1
        go_wp2
        go_ret2
        exact ⟨ret_si rfl (by omega), Below.refl _ _⟩
      · have hr2 : r = ([11], t) := by rw [hr]; rfl
        subst hr2
        have hf2 := hid (show ∀ u, Calls Tryz.prog 73 #[.string ⟨#[118]⟩, .string ⟨#[97, 98, 102, 110, 114, 116, 118]⟩, .int .i64 0] u fun e w' => e = .returned (.int .i64 6) ∧ w' = u from hf)
        have hk : (⟨#[7, 8, 12, 10, 13, 9, 11]⟩ : ByteArray).extract 6 7 = ⟨#[11]⟩ := by decide
        clear hf hr hn
        go_enter Tryz.func63, Tryz.ntmps63
        go_wp2_with fail
        (with_reducible refine (hf2.out _).mono ?_); rintro e w1 ⟨rfl, hw⟩; subst w1
        go_wp2
        go_ret2
        exact ⟨ret_si rfl (by omega), Below.refl _ _⟩
      · have hr2 : r = ([12], t) := by rw [hr]; rfl
        subst hr2
        have hf2 := hid (show ∀ u, Calls Tryz.prog 73 #[.string ⟨#[102]⟩, .string ⟨#[97, 98, 102, 110, 114, 116, 118]⟩, .int .i64 0] u fun e w' => e = .returned (.int .i64 2) ∧ w' = u from hf)
        have hk : (⟨#[7, 8, 12, 10, 13, 9, 11]⟩ : ByteArray).extract 2 3 = ⟨#[12]⟩ := by decide
        clear hf hr hn
        go_enter Tryz.func63, Tryz.ntmps63
        go_wp2_with fail
        (with_reducible refine (hf2.out _).mono ?_); rintro e w1 ⟨rfl, hw⟩; subst w1
        go_wp2
        go_ret2
        exact ⟨ret_si rfl (by omega), Below.refl _ _⟩
      · have hr2 : r = ([13], t) := by rw [hr]; rfl
        subst hr2
        have hf2 := hid (show ∀ u, Calls Tryz.prog 73 #[.string ⟨#[114]⟩, .string ⟨#[97, 98, 102, 110, 114, 116, 118]⟩, .int .i64 0] u fun e w' => e = .returned (.int .i64 4) ∧ w' = u from hf)
        have hk : (⟨#[7, 8, 12, 10, 13, 9, 11]⟩ : ByteArray).extract 4 5 = ⟨#[13]⟩ := by decide
        clear hf hr hn
        go_enter Tryz.func63, Tryz.ntmps63
        go_wp2_with fail
        (with_reducible refine (hf2.out _).mono ?_); rintro e w1 ⟨rfl, hw⟩; subst w1
        go_wp2
        go_ret2
        exact ⟨ret_si rfl (by omega), Below.refl _ _⟩
    · have hn0 : named1 c = none := by simpa using hn
      rw [hn0] at hf
      dsimp only at hf
      have HF := hid hf
      unfold unesc1 at hr
      rw [hn0] at hr
      dsimp only at hr
      clear hf hn hn0
      have hatt : At (92 :: c :: t) t 2 := (At.start (92 :: c :: t)).tail.tail
      have hatc : At (92 :: c :: t) (c :: t) 1 := (At.start (92 :: c :: t)).tail
      by_cases h10 : c = 10
      · subst h10
        rw [if_pos (by decide)] at hr
        subst hr
        replace HF := hid (show ∀ u, Calls Tryz.prog 73 #[.string ⟨#[10]⟩, .string ⟨#[97, 98, 102, 110, 114, 116, 118]⟩, .int .i64 0] u fun e w' => e = .returned (.int .i64 (-1)) ∧ w' = u from HF.out)
        clear hatc
        go_enter Tryz.func63, Tryz.ntmps63
        go_wp2_with fail
        (with_reducible refine (HF.out _).mono ?_); rintro e w1 ⟨rfl, hw⟩; subst w1
        go_wp2_with fail
        go_loopg [3] t.length (fun k nv wr => ∃ (n : Nat) (rest : Str), nv = .int .i64 (n : Nat) ∧ At (92 :: 10 :: t) rest n ∧ blanks0 rest = blanks0 t ∧ wr = w ∧ k = rest.length)
        case atStart => exact ⟨2, t, rfl, hatt, rfl, rfl, rfl⟩
        case round =>
          obtain ⟨n, rest, rfl, ha, hb, hw, rfl⟩ := hrel
          replace hw := hw.symm
          subst hw
          have HB := hid hb
          clear hb hatt
          have hlen := ha.len
          simp only [List.length_cons] at hlen
          cases rest with
          | nil =>
            have hge : ¬ ((n : Int) < ((t.length + 2 : Nat) : Int)) := by simp at hlen; omega
            have hge2 : t.length + 2 ≤ n := by simp at hlen; omega
            go_wp2
            go_ret2
            exact ⟨ret_si rfl (by have := HB.out; rw [← this]; simp [blanks0] at hlen ⊢; omega), Below.refl _ _⟩
          | cons d rest =>
            have hlt : n < t.length + 2 := by simp at hlen; omega
            have hxd := ha.byte
            simp only [List.length_cons] at hlen
            by_cases hd : d = 32
            · subst hd
              go_wp2
              go_roundg rest.length
              case measure => simp
              case rel => exact ⟨n + 1, rest, by go_num, ha.tail, by rw [← HB.out]; rfl, rfl, rfl⟩
            · have e1 := byte_ne 32 hd rfl
              by_cases hd9 : d = 9
              · subst hd9
                go_wp2
                go_roundg rest.length
                case measure => simp
                case rel => exact ⟨n + 1, rest, by go_num, ha.tail, by rw [← HB.out]; rfl, rfl, rfl⟩
              · have e2 := byte_ne 9 hd9 rfl
                have hres : blanks0 t = d :: rest := by rw [← HB.out, blanks0_cons, if_neg (by simp [hd, hd9])]
                have HR := hid hres
                clear hres
                go_wp2
                go_ret2
                exact ⟨ret_si rfl (by rw [HR.out, List.length_cons]; omega), Below.refl _ _⟩
      · rw [if_neg (by simpa using h10)] at hr
        have n10 := byte_ne 10 h10 rfl
        by_cases h120 : c = 120
        · subst h120
          rw [if_pos (by decide)] at hr
          replace HF := hid (show ∀ u, Calls Tryz.prog 73 #[.string ⟨#[120]⟩, .string ⟨#[97, 98, 102, 110, 114, 116, 118]⟩, .int .i64 0] u fun e w' => e = .returned (.int .i64 (-1)) ∧ w' = u from HF.out)
          have hat := hatt
          clear hatc hatt
          have hd3 : ∀ (d : UInt8) u, Hid (Calls Tryz.prog 89 #[.int .u8 d.toNat, .int .i64 16] u fun e w' => e = .returned (.int .i64 (if dig16 d < 16 then (dig16 d : Int) else -1)) ∧ w' = u) := fun d u => digitR_fn d 16 (by decide) (by decide) u
          obtain ⟨V, hV⟩ : ∃ V, V = digs 16 2 0 t := ⟨_, rfl⟩
          rw [← hV] at hr
          have HV := hid hV
          have HR := hid hr
          clear hr hV
          go_enter Tryz.func63, Tryz.ntmps63
          go_wp2_with fail
          (with_reducible refine (HF.out _).mono ?_); rintro e w1 ⟨rfl, hw⟩; subst w1
          go_wp2_with fail
          go_loopg [3, 8] 2 (fun k nv vv wr => ∃ (n v j : Nat) (rest : Str), nv = .int .i64 (n : Nat) ∧ vv = .int .i64 (v : Nat) ∧ n = 2 + j ∧ j ≤ 2 ∧ v < 16 ^ j ∧ At (92 :: 120 :: t) rest n ∧ digs 16 (2 - j) v rest = V ∧ wr = w ∧ k = 2 - j)
          case atStart => exact ⟨2, 0, 0, t, rfl, rfl, rfl, Nat.zero_le _, by decide, hat, HV.out.symm, rfl, rfl⟩
          case round =>
            obtain ⟨n, v, j, rest, rfl, rfl, hnj, hj, hv, ha, hdg, hw, rfl⟩ := hrel
            clear hx1
            replace hw := hw.symm
            subst hw
            have HD := hid hdg
            have HP := hid hv
            have HN := hid hnj
            have hn2 : 2 ≤ n := by omega
            have hn3 : n ≤ 4 := by omega
            have hv4 : v < 4096 := Nat.lt_of_lt_of_le hv (show 16 ^ j ≤ 16 ^ 3 from Nat.pow_le_pow_right (by decide) (by omega))
            clear hdg hv hat hnj
            have hlen := ha.len
            simp only [List.length_cons] at hlen
            have hcv := fun u => one_back (UInt8.ofNat v) u
            rw [show ((UInt8.ofNat v).toNat : Int) = (v : Int) % 256 by rw [UInt8.toNat_ofNat']; omega] at hcv
            have fin : V = (v, rest) → (n = 2 → r = ([120], t)) ∧ (n ≠ 2 → r = ([UInt8.ofNat v], rest)) := by
              intro hVe
              have hr := HR.out
              rw [hVe] at hr
              dsimp only at hr
              refine ⟨fun h => ?_, fun h => ?_⟩
              · rw [hr, if_neg]
                first
                  | omega
                  | (simp only [List.length_cons]; omega)
              · rw [hr, if_pos]
                first
                  | omega
                  | (simp only [List.length_cons]; omega)
            cases rest with
            | nil =>
              have hge : ¬ (n < t.length + 2) := by simp at hlen; omega
              have hVe : V = (v, []) := by rw [← HD.out, digs_nil]
              obtain ⟨f1, f2⟩ := fin hVe
              clear fin hVe
              by_cases hn1 : n = 2
              · have hr1 := f1 hn1
                subst hr1
                subst hn1
                clear f1 f2
                go_wp2
                go_ret2
                exact ⟨ret_si rfl (by (try simp only [List.length_cons, List.length_nil] at *); omega), Below.refl _ _⟩
              · have hr1 := f2 hn1
                subst hr1
                have hne : ((n : Int) == 2) = false := by rw [beq_eq_false_iff_ne]; omega
                clear f1 f2
                go_wp2
                go_ret2
                exact ⟨ret_si rfl (by (try simp only [List.length_cons, List.length_nil] at *); omega), (Below.refl _ _).alloc (Nat.le_refl _) _⟩
            | cons d rest =>
              have hlt : n < t.length + 2 := by simp at hlen; omega
              have hxd := ha.byte
              simp only [List.length_cons] at hlen
              by_cases hjm : j = 2
              · have hge : ¬ ((n : Int) < 4) := by have := HN.out; omega
                have hVe : V = (v, d :: rest) := by rw [← HD.out, hjm]; rfl
                obtain ⟨f1, f2⟩ := fin hVe
                clear fin hVe
                have hn1 : n ≠ 2 := by have := HN.out; omega
                have hr1 := f2 hn1
                subst hr1
                have hne : ((n : Int) == 2) = false := by rw [beq_eq_false_iff_ne]; omega
                clear f1 f2
                go_wp2
                go_ret2
                exact ⟨ret_si rfl (by (try simp only [List.length_cons, List.length_nil] at *); omega), (Below.refl _ _).alloc (Nat.le_refl _) _⟩
              · have hlt2 : (n : Int) < 4 := by have := HN.out; omega
                have hstep : digs 16 (2 - j) v (d :: rest) = if dig16 d < 16 then digs 16 (2 - (j + 1)) (v * 16 + dig16 d) rest else (v, d :: rest) := by
                  rw [show 2 - j = (2 - (j + 1)) + 1 by omega, digs_step 16 _ v (by decide)]
                rw [HD.out] at hstep
                by_cases hdd : dig16 d < 16
                · rw [if_pos hdd] at hstep
                  have HS := hid hstep.symm
                  have hdl := dig16_le d
                  have hc := hd3 d w
                  rw [if_pos hdd] at hc
                  obtain ⟨q, hq⟩ : ∃ q, q = dig16 d := ⟨_, rfl⟩
                  rw [← hq] at hc HS hdl hdd
                  clear hstep hq fin
                  have hp2 : v * 16 + q < 16 ^ (j + 1) := by
                    have := HP.out
                    rw [Nat.pow_succ]
                    omega
                  have HP2 := hid hp2
                  clear hp2
                  go_wp2_with fail
                  (with_reducible refine hc.out.mono ?_); rintro e w1 ⟨rfl, hw⟩; subst w1
                  go_wp2_with fail
                  (with_reducible refine hc.out.mono ?_); rintro e w1 ⟨rfl, hw⟩; subst w1
                  go_wp2
                  go_roundg (2 - (j + 1))
                  case measure => omega
                  case rel => exact ⟨n + 1, v * 16 + q, j + 1, rest, by go_num, by go_num, by have := HN.out; omega, by omega, HP2.out, ha.tail, HS.out, rfl, rfl⟩
                · rw [if_neg hdd] at hstep
                  obtain ⟨f1, f2⟩ := fin hstep
                  have hc := hd3 d w
                  rw [if_neg hdd] at hc
                  clear fin hstep
                  by_cases hn1 : n = 2
                  · have hr1 := f1 hn1
                    subst hr1
                    subst hn1
                    clear f1 f2
                    go_wp2_with fail
                    (with_reducible refine hc.out.mono ?_); rintro e w1 ⟨rfl, hw⟩; subst w1
                    go_wp2
                    go_ret2
                    exact ⟨ret_si rfl (by (try simp only [List.length_cons, List.length_nil] at *); omega), Below.refl _ _⟩
                  · have hr1 := f2 hn1
                    subst hr1
                    have hne : ((n : Int) == 2) = false := by rw [beq_eq_false_iff_ne]; omega
                    clear f1 f2
                    go_wp2_with fail
                    (with_reducible refine hc.out.mono ?_); rintro e w1 ⟨rfl, hw⟩; subst w1
                    go_wp2
                    go_ret2
                    exact ⟨ret_si rfl (by (try simp only [List.length_cons, List.length_nil] at *); omega), (Below.refl _ _).alloc (Nat.le_refl _) _⟩
        · have n120 := byte_ne 120 h120 rfl
          rw [if_neg (by simpa using h120)] at hr
          have hat := hatc
          clear hatc hatt
          have hd3 : ∀ (d : UInt8) u, Hid (Calls Tryz.prog 89 #[.int .u8 d.toNat, .int .i64 8] u fun e w' => e = .returned (.int .i64 (if dig16 d < 8 then (dig16 d : Int) else -1)) ∧ w' = u) := fun d u => digitR_fn d 8 (by decide) (by decide) u
          obtain ⟨V, hV⟩ : ∃ V, V = digs 8 3 0 (c :: t) := ⟨_, rfl⟩
          rw [← hV] at hr
          have HV := hid hV
          have HR := hid hr
          clear hr hV
          go_enter Tryz.func63, Tryz.ntmps63
          go_wp2_with fail
          (with_reducible refine (HF.out _).mono ?_); rintro e w1 ⟨rfl, hw⟩; subst w1
          go_wp2_with fail
          go_loopg [3, 8] 3 (fun k nv vv wr => ∃ (n v j : Nat) (rest : Str), nv = .int .i64 (n : Nat) ∧ vv = .int .i64 (v : Nat) ∧ n = 1 + j ∧ j ≤ 3 ∧ v < 16 ^ j ∧ At (92 :: c :: t) rest n ∧ digs 8 (3 - j) v rest = V ∧ wr = w ∧ k = 3 - j)
          case atStart => exact ⟨1, 0, 0, (c :: t), rfl, rfl, rfl, Nat.zero_le _, by decide, hat, HV.out.symm, rfl, rfl⟩
          case round =>
            obtain ⟨n, v, j, rest, rfl, rfl, hnj, hj, hv, ha, hdg, hw, rfl⟩ := hrel
            clear hx1
            replace hw := hw.symm
            subst hw
            have HD := hid hdg
            have HP := hid hv
            have HN := hid hnj
            have hn2 : 1 ≤ n := by omega
            have hn3 : n ≤ 4 := by omega
            have hv4 : v < 4096 := Nat.lt_of_lt_of_le hv (show 16 ^ j ≤ 16 ^ 3 from Nat.pow_le_pow_right (by decide) (by omega))
            clear hdg hv hat hnj
            have hlen := ha.len
            simp only [List.length_cons] at hlen
            have hcv := fun u => one_back (UInt8.ofNat v) u
            rw [show ((UInt8.ofNat v).toNat : Int) = (v : Int) % 256 by rw [UInt8.toNat_ofNat']; omega] at hcv
            have fin : V = (v, rest) → (n = 1 → r = ([c], t)) ∧ (n ≠ 1 → r = ([UInt8.ofNat v], rest)) := by
              intro hVe
              have hr := HR.out
              rw [hVe] at hr
              dsimp only at hr
              refine ⟨fun h => ?_, fun h => ?_⟩
              · rw [hr, if_neg]
                first
                  | omega
                  | (simp only [List.length_cons]; omega)
              · rw [hr, if_pos]
                first
                  | omega
                  | (simp only [List.length_cons]; omega)
            cases rest with
            | nil =>
              have hge : ¬ (n < t.length + 2) := by simp at hlen; omega
              have hVe : V = (v, []) := by rw [← HD.out, digs_nil]
              obtain ⟨f1, f2⟩ := fin hVe
              clear fin hVe
              have hn1 : n ≠ 1 := by simp at hlen; omega
              have hr1 := f2 hn1
              subst hr1
              have hne : ((n : Int) == 1) = false := by rw [beq_eq_false_iff_ne]; omega
              clear f1 f2
              go_wp2
              go_ret2
              exact ⟨ret_si rfl (by (try simp only [List.length_cons, List.length_nil] at *); omega), (Below.refl _ _).alloc (Nat.le_refl _) _⟩
            | cons d rest =>
              have hlt : n < t.length + 2 := by simp at hlen; omega
              have hxd := ha.byte
              simp only [List.length_cons] at hlen
              by_cases hjm : j = 3
              · have hge : ¬ ((n : Int) < 4) := by have := HN.out; omega
                have hVe : V = (v, d :: rest) := by rw [← HD.out, hjm]; rfl
                obtain ⟨f1, f2⟩ := fin hVe
                clear fin hVe
                have hn1 : n ≠ 1 := by have := HN.out; omega
                have hr1 := f2 hn1
                subst hr1
                have hne : ((n : Int) == 1) = false := by rw [beq_eq_false_iff_ne]; omega
                clear f1 f2
                go_wp2
                go_ret2
                exact ⟨ret_si rfl (by (try simp only [List.length_cons, List.length_nil] at *); omega), (Below.refl _ _).alloc (Nat.le_refl _) _⟩
              · have hlt2 : (n : Int) < 4 := by have := HN.out; omega
                have hstep : digs 8 (3 - j) v (d :: rest) = if dig16 d < 8 then digs 8 (3 - (j + 1)) (v * 8 + dig16 d) rest else (v, d :: rest) := by
                  rw [show 3 - j = (3 - (j + 1)) + 1 by omega, digs_step 8 _ v (by decide)]
                rw [HD.out] at hstep
                by_cases hdd : dig16 d < 8
                · rw [if_pos hdd] at hstep
                  have HS := hid hstep.symm
                  have hdl := dig16_le d
                  have hc := hd3 d w
                  rw [if_pos hdd] at hc
                  obtain ⟨q, hq⟩ : ∃ q, q = dig16 d := ⟨_, rfl⟩
                  rw [← hq] at hc HS hdl hdd
                  clear hstep hq fin
                  have hp2 : v * 8 + q < 16 ^ (j + 1) := by
                    have := HP.out
                    rw [Nat.pow_succ]
                    omega
                  have HP2 := hid hp2
                  clear hp2
                  go_wp2_with fail
                  (with_reducible refine hc.out.mono ?_); rintro e w1 ⟨rfl, hw⟩; subst w1
                  go_wp2_with fail
                  (with_reducible refine hc.out.mono ?_); rintro e w1 ⟨rfl, hw⟩; subst w1
                  go_wp2
                  go_roundg (3 - (j + 1))
                  case measure => omega
                  case rel => exact ⟨n + 1, v * 8 + q, j + 1, rest, by go_num, by go_num, by have := HN.out; omega, by omega, HP2.out, ha.tail, HS.out, rfl, rfl⟩
                · rw [if_neg hdd] at hstep
                  obtain ⟨f1, f2⟩ := fin hstep
                  have hc := hd3 d w
                  rw [if_neg hdd] at hc
                  clear fin hstep
                  by_cases hn1 : n = 1
                  · have hr1 := f1 hn1
                    subst hr1
                    subst hn1
                    clear f1 f2
                    go_wp2_with fail
                    (with_reducible refine hc.out.mono ?_); rintro e w1 ⟨rfl, hw⟩; subst w1
                    go_wp2
                    go_ret2
                    exact ⟨ret_si rfl (by (try simp only [List.length_cons, List.length_nil] at *); omega), Below.refl _ _⟩
                  · have hr1 := f2 hn1
                    subst hr1
                    have hne : ((n : Int) == 1) = false := by rw [beq_eq_false_iff_ne]; omega
                    clear f1 f2
                    go_wp2_with fail
                    (with_reducible refine hc.out.mono ?_); rintro e w1 ⟨rfl, hw⟩; subst w1
                    go_wp2
                    go_ret2
                    exact ⟨ret_si rfl (by (try simp only [List.length_cons, List.length_nil] at *); omega), (Below.refl _ _).alloc (Nat.le_refl _) _⟩
end Go.Proofs.YtkgpmkkodpjdfaaGreatDoor.Pz
/-
  The reference 06: the reader in memory; fold, ends, blanks.
-/
namespace Go.Proofs.YtkgpmkkodpjdfaaGreatDoor.Pz
open Go.RowKit
/-- a reader of the reference -/
def RrAt (w : World) (rb : Nat) (s : Str) (d : Nat) (g : Told) : Prop :=
  w.heap[rb]? = some (.cells #[.string ⟨s.toArray⟩, .int .i64 (d : Int), .bool g.slashes, .bool g.vars, .bool g.scripts] 61 (0, 0))
theorem RrAt.cells {w : World} {rb : Nat} {s : Str} {d : Nat} {g : Told} (h : RrAt w rb s d g) :
    w.cell? ⟨rb, 0, none⟩ = some (.string ⟨s.toArray⟩) ∧ w.cell? ⟨rb, 1, none⟩ = some (.int .i64 (d : Int)) ∧ w.cell? ⟨rb, 2, none⟩ = some (.bool g.slashes) ∧
    w.cell? ⟨rb, 3, none⟩ = some (.bool g.vars) ∧ w.cell? ⟨rb, 4, none⟩ = some (.bool g.scripts) := by
  unfold RrAt at h
  simp [World.cell?, h]
theorem RrAt.lt {w : World} {rb : Nat} {s : Str} {d : Nat} {g : Told} (h : RrAt w rb s d g) : rb < w.heap.size := (Array.getElem?_eq_some_iff.1 h).1
theorem RrAt.below {w w' : World} {rb : Nat} {s : Str} {d : Nat} {g : Told} (h : RrAt w rb s d g) (hb : Below w.heap.size w w') : RrAt w' rb s d g := (hb.block rb h.lt).trans h
/-- how many bytes an escaped line feed takes -/
def foldN (l : Str) : Nat := if joins l then l.length - (blanks0 (l.drop 2)).length else 0
theorem joins_ne {c : UInt8} {t : Str} (h : c ≠ 92) : joins (c :: t) = false := by
  unfold joins
  split
  · rename_i e
    simp only [List.cons.injEq] at e
    exact absurd e.1 h
  · rfl
theorem joins_ne2 {c d : UInt8} {t : Str} (h : d ≠ 10) : joins (c :: d :: t) = false := by
  unfold joins
  split
  · rename_i e
    simp only [List.cons.injEq] at e
    exact absurd e.2.1 h
  · rfl
theorem foldN_pos {l : Str} : 0 < foldN l ↔ joins l = true := by
  unfold foldN
  cases hj : joins l
  · simp
  · rw [if_pos rfl]
    unfold joins at hj
    split at hj
    · rename_i t
      have := (blanks0_suf t).length_le
      simp
      omega
    · cases hj
set_option maxRecDepth 100000 in
set_option maxHeartbeats 1000000 in
theorem fold_fn {w : World} {rb : Nat} {s l : Str} {i d : Nat} {g : Told} (h : RrAt w rb s d g) (ha : At s l i) (hs : s.length ≤ 1000000) :
    Calls Tryz.prog 88 #[.pointer (some ⟨rb, 0, none⟩), .int .i64 (i : Nat)] w fun e w' => e = .returned (.int .i64 (foldN l : Nat)) ∧ Below w.heap.size w w' := by
  obtain ⟨c0, _⟩ := h.cells
  have hsz : (⟨s.toArray⟩ : ByteArray).size = s.length := Lib.size_mk _
  have hlen := ha.len
  obtain ⟨N, hN⟩ : ∃ N, N = foldN l := ⟨_, rfl⟩
  rw [← hN]
  clear h
  cases l with
  | nil =>
    have hil : i ≤ 1000000 := by simp at hlen; omega
    have hge : decide ((s.length : Int) ≤ (i : Int) + 1) = true := by simp at hlen; rw [decide_eq_true_eq]; omega
    have hN0 : N = 0 := hN
    subst hN0
    clear hN ha hlen
    go_enter Tryz.func88, Tryz.ntmps88
    go_wp2
    go_ret
    exact ⟨rfl, Below.refl _ _⟩
  | cons c t =>
   cases t with
   | nil =>
    have hil : i ≤ 1000000 := by simp at hlen; omega
    have hge : decide ((s.length : Int) ≤ (i : Int) + 1) = true := by simp at hlen; rw [decide_eq_true_eq]; omega
    have hN0 : N = 0 := by
      rw [hN, foldN, if_neg]
      by_cases h92 : c = 92
      · subst h92; simp [joins]
      · rw [joins_ne h92]; simp
    subst hN0
    clear hN ha hlen
    go_enter Tryz.func88, Tryz.ntmps88
    go_wp2
    go_ret
    exact ⟨rfl, Below.refl _ _⟩
   | cons e t =>
    have hlt : decide ((s.length : Int) ≤ (i : Int) + 1) = false := by simp at hlen; rw [decide_eq_false]; omega
    have hx := ha.byte
    have hx1 := ha.tail.byte
    have hex := ha.all
    simp only [List.length_cons] at hlen
    by_cases h92 : c = 92
    · subst h92
      by_cases h10 : e = 10
      · subst h10
        have hu : Calls Tryz.prog 63 #[.string ⟨(92 :: 10 :: t).toArray⟩] w fun e w' => e = .returned (.tuple #[.string ⟨#[32]⟩, .int .i64 (((t.length + 2 - (blanks0 t).length : Nat) : Nat) : Int)]) ∧ Below w.heap.size w w' := unescR_fn (10 :: t) (by simp; omega) w
        have hN2 : N = t.length + 2 - (blanks0 t).length := hN
        rw [← hN2] at hu
        have HU := hid hu
        clear hN2 hu hN
        go_enter Tryz.func88, Tryz.ntmps88
        go_wp2_with fail
        (with_reducible refine HU.out.mono ?_); rintro e w1 ⟨rfl, hb1⟩
        go_wp2
        go_ret
        exact ⟨rfl, hb1⟩
      · have n10 := byte_ne' 10 h10 rfl
        have hN0 : N = 0 := by rw [hN, foldN, joins_ne2 h10]; rfl
        subst hN0
        clear hN
        go_enter Tryz.func88, Tryz.ntmps88
        go_wp2
        go_ret
        exact ⟨rfl, Below.refl _ _⟩
    · have n92 := byte_ne' 92 h92 rfl
      have hN0 : N = 0 := by rw [hN, foldN, joins_ne h92]; rfl
      subst hN0
      clear hN
      go_enter Tryz.func88, Tryz.ntmps88
      go_wp2
      go_ret
      exact ⟨rfl, Below.refl _ _⟩
theorem ended_nil (w : Bool) : ended w [] = true := rfl
theorem ended_cons (w : Bool) (c : UInt8) (t : Str) : ended w (c :: t) = (white c || c == 59 || (w && c == 93) || joins (c :: t)) := by
  show ((c == 10 || c == 59 || (w && c == 93)) || white c || joins (c :: t)) = _
  by_cases h : c = 10
  · subst h; rfl
  · have e : (c == 10) = false := by simpa using h
    rw [e, Bool.false_or]
    cases white c <;> cases (c == 59) <;> cases (w && c == 93) <;> rfl
set_option maxRecDepth 100000 in
set_option maxHeartbeats 2000000 in
theorem endsR_fn {w : World} {rb : Nat} {s l : Str} {i d : Nat} {g : Told} (h : RrAt w rb s d g) (ha : At s l i) (hs : s.length ≤ 1000000) (wi : Bool) :
    Calls Tryz.prog 62 #[.pointer (some ⟨rb, 0, none⟩), .int .i64 (i : Nat), .bool wi] w fun e w' => e = .returned (.bool (ended wi l)) ∧ Below w.heap.size w w' := by
  obtain ⟨c0, _⟩ := h.cells
  have hsz : (⟨s.toArray⟩ : ByteArray).size = s.length := Lib.size_mk _
  have hfo := fold_fn h ha hs
  cases l with
  | nil =>
    have hge : s.length ≤ i := ha.nil_iff.1 rfl
    clear hfo h
    go_enter Tryz.func62, Tryz.ntmps62
    go_wp2
    go_ret
    exact ⟨rfl, Below.refl _ _⟩
  | cons c t =>
    have hlt := ha.lt
    have hx := ha.byte
    have hdl : decide (s.length ≤ i) = false := by rw [decide_eq_false]; omega
    have hwc := whiteR_fn c w
    have hec := ended_cons wi c t
    obtain ⟨W, hW⟩ : ∃ W, W = white c := ⟨_, rfl⟩
    obtain ⟨R, hR⟩ : ∃ R, R = ended wi (c :: t) := ⟨_, rfl⟩
    rw [← hW] at hwc hec
    rw [← hR] at hec ⊢
    have HW := hid hwc
    have HR := hid hec
    have HF := hid hfo
    clear hwc hec hW hR hfo h
    cases W with
    | true =>
      have hr : R = true := by rw [HR.out]; rfl
      subst hr
      go_enter Tryz.func62, Tryz.ntmps62
      go_wp2_with fail
      (with_reducible refine HW.out.mono ?_); rintro e w1 ⟨rfl, hw⟩; subst w1
      go_wp2
      go_ret
      exact ⟨rfl, Below.refl _ _⟩
    | false =>
      by_cases h59 : c = 59
      · subst h59
        have hr : R = true := by rw [HR.out]; rfl
        subst hr
        replace HW := hid (show Calls Tryz.prog 87 #[.int .u8 59] w _ from HW.out)
        go_enter Tryz.func62, Tryz.ntmps62
        go_wp2_with fail
        (with_reducible refine HW.out.mono ?_); rintro e w1 ⟨rfl, hw⟩; subst w1
        go_wp2
        go_ret
        exact ⟨rfl, Below.refl _ _⟩
      · have n59 := byte_ne 59 h59 rfl
        by_cases h93 : wi = true ∧ c = 93
        · obtain ⟨rfl, rfl⟩ := h93
          have hr : R = true := by rw [HR.out]; rfl
          subst hr
          replace HW := hid (show Calls Tryz.prog 87 #[.int .u8 93] w _ from HW.out)
          go_enter Tryz.func62, Tryz.ntmps62
          go_wp2_with fail
          (with_reducible refine HW.out.mono ?_); rintro e w1 ⟨rfl, hw⟩; subst w1
          go_wp2
          go_ret
          exact ⟨rfl, Below.refl _ _⟩
        · have hr : R = joins (c :: t) := by
            rw [HR.out, show (c == 59) = false by simpa using h59, show (wi && c == 93) = false by
              rw [Bool.eq_false_iff]
              intro e
              rw [Bool.and_eq_true, beq_iff_eq] at e
              exact h93 e]
            rfl
          have hfp := foldN_pos (l := c :: t)
          rw [← hr] at hfp
          obtain ⟨N, hN⟩ : ∃ N, N = foldN (c :: t) := ⟨_, rfl⟩
          rw [← hN] at HF hfp
          clear hr hN HR
          have hrd : R = decide (0 < N) := by
            rw [Bool.eq_iff_iff, ← hfp, decide_eq_true_eq]
          have HR := hid hrd
          clear hfp hrd
          cases wi with
          | false =>
            go_enter Tryz.func62, Tryz.ntmps62
            go_wp2_with fail
            (with_reducible refine HW.out.mono ?_); rintro e w1 ⟨rfl, hw⟩; subst w1
            go_wp2_with fail
            (with_reducible refine HF.out.mono ?_); rintro e w1 ⟨rfl, hb1⟩
            go_wp2
            go_ret
            rw [HR.out]
            exact ⟨rfl, hb1⟩
          | true =>
            have h93' : c ≠ 93 := fun e => h93 ⟨rfl, e⟩
            have n93 := byte_ne 93 h93' rfl
            go_enter Tryz.func62, Tryz.ntmps62
            go_wp2_with fail
            (with_reducible refine HW.out.mono ?_); rintro e w1 ⟨rfl, hw⟩; subst w1
            go_wp2_with fail
            (with_reducible refine HF.out.mono ?_); rintro e w1 ⟨rfl, hb1⟩
            go_wp2
            go_ret
            rw [HR.out]
            exact ⟨rfl, hb1⟩
theorem blanks_cons1 {c : UInt8} {t : Str} (hj : joins (c :: t) = false) : blanks (c :: t) = if c != 10 && white c then blanks t else c :: t := by
  cases t with
  | nil => rfl
  | cons d t =>
    rw [blanks, if_neg]
    intro e
    rw [Bool.and_eq_true, beq_iff_eq, beq_iff_eq] at e
    obtain ⟨rfl, rfl⟩ := e
    cases hj
theorem blanks_blanks0 : ∀ (t : Str), blanks (blanks0 t) = blanks t
  | [] => rfl
  | c :: t => by
    rw [blanks0_cons]
    by_cases h : (c == 32 || c == 9) = true
    · rw [if_pos h, blanks_blanks0 t]
      rw [Bool.or_eq_true, beq_iff_eq, beq_iff_eq] at h
      rcases h with rfl | rfl
      · rw [blanks_cons1 (joins_ne (by decide)), if_pos (by decide)]
      · rw [blanks_cons1 (joins_ne (by decide)), if_pos (by decide)]
    · rw [if_neg h]
set_option maxRecDepth 100000 in
set_option maxHeartbeats 2000000 in
theorem blanksR_fn {w : World} {rb : Nat} {s l : Str} {i d : Nat} {g : Told} (h : RrAt w rb s d g) (ha : At s l i) (hs : s.length ≤ 1000000) :
    Calls Tryz.prog 97 #[.pointer (some ⟨rb, 0, none⟩), .int .i64 (i : Nat)] w fun e w' => e = .returned (.int .i64 ((s.length - (blanks l).length : Nat) : Int)) ∧ Below w.heap.size w w' := by
  have hsz : (⟨s.toArray⟩ : ByteArray).size = s.length := Lib.size_mk _
  obtain ⟨B, hB⟩ : ∃ B, B = blanks l := ⟨_, rfl⟩
  rw [← hB]
  have HB := hid hB
  have H := hid h
  have HA := hid ha
  clear hB ha h
  go_enter Tryz.func97, Tryz.ntmps97
  go_wp2_with fail
  go_loopg [1] l.length (fun k iv wr => ∃ (j : Nat) (rest : Str), iv = .int .i64 (j : Nat) ∧ At s rest j ∧ B = blanks rest ∧ Below w.heap.size w wr ∧ k = rest.length)
  case atStart => exact ⟨i, l, rfl, HA.out, HB.out, Below.refl _ _, rfl⟩
  case round =>
    obtain ⟨j, rest, rfl, ha, hb, hbl, rfl⟩ := hrel
    have hr := H.out.below hbl
    obtain ⟨c0, _⟩ := hr.cells
    have HB2 := hid hb
    have hsw := hbl.size
    clear hb HB HA
    cases rest with
    | nil =>
      have hge : s.length ≤ j := ha.nil_iff.1 rfl
      have hle := ha.len
      simp at hle
      clear hr
      go_wp2
      go_ret
      exact ⟨ret_i (by rw [HB2.out]; simp [blanks]; omega), hbl⟩
    | cons c t =>
      have hlt := ha.lt
      have hx := ha.byte
      have hlen := ha.len
      have hfo := fold_fn hr ha hs
      have hfp := foldN_pos (l := c :: t)
      by_cases hj : joins (c :: t) = true
      · have hn := hfp.2 hj
        obtain ⟨u, hu⟩ : ∃ u, c :: t = 92 :: 10 :: u := by
          unfold joins at hj
          split at hj
          · rename_i u e
            exact ⟨u, e⟩
          · cases hj
        have hfN : foldN (c :: t) = (c :: t).length - (blanks0 u).length := by rw [foldN, if_pos hj, hu]; rfl
        have hbs := (blanks0_suf u).length_le
        have hsuf : blanks0 u <:+ c :: t := by rw [hu]; exact (blanks0_suf u).trans ((suf_tail _ u).trans (suf_tail _ _))
        have hB3 : B = blanks (blanks0 u) := by rw [HB2.out, blanks_blanks0, hu]; rfl
        have hat2 := ha.suf hsuf
        have hul : (c :: t).length = u.length + 2 := by rw [hu]; rfl
        obtain ⟨N, hN⟩ : ∃ N, N = foldN (c :: t) := ⟨_, rfl⟩
        rw [← hN] at hfo hn hfN
        have hjN : j + N = s.length - (blanks0 u).length := by omega
        have hNl : N ≤ s.length := by omega
        have HC := hid hfo
        have HB3 := hid hB3
        have HJ := hid hjN
        have hul2 : (blanks0 u).length < (c :: t).length := by omega
        clear hfo hfp hj hN hfN hB3 hjN hr hu hul hsuf hbs
        go_wp2_with fail
        (with_reducible refine HC.out.mono ?_); rintro e w1 ⟨rfl, hb1⟩
        go_wp2
        go_roundg (blanks0 u).length
        case measure => exact hul2
        case rel => exact ⟨j + N, blanks0 u, by go_num, by rw [HJ.out]; exact hat2, HB3.out, hbl.trans (hb1.mono hsw), rfl⟩
      · have hj0 : joins (c :: t) = false := by simpa using hj
        have hN : foldN (c :: t) = 0 := by
          have := mt hfp.1 hj
          omega
        rw [hN] at hfo
        replace hfo : Calls Tryz.prog 88 #[.pointer (some ⟨rb, 0, none⟩), .int .i64 (j : Nat)] wr fun e w' => e = .returned (.int .i64 0) ∧ Below wr.heap.size wr w' := hfo
        have hB3 := HB2.out
        rw [blanks_cons1 hj0] at hB3
        have HC := hid hfo
        have HB3 := hid hB3
        clear hfo hfp hj hj0 hN hB3 HB2
        simp only [List.length_cons] at hlen
        by_cases h10 : c = 10
        · subst h10
          go_wp2_with fail
          (with_reducible refine HC.out.mono ?_); rintro e w1 ⟨rfl, hb1⟩
          have c1 : w1.cell? ⟨rb, 0, none⟩ = some (.string ⟨s.toArray⟩) := (hr.below hb1).cells.1
          clear hr c0
          go_wp2
          go_ret
          exact ⟨ret_i (by rw [HB3.out]; simp; omega), hbl.trans (hb1.mono hsw)⟩
        · have n10 := byte_ne' 10 h10 rfl
          have hB4 := HB3.out
          rw [show (c != 10) = true by simpa using h10, Bool.true_and] at hB4
          have hwc := fun u => whiteR_fn c u
          obtain ⟨W, hW⟩ : ∃ W, W = white c := ⟨_, rfl⟩
          rw [← hW] at hB4 hwc
          have HB4 := hid hB4
          have HW := hid hwc
          clear hB4 hwc hW HB3
          cases W with
          | true =>
            go_wp2_with fail
            (with_reducible refine HC.out.mono ?_); rintro e w1 ⟨rfl, hb1⟩
            have c1 : w1.cell? ⟨rb, 0, none⟩ = some (.string ⟨s.toArray⟩) := (hr.below hb1).cells.1
            clear hr c0
            go_wp2_with fail
            (with_reducible refine (HW.out _).mono ?_); rintro e w2 ⟨rfl, hw⟩; subst w2
            go_wp2
            go_roundg t.length
            case measure => simp
            case rel => exact ⟨j + 1, t, by go_num, ha.tail, HB4.out, hbl.trans (hb1.mono hsw), rfl⟩
          | false =>
            go_wp2_with fail
            (with_reducible refine HC.out.mono ?_); rintro e w1 ⟨rfl, hb1⟩
            have c1 : w1.cell? ⟨rb, 0, none⟩ = some (.string ⟨s.toArray⟩) := (hr.below hb1).cells.1
            clear hr c0
            go_wp2_with fail
            (with_reducible refine (HW.out _).mono ?_); rintro e w2 ⟨rfl, hw⟩; subst w2
            go_wp2
            go_ret
            exact ⟨ret_i (by rw [HB4.out]; simp; omega), hbl.trans (hb1.mono hsw)⟩
end Go.Proofs.YtkgpmkkodpjdfaaGreatDoor.Pz
/-
  The reference 06: comment; names.
-/
namespace Go.Proofs.YtkgpmkkodpjdfaaGreatDoor.Pz
open Go.RowKit
/-- how many backslashes stand at the beginning (of what was read, the last byte first) -/
def lead : Str → Nat
  | [] => 0
  | c :: t => if c == 92 then lead t + 1 else 0
def oddN (n : Nat) : Bool := n % 2 == 1
theorem oddN_succ (n : Nat) : oddN (n + 1) = !oddN n := by
  unfold oddN
  rcases Nat.mod_two_eq_zero_or_one n with h | h
  · rw [h, show (n + 1) % 2 = 1 by omega]; rfl
  · rw [h, show (n + 1) % 2 = 0 by omega]; rfl
theorem lead_le : ∀ (q : Str), lead q ≤ q.length
  | [] => Nat.le_refl _
  | c :: t => by
    have := lead_le t
    rw [lead]
    split
    · simp only [List.length_cons]; omega
    · simp
/-- the byte behind so many backslashes is one more, or not -/
theorem lead_at : ∀ (q : Str) (n : Nat), n ≤ lead q → (n < lead q ↔ q[n]? = some 92)
  | [], n, h => by
    simp only [lead] at h ⊢
    simp
  | c :: t, n, h => by
    rw [lead] at h ⊢
    by_cases hc : (c == 92) = true
    · rw [if_pos hc] at h ⊢
      cases n with
      | zero => simpa using hc
      | succ n =>
        have ih := lead_at t n (by omega)
        rw [List.getElem?_cons_succ, ← ih]
        omega
    · rw [if_neg hc] at h ⊢
      have : n = 0 := by omega
      subst this
      simp only [List.getElem?_cons_zero, Option.some.injEq]
      constructor
      · omega
      · intro e
        exact absurd (by simpa using e) hc
/-- what was read of a text up to a place, the last byte first -/
theorem At.back {s t : Str} {c : UInt8} {i : Nat} (h : At s (c :: t) i) : (s.take (i + 1)).reverse = c :: (s.take i).reverse := by
  have hlt := h.lt
  rw [List.take_succ_eq_append_getElem hlt, List.reverse_append]
  have := h.head
  rw [List.getElem?_eq_getElem hlt] at this
  rw [Option.some.inj this]
  rfl
theorem back_get {s : Str} {i n : Nat} (hi : i ≤ s.length) (hn : n < i) : ((s.take i).reverse)[n]? = some (s[i - n - 1]'(by omega)) := by
  rw [List.getElem?_reverse (by rw [List.length_take]; omega), List.length_take, List.getElem?_take, if_pos (by omega), List.getElem?_eq_getElem (by omega)]
  congr 1
  congr 1
  omega
theorem comment_cons (o : Bool) (c : UInt8) (t : Str) : comment o (c :: t) = if c == 92 then comment (!o) t else if c == 10 && !o then c :: t else comment false t := rfl
/-- the place behind a comment, of a text of n bytes -/
def pastC (n : Nat) (r : Str) : Nat := if r.isEmpty then n else n - r.length + 1
set_option maxRecDepth 100000 in
set_option maxHeartbeats 4000000 in
theorem commentR_fn {w : World} {rb : Nat} {s l : Str} {i d : Nat} {g : Told} (h : RrAt w rb s d g) (ha : At s l i) (hs : s.length ≤ 1000000) :
    Calls Tryz.prog 98 #[.pointer (some ⟨rb, 0, none⟩), .int .i64 (i : Nat)] w fun e w' => e = .returned (.int .i64 (pastC s.length (comment (oddN (lead (s.take i).reverse)) l) : Nat)) ∧ w' = w := by
  obtain ⟨c0, _⟩ := h.cells
  have hsz : (⟨s.toArray⟩ : ByteArray).size = s.length := Lib.size_mk _
  obtain ⟨B, hB⟩ : ∃ B, B = comment (oddN (lead (s.take i).reverse)) l := ⟨_, rfl⟩
  rw [← hB]
  have HB := hid hB
  have HA := hid ha
  clear hB ha h
  go_enter Tryz.func98, Tryz.ntmps98
  go_wp2_with fail
  go_loopg [1] l.length (fun k iv wr => ∃ (j : Nat) (rest : Str), iv = .int .i64 (j : Nat) ∧ At s rest j ∧ B = comment (oddN (lead (s.take j).reverse)) rest ∧ wr = w ∧ k = rest.length)
  case atStart => exact ⟨i, l, rfl, HA.out, HB.out, rfl, rfl⟩
  case round =>
    obtain ⟨j, rest, rfl, ha, hb, hw, rfl⟩ := hrel
    replace hw := hw.symm
    subst hw
    have HB2 := hid hb
    clear hb HB HA
    cases rest with
    | nil =>
      have hge : s.length ≤ j := ha.nil_iff.1 rfl
      have hle := ha.len
      simp at hle
      have hB0 : B = [] := HB2.out
      subst hB0
      go_wp2
      go_ret
      exact ⟨ret_i (by simp [pastC]; omega), rfl⟩
    | cons c t =>
      have hlt := ha.lt
      have hx := ha.byte
      have hlen := ha.len
      simp only [List.length_cons] at hlen
      have hbk := ha.back
      by_cases h10 : c = 10
      · subst h10
        obtain ⟨L, hL⟩ : ∃ L, L = lead (s.take j).reverse := ⟨_, rfl⟩
        have hLj : L ≤ j := by
          have := lead_le (s.take j).reverse
          rw [List.length_reverse, List.length_take, ← hL] at this
          omega
        have hB3 := HB2.out
        rw [comment_cons, ← hL, if_neg (by decide)] at hB3
        have hfalse : B = comment (oddN (lead (s.take (j + 1)).reverse)) t ∨ oddN L = false := by
          by_cases ho : oddN L = true
          · left
            rw [hB3, ho, if_neg (by simp), hbk]
            rfl
          · right
            simpa using ho
        have hat : ∀ n, n ≤ L → n < j → (n < L ↔ (s[j - n - 1]? = some 92)) := by
          intro n hn hnj
          have := lead_at (s.take j).reverse n (by rw [← hL]; exact hn)
          rw [← hL, back_get (by omega) hnj] at this
          rw [this, List.getElem?_eq_getElem (by omega)]
        have HL := hid hat
        have HBF := hid hB3
        have HF := hid hfalse
        clear hat hB3 hfalse hL hbk HB2
        go_wp2_with fail
        go_loopg [5] L (fun k nv wr => ∃ (n : Nat), nv = .int .i64 (n : Nat) ∧ n ≤ L ∧ wr = w ∧ k = L - n)
        case atStart => exact ⟨0, rfl, Nat.zero_le _, rfl, rfl⟩
        case round =>
          obtain ⟨n, rfl, hn, hw, rfl⟩ := hrel
          replace hw := hw.symm
          subst hw
          by_cases hnL : n < L
          · have hnj : n < j := by omega
            have hx92 : ∀ h', (⟨s.toArray⟩ : ByteArray)[j - n - 1]'h' = 92 := by
              intro h'
              have h1 := (HL.out n hn hnj).1 hnL
              have hjl : j - n - 1 < s.length := by omega
              rw [List.getElem?_eq_getElem hjl] at h1
              exact Option.some.inj h1
            go_wp2
            go_roundg (L - (n + 1))
            case measure => omega
            case rel => exact ⟨n + 1, by go_num, by omega, rfl, rfl⟩
          · obtain rfl : n = L := by omega
            have hout : (n = j ∨ (n < j ∧ ∀ h', ((⟨s.toArray⟩ : ByteArray)[j - n - 1]'h') ≠ 92)) := by
              rcases Nat.lt_or_ge n j with h1 | h1
              · right
                refine ⟨h1, fun h' e => hnL ?_⟩
                rw [HL.out n (Nat.le_refl _) h1, List.getElem?_eq_getElem (by omega)]
                exact congrArg some e
              · left
                omega
            by_cases ho : oddN n = true
            · have hB5 : B = comment (oddN (lead (s.take (j + 1)).reverse)) t := by
                rcases HF.out with h1 | h1
                · exact h1
                · rw [h1] at ho; cases ho
              have hm : ((n : Int) % 2 == 0) = false := by
                rw [beq_eq_false_iff_ne]
                unfold oddN at ho
                simp at ho
                omega
              have HB5 := hid hB5
              clear hB5 ho HF HBF HL hnL
              rcases hout with rfl | ⟨h1, h2⟩
              · go_wp2
                go_roundg t.length
                case measure => simp
                case rel => exact ⟨n + 1, t, by go_num, ha.tail, HB5.out, rfl, rfl⟩
              · obtain ⟨y, hy⟩ : ∃ y, ∀ h', (⟨s.toArray⟩ : ByteArray)[j - n - 1]'h' = y := ⟨s[j - n - 1]'(by omega), fun h' => rfl⟩
                have hy92 : y ≠ 92 := by rw [← hy (by rw [hsz]; omega)]; exact h2 _
                have n92 := byte_ne 92 hy92 rfl
                clear h2
                go_wp2
                go_roundg t.length
                case measure => simp
                case rel => exact ⟨j + 1, t, by go_num, ha.tail, HB5.out, rfl, rfl⟩
            · have ho2 : oddN n = false := by simpa using ho
              have hB5 : B = 10 :: t := by rw [HBF.out, ho2]; rfl
              have hm : ((n : Int) % 2 == 0) = true := by
                rw [beq_iff_eq]
                unfold oddN at ho2
                simp at ho2
                omega
              have HB5 := hid hB5
              clear hB5 ho ho2 HF HBF HL hnL
              rcases hout with rfl | ⟨h1, h2⟩
              · go_wp2
                go_ret
                exact ⟨ret_i (by rw [HB5.out]; simp [pastC]; omega), rfl⟩
              · obtain ⟨y, hy⟩ : ∃ y, ∀ h', (⟨s.toArray⟩ : ByteArray)[j - n - 1]'h' = y := ⟨s[j - n - 1]'(by omega), fun h' => rfl⟩
                have hy92 : y ≠ 92 := by rw [← hy (by rw [hsz]; omega)]; exact h2 _
                have n92 := byte_ne 92 hy92 rfl
                clear h2
                go_wp2
                go_ret
                exact ⟨ret_i (by rw [HB5.out]; simp [pastC]; omega), rfl⟩
      · have n10 := byte_ne' 10 h10 rfl
        have hB5 : B = comment (oddN (lead (s.take (j + 1)).reverse)) t := by
          rw [HB2.out, comment_cons, hbk, lead]
          by_cases h92 : (c == 92) = true
          · rw [if_pos h92, if_pos h92, oddN_succ]
          · rw [if_neg h92, if_neg h92, if_neg (by simp [h10])]
            rfl
        have HB5 := hid hB5
        clear hB5 hbk HB2
        go_wp2
        go_roundg t.length
        case measure => simp
        case rel => exact ⟨j + 1, t, by go_num, ha.tail, HB5.out, rfl, rfl⟩
end Go.Proofs.YtkgpmkkodpjdfaaGreatDoor.Pz
/-
  The reference 06: names.
-/
namespace Go.Proofs.YtkgpmkkodpjdfaaGreatDoor.Pz
open Go.RowKit
def alnum (c : UInt8) : Bool := (decide (97 ≤ c.toNat) && decide (c.toNat ≤ 122)) || (decide (65 ≤ c.toNat) && decide (c.toNat ≤ 90)) || (decide (48 ≤ c.toNat) && decide (c.toNat ≤ 57))
theorem letter_alnum (c : UInt8) : letter c = (alnum c || c == 95) := by
  unfold letter alnum
  simp only [UInt8.le_iff_toNat_le, UInt8.reduceToNat]
  cases (c == 95) <;> cases (decide (48 ≤ c.toNat) && decide (c.toNat ≤ 57)) <;> cases (decide (97 ≤ c.toNat) && decide (c.toNat ≤ 122)) <;> cases (decide (65 ≤ c.toNat) && decide (c.toNat ≤ 90)) <;> rfl
theorem int_within (a b x : Nat) : (decide ((a : Int) ≤ (x : Int)) && decide ((x : Int) ≤ (b : Int))) = (decide (a ≤ x) && decide (x ≤ b)) := by
  congr 1
  · rw [decide_eq_decide]; omega
  · rw [decide_eq_decide]; omega
set_option maxRecDepth 100000 in
theorem class_fn (c : UInt8) (w : World) : Calls Tryz.prog 118 #[.string ⟨#[97, 108, 110, 117, 109]⟩, .int .u8 (c.toNat : Nat)] w fun e w' => e = .returned (.tuple #[.bool (alnum c), .bool true]) ∧ w' = w := by
  have hl256 : c.toNat < 256 := c.toNat_lt
  have h1 := within1_fn (c.toNat : Nat) 97 122 w
  have h2 := within1_fn (c.toNat : Nat) 65 90 w
  have h3 := within1_fn (c.toNat : Nat) 48 57 w
  rw [show (decide ((97 : Int) ≤ (c.toNat : Int)) && decide ((c.toNat : Int) ≤ 122)) = (decide (97 ≤ c.toNat) && decide (c.toNat ≤ 122)) from int_within 97 122 _] at h1
  rw [show (decide ((65 : Int) ≤ (c.toNat : Int)) && decide ((c.toNat : Int) ≤ 90)) = (decide (65 ≤ c.toNat) && decide (c.toNat ≤ 90)) from int_within 65 90 _] at h2
  rw [show (decide ((48 : Int) ≤ (c.toNat : Int)) && decide ((c.toNat : Int) ≤ 57)) = (decide (48 ≤ c.toNat) && decide (c.toNat ≤ 57)) from int_within 48 57 _] at h3
  unfold alnum
  generalize (decide (97 ≤ c.toNat) && decide (c.toNat ≤ 122)) = A at *
  generalize (decide (65 ≤ c.toNat) && decide (c.toNat ≤ 90)) = B at *
  generalize (decide (48 ≤ c.toNat) && decide (c.toNat ≤ 57)) = C at *
  have H1 := hid h1
  have H2 := hid h2
  have H3 := hid h3
  clear h1 h2 h3
  cases A with
  | true =>
    go_enter Tryz.func118, Tryz.ntmps118
    go_wp2_with fail
    (with_reducible refine H1.out.mono ?_); rintro e w1 ⟨rfl, hw⟩; subst w1
    go_wp2_with fail
    (with_reducible refine H2.out.mono ?_); rintro e w1 ⟨rfl, hw⟩; subst w1
    go_wp2_with fail
    (with_reducible refine H3.out.mono ?_); rintro e w1 ⟨rfl, hw⟩; subst w1
    go_wp2
    go_ret2
    exact ⟨rfl, rfl⟩
  | false =>
    cases B with
    | true =>
      go_enter Tryz.func118, Tryz.ntmps118
      go_wp2_with fail
      (with_reducible refine H1.out.mono ?_); rintro e w1 ⟨rfl, hw⟩; subst w1
      go_wp2_with fail
      (with_reducible refine H2.out.mono ?_); rintro e w1 ⟨rfl, hw⟩; subst w1
      go_wp2_with fail
      (with_reducible refine H3.out.mono ?_); rintro e w1 ⟨rfl, hw⟩; subst w1
      go_wp2
      go_ret2
      exact ⟨rfl, rfl⟩
    | false =>
      go_enter Tryz.func118, Tryz.ntmps118
      go_wp2_with fail
      (with_reducible refine H1.out.mono ?_); rintro e w1 ⟨rfl, hw⟩; subst w1
      go_wp2_with fail
      (with_reducible refine H2.out.mono ?_); rintro e w1 ⟨rfl, hw⟩; subst w1
      go_wp2_with fail
      (with_reducible refine H3.out.mono ?_); rintro e w1 ⟨rfl, hw⟩; subst w1
      go_wp2
      go_ret2
      exact ⟨rfl, rfl⟩
set_option maxRecDepth 100000 in
set_option maxHeartbeats 1000000 in
theorem is_fn (c : UInt8) (w : World) : Calls Tryz.prog 95 #[.string ⟨#[97, 108, 110, 117, 109]⟩, .string ⟨[c].toArray⟩] w fun e w' => e = .returned (.tuple #[.bool (alnum c), .int .i64 0]) ∧ w' = w := by
  have h0 : Calls Tryz.prog 118 #[.string ⟨#[97, 108, 110, 117, 109]⟩, .int .u8 0] w fun e w' => e = .returned (.tuple #[.bool false, .bool true]) ∧ w' = w := class_fn 0 w
  have h1 := class_fn c w
  have hsz : (⟨[c].toArray⟩ : ByteArray).size = 1 := Lib.size_mk _
  have hx : ∀ h, (⟨[c].toArray⟩ : ByteArray)[0]'h = c := fun h => rfl
  generalize alnum c = A at *
  have H0 := hid h0
  have H1 := hid h1
  clear h0 h1
  go_enter Tryz.func95, Tryz.ntmps95
  go_wp2_with fail
  (with_reducible refine H0.out.mono ?_); rintro e w1 ⟨rfl, hw⟩; subst w1
  go_wp2_with fail
  go_loopg [20] 1 (fun k iv wr => ∃ (i : Nat), iv = .int .i64 (i : Nat) ∧ i ≤ 1 ∧ (i = 1 → A = true) ∧ wr = w ∧ k = 1 - i)
  case atStart => exact ⟨0, rfl, by omega, by omega, rfl, rfl⟩
  case round =>
    obtain ⟨i, rfl, hi, hA, hw, rfl⟩ := hrel
    replace hw := hw.symm
    subst hw
    by_cases h0 : i = 0
    · subst h0
      clear hA
      cases A with
      | true =>
        go_wp2_with fail
        (with_reducible refine H1.out.mono ?_); rintro e w1 ⟨rfl, hw⟩; subst w1
        go_wp2
        go_roundg 0
        case measure => omega
        case rel => exact ⟨1, by go_num, by omega, by simp, rfl, rfl⟩
      | false =>
        go_wp2_with fail
        (with_reducible refine H1.out.mono ?_); rintro e w1 ⟨rfl, hw⟩; subst w1
        go_wp2
        go_ret2
        exact ⟨rfl, rfl⟩
    · obtain rfl : i = 1 := by omega
      obtain rfl : A = true := hA rfl
      go_wp2
      go_ret2
      exact ⟨rfl, rfl⟩
/-- colons at the beginning -/
def colons : Str → Nat
  | [] => 0
  | c :: t => if c == 58 then colons t + 1 else 0
theorem colons_le : ∀ (l : Str), colons l ≤ l.length
  | [] => Nat.le_refl _
  | c :: t => by
    have := colons_le t
    rw [colons]
    split
    · simp only [List.length_cons]; omega
    · simp
theorem colons_at : ∀ (q : Str) (n : Nat), n ≤ colons q → (n < colons q ↔ q[n]? = some 58)
  | [], n, h => by
    simp only [colons] at h ⊢
    simp
  | c :: t, n, h => by
    rw [colons] at h ⊢
    by_cases hc : (c == 58) = true
    · rw [if_pos hc] at h ⊢
      cases n with
      | zero => simpa using hc
      | succ n =>
        have ih := colons_at t n (by omega)
        rw [List.getElem?_cons_succ, ← ih]
        omega
    · rw [if_neg hc] at h ⊢
      have : n = 0 := by omega
      subst this
      simp only [List.getElem?_cons_zero, Option.some.injEq]
      constructor
      · omega
      · intro e
        exact absurd (by simpa using e) hc
theorem name_cons (run : Bool) (c : UInt8) (t : Str) : (name run (c :: t)).2 = if letter c then (name false t).2 else if c == 58 && (run || t.head? == some 58) then (name true t).2 else c :: t := by
  show (if _ then _ else if _ then _ else _ : Str × Str).2 = _
  split
  · rfl
  · split
    · rfl
    · rfl
/-- a run of colons is taken whole -/
theorem name_run : ∀ (l : Str), (name true l).2 = (name false (l.drop (colons l))).2
  | [] => rfl
  | c :: t => by
    rw [name_cons, colons]
    by_cases h : letter c = true
    · have hc : ¬ (c == 58) = true := by
        intro e
        rw [beq_iff_eq] at e
        subst e
        exact absurd h (by decide)
      rw [if_pos h, if_neg hc, List.drop_zero, name_cons, if_pos h]
    · rw [if_neg h]
      by_cases hc : (c == 58) = true
      · rw [if_pos (by rw [hc]; rfl), if_pos hc, List.drop_succ_cons, name_run t]
      · rw [if_neg (by simp [hc]), if_neg hc, List.drop_zero, name_cons, if_neg h, if_neg (by simp [hc])]
theorem name_colonsR {c : UInt8} {t : Str} (hl : letter c = false) : (name false (c :: t)).2 = if colons (c :: t) < 2 then c :: t else (name false ((c :: t).drop (colons (c :: t)))).2 := by
  rw [name_cons, if_neg (by rw [hl]; simp), colons]
  by_cases hc : (c == 58) = true
  · rw [if_pos hc, hc, Bool.true_and, Bool.false_or]
    cases t with
    | nil => rfl
    | cons d t =>
      rw [colons]
      by_cases hd : (d == 58) = true
      · have e : (d :: t).head? == some 58 := by simpa using hd
        rw [if_pos e, if_pos hd, if_neg (by omega), name_run, colons, if_pos hd]
        rfl
      · have e : ¬ ((d :: t).head? == some 58) = true := by simpa using hd
        rw [if_neg e, if_neg hd, if_pos (by omega)]
  · rw [if_neg hc, if_neg (by simp [hc]), if_pos (by omega)]
set_option maxRecDepth 100000 in
set_option maxHeartbeats 4000000 in
theorem namedR_fn {w : World} {rb : Nat} {s l : Str} {i d : Nat} {g : Told} (h : RrAt w rb s d g) (ha : At s l i) (hs : s.length ≤ 1000000) :
    Calls Tryz.prog 74 #[.pointer (some ⟨rb, 0, none⟩), .int .i64 (i : Nat)] w fun e w' => e = .returned (.int .i64 ((s.length - (name false l).2.length : Nat) : Int)) ∧ w' = w := by
  obtain ⟨c0, _⟩ := h.cells
  have hsz : (⟨s.toArray⟩ : ByteArray).size = s.length := Lib.size_mk _
  obtain ⟨B, hB⟩ : ∃ B, B = (name false l).2 := ⟨_, rfl⟩
  rw [← hB]
  have HB := hid hB
  have HA := hid ha
  clear hB ha h
  go_enter Tryz.func74, Tryz.ntmps74
  go_wp2_with fail
  go_loopg [1] l.length (fun k iv wr => ∃ (j : Nat) (rest : Str), iv = .int .i64 (j : Nat) ∧ At s rest j ∧ B = (name false rest).2 ∧ wr = w ∧ k = rest.length)
  case atStart => exact ⟨i, l, rfl, HA.out, HB.out, rfl, rfl⟩
  case round =>
    obtain ⟨j, rest, rfl, ha, hb, hw, rfl⟩ := hrel
    replace hw := hw.symm
    subst hw
    have HB2 := hid hb
    clear hb HB HA
    cases rest with
    | nil =>
      have hge : s.length ≤ j := ha.nil_iff.1 rfl
      have hle := ha.len
      simp at hle
      have hB0 : B = [] := HB2.out
      subst hB0
      go_wp2
      go_ret
      exact ⟨ret_i (by simp; omega), rfl⟩
    | cons c t =>
      have hlt := ha.lt
      have hx := ha.byte
      have hlen := ha.len
      have hex : (⟨s.toArray⟩ : ByteArray).extract j (j + 1) = ⟨[c].toArray⟩ := At.text (x := [c]) ha
      have hla := letter_alnum c
      have hB3 := HB2.out
      have hic := is_fn c w
      obtain ⟨A, hA⟩ : ∃ A, A = alnum c := ⟨_, rfl⟩
      rw [← hA] at hic hla
      have HI := hid hic
      clear hic hA
      by_cases hl : letter c = true
      · have hB4 : B = (name false t).2 := by rw [hB3, name_cons, if_pos hl]
        have HB4 := hid hB4
        clear hB3 hB4 HB2
        cases A with
        | true =>
          clear hla hl
          go_wp2_with fail
          (with_reducible refine HI.out.mono ?_); rintro e w1 ⟨rfl, hw⟩; subst w1
          go_wp2
          go_roundg t.length
          case measure => simp
          case rel => exact ⟨j + 1, t, by go_num, ha.tail, HB4.out, rfl, rfl⟩
        | false =>
          have h95 : c = 95 := by rw [hl] at hla; simpa using hla.symm
          subst h95
          clear hla hl
          go_wp2_with fail
          (with_reducible refine HI.out.mono ?_); rintro e w1 ⟨rfl, hw⟩; subst w1
          go_wp2
          go_roundg t.length
          case measure => simp
          case rel => exact ⟨j + 1, t, by go_num, ha.tail, HB4.out, rfl, rfl⟩
      · have hl0 : letter c = false := by simpa using hl
        rw [name_colonsR hl0] at hB3
        rw [hl0] at hla
        obtain ⟨rfl, h95⟩ : A = false ∧ c ≠ 95 := by
          have := hla.symm
          rw [Bool.or_eq_false_iff] at this
          exact ⟨this.1, by simpa using this.2⟩
        have n95 := byte_ne 95 h95 rfl
        obtain ⟨L, hL⟩ : ∃ L, L = colons (c :: t) := ⟨_, rfl⟩
        have hLle : L ≤ (c :: t).length := by rw [hL]; exact colons_le _
        rw [← hL] at hB3
        have hat : ∀ n, n ≤ L → (n < L ↔ s[j + n]? = some 58) := by
          intro n hn
          have := colons_at (c :: t) n (by rw [← hL]; exact hn)
          rw [← hL] at this
          rw [this, ← ha.rest, List.getElem?_drop]
        have hdr : At s ((c :: t).drop L) (j + L) := by
          have h1 : At s ((c :: t).take L ++ (c :: t).drop L) j := by rw [List.take_append_drop]; exact ha
          have := h1.app
          rw [List.length_take, Nat.min_eq_left hLle] at this
          exact this
        have hdl : ((c :: t).drop L).length = (c :: t).length - L := List.length_drop ..
        have HL := hid hat
        have HBF := hid hB3
        have HD := hid hdr
        clear hat hB3 hL HB2 hla hl hl0 hdr
        go_wp2_with fail
        (with_reducible refine HI.out.mono ?_); rintro e w1 ⟨rfl, hw⟩; subst w1
        go_wp2_with fail
        go_loopg [8] L (fun k nv wr => ∃ (n : Nat), nv = .int .i64 (n : Nat) ∧ n ≤ L ∧ wr = w ∧ k = L - n)
        case atStart => exact ⟨0, rfl, Nat.zero_le _, rfl, rfl⟩
        case round =>
          obtain ⟨n, rfl, hn, hw, rfl⟩ := hrel
          replace hw := hw.symm
          subst hw
          simp only [List.length_cons] at hlen hLle hdl
          by_cases hnL : n < L
          · have hjn : j + n < s.length := by omega
            have hx58 : ∀ h', (⟨s.toArray⟩ : ByteArray)[j + n]'h' = 58 := by
              intro h'
              have h1 := (HL.out n hn).1 hnL
              rw [List.getElem?_eq_getElem hjn] at h1
              exact Option.some.inj h1
            by_cases hn0 : n = 0
            · subst hn0
              replace hx58 : ∀ h', (⟨s.toArray⟩ : ByteArray)[j]'h' = 58 := hx58
              have hc58 : c = 58 := by rw [← hx (by rw [hsz]; omega)]; exact hx58 _
              subst hc58
              go_wp2
              go_roundg (L - (0 + 1))
              case measure => omega
              case rel => exact ⟨0 + 1, by go_num, by omega, rfl, rfl⟩
            · go_wp2
              go_roundg (L - (n + 1))
              case measure => omega
              case rel => exact ⟨n + 1, by go_num, by omega, rfl, rfl⟩
          · obtain rfl : n = L := by omega
            have hout : (¬ (j + n < s.length) ∨ (j + n < s.length ∧ ∃ y, (∀ h', (⟨s.toArray⟩ : ByteArray)[j + n]'h' = y) ∧ y ≠ 58)) := by
              rcases Nat.lt_or_ge (j + n) s.length with h1 | h1
              · right
                refine ⟨h1, s[j + n]'h1, fun h' => rfl, fun e => hnL ?_⟩
                rw [HL.out n (Nat.le_refl _), List.getElem?_eq_getElem h1]
                exact congrArg some e
              · left
                omega
            clear HL hnL
            by_cases h2 : n < 2
            · have hB5 : B = c :: t := by rw [HBF.out, if_pos h2]
              have HB5 := hid hB5
              clear hB5 HBF HD hdl
              rcases hout with h1 | ⟨h1, y, hy, hy58⟩
              · by_cases hn0 : n = 0
                · subst hn0
                  omega
                · obtain rfl : n = 1 := by omega
                  go_wp2
                  go_ret
                  exact ⟨ret_i (by rw [HB5.out]; simp; omega), rfl⟩
              · have n58 := byte_ne 58 hy58 rfl
                by_cases hn0 : n = 0
                · subst hn0
                  replace hy : ∀ h', (⟨s.toArray⟩ : ByteArray)[j]'h' = y := hy
                  clear hx
                  go_wp2
                  go_ret
                  exact ⟨ret_i (by rw [HB5.out]; simp; omega), rfl⟩
                · obtain rfl : n = 1 := by omega
                  go_wp2
                  go_ret
                  exact ⟨ret_i (by rw [HB5.out]; simp; omega), rfl⟩
            · have hB5 : B = (name false ((c :: t).drop n)).2 := by rw [HBF.out, if_neg h2]
              have h2' : ¬ ((n : Int) < 2) := by omega
              have HB5 := hid hB5
              clear hB5 HBF
              rcases hout with h1 | ⟨h1, y, hy, hy58⟩
              · go_wp2
                go_roundg ((c :: t).drop n).length
                case measure => first | (rw [hdl]; simp; omega) | (rw [hdl]; omega) | omega | (simp only [List.length_cons] at *; omega)
                case rel => exact ⟨j + n, (c :: t).drop n, by go_num, HD.out, HB5.out, rfl, rfl⟩
              · have n58 := byte_ne 58 hy58 rfl
                go_wp2
                go_roundg ((c :: t).drop n).length
                case measure => first | (rw [hdl]; simp; omega) | (rw [hdl]; omega) | omega | (simp only [List.length_cons] at *; omega)
                case rel => exact ⟨j + n, (c :: t).drop n, by go_num, HD.out, HB5.out, rfl, rfl⟩
end Go.Proofs.YtkgpmkkodpjdfaaGreatDoor.Pz
/-
  The reference 06: braces; small texts.
-/
namespace Go.Proofs.YtkgpmkkodpjdfaaGreatDoor.Pz
open Go.RowKit
/-- the place of the brace that closes, in a text of n bytes; -1 if there is none -/
def closeI (n : Nat) : Option (Str × Str) → Int
  | some (_, r) => ((n - r.length - 1 : Nat) : Int)
  | none => -1
theorem closeI_pre (n : Nat) (p : Str) (o : Option (Str × Str)) : closeI n (pre p o) = closeI n o := by
  cases o with
  | none => rfl
  | some x => rfl
set_option maxRecDepth 100000 in
set_option maxHeartbeats 4000000 in
theorem closing_fn {s t : Str} {i : Nat} (ha : At s (123 :: t) i) (hs : s.length ≤ 1000000) (w : World) :
    Calls Tryz.prog 119 #[.string ⟨s.toArray⟩, .int .i64 (i : Nat)] w fun e w' => e = .returned (.int .i64 (closeI s.length (brace 0 t))) ∧ w' = w := by
  have inner : Calls Tryz.prog 134 #[.string ⟨s.toArray⟩, .int .i64 (i : Nat)] w fun e w' => e = .returned (.int .i64 (closeI s.length (brace 0 t))) ∧ w' = w := by
    have hsz : (⟨s.toArray⟩ : ByteArray).size = s.length := Lib.size_mk _
    obtain ⟨R, hR⟩ : ∃ R, R = closeI s.length (brace 0 t) := ⟨_, rfl⟩
    rw [← hR]
    have HR := hid hR
    have HA := hid ha
    have hil : i ≤ 1000000 := by have := ha.len; omega
    clear hR ha
    go_enter Tryz.func134, Tryz.ntmps134
    go_wp2_with fail
    go_loopg [5, 6] (s.length + 2 - i) (fun k ov iv wr => ∃ (o j : Nat), ov = .int .i64 (o : Nat) ∧ iv = .int .i64 (j : Nat) ∧ j ≤ s.length + 1 ∧ o ≤ j ∧ wr = w ∧ k = s.length + 2 - j ∧
      ((o = 0 ∧ At s (123 :: t) j) ∨ (∃ d rest, o = d + 1 ∧ At s rest j ∧ R = closeI s.length (brace d rest)) ∨ (s.length ≤ j ∧ R = -1)))
    case atStart => exact ⟨0, i, rfl, rfl, by have := HA.out.len; omega, Nat.zero_le _, rfl, rfl, .inl ⟨rfl, HA.out⟩⟩
    case round =>
      obtain ⟨o, j, rfl, rfl, hj, hoj, hw, rfl, hcase⟩ := hrel
      replace hw := hw.symm
      subst hw
      rcases hcase with ⟨rfl, ha⟩ | ⟨d, rest, rfl, ha, hr⟩ | ⟨hge, hr⟩
      · have hlt := ha.lt
        have hx := ha.byte
        go_wp2
        go_roundg (s.length + 2 - (j + 1))
        case measure => omega
        case rel => exact ⟨1, j + 1, by go_num, by go_num, by omega, by omega, rfl, rfl, .inr (.inl ⟨0, t, rfl, ha.tail, HR.out⟩)⟩
      · have HR2 := hid hr
        clear hr HR HA
        cases rest with
        | nil =>
          have hge : s.length ≤ j := ha.nil_iff.1 rfl
          go_wp2
          go_ret
          exact ⟨by rw [HR2.out]; rfl, rfl⟩
        | cons c t' =>
          have hlt := ha.lt
          have hx := ha.byte
          have hlen := ha.len
          simp only [List.length_cons] at hlen
          have hR3 := HR2.out
          rw [brace_cons] at hR3
          by_cases h92 : c = 92
          · subst h92
            rw [if_pos (by decide)] at hR3
            cases t' with
            | nil =>
              have HR3 := hid (show R = -1 from hR3)
              clear hR3 HR2
              go_wp2
              go_roundg (s.length + 2 - (j + 2))
              case measure => omega
              case rel => exact ⟨d + 1, j + 2, rfl, by rw [Value.int.injEq]; exact ⟨rfl, by omega⟩, by simp at hlen; omega, by omega, rfl, rfl, .inr (.inr ⟨by simp at hlen; omega, HR3.out⟩)⟩
            | cons e t' =>
              have hR4 : R = closeI s.length (brace d t') := by rw [hR3]; exact closeI_pre _ _ _
              have HR3 := hid hR4
              clear hR3 hR4 HR2
              go_wp2
              go_roundg (s.length + 2 - (j + 2))
              case measure => omega
              case rel => exact ⟨d + 1, j + 2, rfl, by rw [Value.int.injEq]; exact ⟨rfl, by omega⟩, by simp at hlen; omega, by omega, rfl, rfl, .inr (.inl ⟨d, t', rfl, ha.tail.tail, HR3.out⟩)⟩
          · have n92 := byte_ne 92 h92 rfl
            rw [if_neg (by simpa using h92)] at hR3
            by_cases h123 : c = 123
            · subst h123
              rw [if_pos (by decide), closeI_pre] at hR3
              have HR3 := hid hR3
              clear hR3 HR2
              go_wp2
              go_roundg (s.length + 2 - (j + 1))
              case measure => omega
              case rel => exact ⟨d + 1 + 1, j + 1, by go_num, by go_num, by omega, by omega, rfl, rfl, .inr (.inl ⟨d + 1, t', rfl, ha.tail, HR3.out⟩)⟩
            · have n123 := byte_ne 123 h123 rfl
              rw [if_neg (by simpa using h123)] at hR3
              by_cases h125 : c = 125
              · subst h125
                rw [if_pos (by decide)] at hR3
                cases d with
                | zero =>
                  have HR3 := hid (show R = ((s.length - t'.length - 1 : Nat) : Int) from hR3)
                  clear hR3 HR2
                  go_wp2
                  go_ret
                  exact ⟨ret_i (by rw [HR3.out]; omega), rfl⟩
                | succ d =>
                  have hR4 : R = closeI s.length (brace d t') := by rw [hR3]; exact closeI_pre _ _ _
                  have HR3 := hid hR4
                  clear hR3 hR4 HR2
                  have hne : (((d + 1 + 1 : Nat) : Int) - 1 == 0) = false := by rw [beq_eq_false_iff_ne]; omega
                  go_wp2
                  go_roundg (s.length + 2 - (j + 1))
                  case measure => omega
                  case rel => exact ⟨d + 1, j + 1, by rw [Value.int.injEq]; exact ⟨rfl, by omega⟩, by go_num, by omega, by omega, rfl, rfl, .inr (.inl ⟨d, t', rfl, ha.tail, HR3.out⟩)⟩
              · have n125 := byte_ne 125 h125 rfl
                rw [if_neg (by simpa using h125), closeI_pre] at hR3
                have HR3 := hid hR3
                clear hR3 HR2
                go_wp2
                go_roundg (s.length + 2 - (j + 1))
                case measure => omega
                case rel => exact ⟨d + 1, j + 1, rfl, by go_num, by omega, by omega, rfl, rfl, .inr (.inl ⟨d, t', rfl, ha.tail, HR3.out⟩)⟩
      · have HR2 := hid hr
        clear hr HR HA
        go_wp2
        go_ret
        rw [HR2.out]
        exact ⟨rfl, rfl⟩
  have HI := hid inner
  clear inner
  generalize closeI s.length (brace 0 t) = R at *
  go_enter Tryz.func119, Tryz.ntmps119
  go_wp2_with fail
  (with_reducible refine HI.out.mono ?_); rintro e w1 ⟨rfl, hw⟩; subst w1
  go_wp2
  go_ret
  exact ⟨rfl, rfl⟩
set_option maxRecDepth 100000 in
set_option maxHeartbeats 4000000 in
theorem bracedR_fn (q : Str) (hq : q.length ≤ 1000000) (w : World) :
    Calls Tryz.prog 120 #[.string ⟨q.toArray⟩] w fun e w' => e = .returned (.string ⟨(joined false q).toArray⟩) ∧ Below w.heap.size w w' := by
  have hsz : (⟨q.toArray⟩ : ByteArray).size = q.length := Lib.size_mk _
  obtain ⟨J, hJ⟩ : ∃ J, J = joined false q := ⟨_, rfl⟩
  rw [← hJ]
  have HJ := hid hJ
  clear hJ
  go_enter Tryz.func120, Tryz.ntmps120
  go_wp2_with fail
  go_loopg [3, 4] q.length (fun k sv iv wr => ∃ (i : Nat) (done rest : Str), sv = .string ⟨done.toArray⟩ ∧ iv = .int .i64 (i : Nat) ∧ At q rest i ∧ J = done ++ joined false rest ∧ Below w.heap.size w wr ∧ k = rest.length ∧ done.length + rest.length ≤ q.length)
  case atStart => exact ⟨0, [], q, rfl, rfl, At.start q, HJ.out, Below.refl _ _, rfl, by simp⟩
  case round =>
    obtain ⟨i, done, rest, rfl, rfl, ha, hj, hbl, rfl, hl⟩ := hrel
    have HD := hid hj
    clear hj HJ
    have hsw := hbl.size
    have hds : (⟨done.toArray⟩ : ByteArray).size = done.length := Lib.size_mk _
    cases rest with
    | nil =>
      have hge : q.length ≤ i := ha.nil_iff.1 rfl
      go_wp2
      go_ret
      exact ⟨by rw [HD.out]; simp [joined], hbl⟩
    | cons c t =>
      have hlt := ha.lt
      have hx := ha.byte
      have hlen := ha.len
      have hex := ha.all
      simp only [List.length_cons] at hl hlen
      by_cases h92 : c = 92
      · subst h92
        cases t with
        | nil =>
          have hend : i + 1 = q.length := by simp at hlen; omega
          have hu : Calls Tryz.prog 63 #[.string ⟨#[92]⟩] wr fun e w' => e = .returned (.tuple #[.string ⟨#[92]⟩, .int .i64 1]) ∧ Below wr.heap.size wr w' := unescR_fn [] (by simp) wr
          have HU := hid hu
          have hmin : min (2 : Int) ((q.length : Int) - (i : Int)) = 1 := by omega
          have hnlt : ¬ ((i : Int) + 1 < (q.length : Int)) := by omega
          have hnb : decide ((i : Int) + 1 < (q.length : Int)) = false := by rw [decide_eq_false]; omega
          have hex1 : (⟨q.toArray⟩ : ByteArray).extract i (i + 1) = ⟨#[92]⟩ := At.text (x := [92]) ha
          clear hu
          go_wp2_with fail
          (with_reducible refine HU.out.mono ?_); rintro e w1 ⟨rfl, hb1⟩
          go_wp2
          go_roundg 0
          case measure => simp
          case rel => exact ⟨i + 1, done ++ [92], [], by rw [Value.string.injEq, ByteArray.ext_iff]; simp, by go_num, ha.tail, by rw [HD.out]; simp [joined], hbl.trans (hb1.mono hsw), rfl, by simp at hl ⊢; omega⟩
        | cons e t =>
          simp only [List.length_cons] at hl hlen
          have hx1 : ∀ h', (⟨q.toArray⟩ : ByteArray)[i + 1]'h' = e := ha.tail.byte
          have hlt1 : ((i : Int) + 1 < (q.length : Int)) := by omega
          by_cases h10 : e = 10
          · subst h10
            have hu : Calls Tryz.prog 63 #[.string ⟨(92 :: 10 :: t).toArray⟩] wr fun e w' => e = .returned (.tuple #[.string ⟨#[32]⟩, .int .i64 (((t.length + 2 - (blanks0 t).length : Nat) : Nat) : Int)]) ∧ Below wr.heap.size wr w' := unescR_fn (10 :: t) (by simp; omega) wr
            have hbl0 := (blanks0_suf t).length_le
            have HS := hid (blanks0_suf t)
            obtain ⟨r, hr⟩ : ∃ r, r = blanks0 t := ⟨_, rfl⟩
            have hJ2 : joined false (92 :: 10 :: t) = 32 :: joined false r := by
              rw [joined_cons, if_neg (by simp), if_pos (by decide)]
              show (if _ then _ else _) = _
              rw [if_pos (by decide), joined_true, hr]
            rw [← hr] at hu hbl0 HS
            have HU := hid hu
            have HJ2 := hid hJ2
            clear hu hJ2 hr
            go_wp2_with fail
            (with_reducible refine HU.out.mono ?_); rintro e w1 ⟨rfl, hb1⟩
            go_wp2
            go_roundg r.length
            case measure => simp; omega
            case rel =>
              refine ⟨i + (t.length + 2 - r.length), done ++ [32], r, by rw [Value.string.injEq, ByteArray.ext_iff]; simp, by go_num, ?_, by rw [HD.out, HJ2.out]; simp, hbl.trans (hb1.mono hsw), rfl, by simp; omega⟩
              exact ha.fall (HS.out.trans ((suf_tail _ t).trans (suf_tail _ _)))
          · have n10 := byte_ne 10 h10 rfl
            have hex2 : (⟨q.toArray⟩ : ByteArray).extract i (i + 2) = ⟨[92, e].toArray⟩ := At.text (x := [92, e]) ha
            have hu := unescR_fn (e :: t) (by simp; omega) wr
            generalize unesc (e :: t) = U at hu
            have HU := hid hu
            have hmin : min (2 : Int) ((q.length : Int) - (i : Int)) = 2 := by omega
            have hJ2 : joined false (92 :: e :: t) = 92 :: e :: joined false t := by
              rw [joined_cons, if_neg (by simp), if_pos (by decide)]
              show (if _ then _ else _) = _
              rw [if_neg (by simpa using h10)]
            have HJ2 := hid hJ2
            clear hJ2 hu
            go_wp2_with fail
            (with_reducible refine HU.out.mono ?_); rintro e' w1 ⟨rfl, hb1⟩
            go_wp2
            go_roundg t.length
            case measure => simp; omega
            case rel => exact ⟨i + 2, done ++ [92, e], t, by rw [Value.string.injEq, ByteArray.ext_iff]; simp, by go_num, ha.tail.tail, by rw [HD.out, HJ2.out]; simp, hbl.trans (hb1.mono hsw), rfl, by simp; omega⟩
      · have n92 := byte_ne 92 h92 rfl
        have hu := hid (unescNo_fn c t (by omega) h92 wr)
        have hex1 : (⟨q.toArray⟩ : ByteArray).extract i (i + 1) = ⟨[c].toArray⟩ := At.text (x := [c]) ha
        go_wp2_with fail
        (with_reducible refine hu.out.mono ?_); rintro e w1 ⟨rfl, hw⟩; subst w1
        go_wp2
        go_roundg t.length
        case measure => simp
        case rel => exact ⟨i + 1, done ++ [c], t, by rw [Value.string.injEq, ByteArray.ext_iff]; simp, by go_num, ha.tail, by rw [HD.out, joined_plain t h92]; simp, hbl, rfl, by simp; omega⟩
theorem text_fn (s : Str) (w : World) : Calls Tryz.prog 96 #[.string ⟨s.toArray⟩] w fun e w' => e = .returned (.slice (some ⟨w.heap.size, 0, none⟩) 1 1) ∧ w' = w.alloc (.cells #[.int .i64 1, .string ⟨s.toArray⟩, .bool false, .slice none 0 0] 33) := by
  go_enter Tryz.func96, Tryz.ntmps96
  go_wp2
  go_ret
  exact ⟨rfl, rfl⟩
theorem Tryz.infoF : (Tryz.prog.info? 63).map (·.size) = some 3 := by kernel_rfl
theorem Tryz.infoT : (Tryz.prog.info? 33).map (·.size) = some 4 := by kernel_rfl
theorem Tryz.infoW : (Tryz.prog.info? 49).map (·.size) = some 2 := by kernel_rfl
section
variable {P : Program} {fn : Func} {ty ty2 : TypeId} {d d2 : TypeDesc} {w : World} {g g2 : Nat} {cs cs2 : Array Value} {fr fr2 : Nat × Nat} {t t2 : TypeId}
/-- two plain results and one in a block -/
theorem results_ttc {t0 t1 p : Tmp} (h : fn.results = #[.tmp t0, .tmp t1, .cell p ty]) (tmps : Array Value) (hp : tmps.getD p undef = .pointer (some ⟨g, 0, none⟩)) (hg : w.heap[g]? = some (.cells cs t fr))
    (hu : P.underlying ty = some d) (hd : (match d with | .struct _ | .array _ _ => true | _ => false) = true) (hi : (P.info? ty).map (·.size) = some cs.size) :
    (results fn tmps).run P w = .ok (.tuple #[tmps.getD t0 undef, tmps.getD t1 undef, .agg cs]) w := by
  have hp' : tmps[p]?.getD undef = .pointer (some ⟨g, 0, none⟩) := by simpa using hp
  simp [results, h, hp', asAddr, run_loadVar_row w g t ty cs fr d hg hu hd hi]
theorem results_tc {t0 p : Tmp} (h : fn.results = #[.tmp t0, .cell p ty]) (tmps : Array Value) (hp : tmps.getD p undef = .pointer (some ⟨g, 0, none⟩)) (hg : w.heap[g]? = some (.cells cs t fr))
    (hu : P.underlying ty = some d) (hd : (match d with | .struct _ | .array _ _ => true | _ => false) = true) (hi : (P.info? ty).map (·.size) = some cs.size) :
    (results fn tmps).run P w = .ok (.tuple #[tmps.getD t0 undef, .agg cs]) w := by
  have hp' : tmps[p]?.getD undef = .pointer (some ⟨g, 0, none⟩) := by simpa using hp
  simp [results, h, hp', asAddr, run_loadVar_row w g t ty cs fr d hg hu hd hi]
theorem results_ctt {t0 t1 p : Tmp} (h : fn.results = #[.cell p ty, .tmp t0, .tmp t1]) (tmps : Array Value) (hp : tmps.getD p undef = .pointer (some ⟨g, 0, none⟩)) (hg : w.heap[g]? = some (.cells cs t fr))
    (hu : P.underlying ty = some d) (hd : (match d with | .struct _ | .array _ _ => true | _ => false) = true) (hi : (P.info? ty).map (·.size) = some cs.size) :
    (results fn tmps).run P w = .ok (.tuple #[.agg cs, tmps.getD t0 undef, tmps.getD t1 undef]) w := by
  have hp' : tmps[p]?.getD undef = .pointer (some ⟨g, 0, none⟩) := by simpa using hp
  simp [results, h, hp', asAddr, run_loadVar_row w g t ty cs fr d hg hu hd hi]
theorem results_ctc {t0 p p2 : Tmp} (h : fn.results = #[.cell p ty, .tmp t0, .cell p2 ty2]) (tmps : Array Value) (hp : tmps.getD p undef = .pointer (some ⟨g, 0, none⟩)) (hg : w.heap[g]? = some (.cells cs t fr))
    (hu : P.underlying ty = some d) (hd : (match d with | .struct _ | .array _ _ => true | _ => false) = true) (hi : (P.info? ty).map (·.size) = some cs.size)
    (hp2 : tmps.getD p2 undef = .pointer (some ⟨g2, 0, none⟩)) (hg2 : w.heap[g2]? = some (.cells cs2 t2 fr2))
    (hu2 : P.underlying ty2 = some d2) (hd2 : (match d2 with | .struct _ | .array _ _ => true | _ => false) = true) (hi2 : (P.info? ty2).map (·.size) = some cs2.size) :
    (results fn tmps).run P w = .ok (.tuple #[.agg cs, tmps.getD t0 undef, .agg cs2]) w := by
  have hp' : tmps[p]?.getD undef = .pointer (some ⟨g, 0, none⟩) := by simpa using hp
  have hp2' : tmps[p2]?.getD undef = .pointer (some ⟨g2, 0, none⟩) := by simpa using hp2
  simp [results, h, hp', hp2', asAddr, run_loadVar_row w g t ty cs fr d hg hu hd hi, run_loadVar_row w g2 t2 ty2 cs2 fr2 d2 hg2 hu2 hd2 hi2]
end
theorem fine_fn (w : World) : Calls Tryz.prog 61 #[] w fun e w' => e = .returned (.agg #[.int .i64 0, .int .i64 0, .bool false]) ∧ w' = w.alloc (.cells #[.int .i64 0, .int .i64 0, .bool false] 63) := by
  go_enter Tryz.func61, Tryz.ntmps61
  go_wp2
  refine bodyPost_ret (results_cell_row rfl _ _ w.heap.size _ _ (0, 0) _ rfl (heap_alloc_new _ _) Tryz.underlying63 rfl Tryz.infoF) rfl ?_
  exact ⟨rfl, rfl⟩
theorem all6_fn (s : Str) (w : World) : Calls Tryz.prog 37 #[.string ⟨s.toArray⟩] w fun e w' => e = .returned (.pointer (some ⟨w.heap.size, 0, none⟩)) ∧ RrAt w' w.heap.size s 0 all3 ∧ Below w.heap.size w w' := by
  go_enter Tryz.func37, Tryz.ntmps37
  go_wp2
  go_ret
  exact ⟨rfl, heap_alloc_new _ _, (Below.refl _ _).alloc (Nat.le_refl _) _⟩
end Go.Proofs.YtkgpmkkodpjdfaaGreatDoor.Pz
/-
  The reference 06: tokens that are put together.
-/
namespace Go.Proofs.YtkgpmkkodpjdfaaGreatDoor.Pz
open Go.RowKit
/-- behind an append: the old tokens and one more -/
theorem OutIs.add0 {w w2 : World} {B : Nat} {v v' : Value} {ts : List Tok} {x : Tok} {cs : List Value} {css : List (List Value)}
    (hcss : css.length = ts.length) (hel : ∀ i (h1 : i < css.length) (h2 : i < ts.length), TokIs 33 w (fun g => B ≤ g ∧ v.ownBlock ≠ some g) css[i] ts[i] ∧ css[i].length = 4)
    (hx : TokIs 33 w (fun g => B ≤ g ∧ v.ownBlock ≠ some g) cs x) (hB : ∀ g, v.ownBlock = some g → B ≤ g)
    (hrow : w2.ownsRow 0 33 4 v' (ts.length + 1) (css.flatten ++ cs)) (hv' : v'.ownBlock = v.ownBlock ∨ ∃ g, v'.ownBlock = some g ∧ w.heap.size ≤ g ∧ B ≤ g)
    (hf : ∀ k, k < w.heap.size → some k ≠ v.ownBlock → w2.heap[k]? = w.heap[k]?) : OutIs w2 B v' (ts ++ [x]) := by
  have hok : ∀ g, B ≤ g ∧ v.ownBlock ≠ some g → g < w.heap.size → B ≤ g ∧ v'.ownBlock ≠ some g := by
    rintro g ⟨h1, h2⟩ h3
    refine ⟨h1, ?_⟩
    rcases hv' with h | ⟨g', h, h4, _⟩
    · rw [h]; exact h2
    · rw [h]
      intro e
      have := Option.some.inj e
      omega
  have hh : ∀ g cur, (B ≤ g ∧ v.ownBlock ≠ some g) → w.heap[g]? = some (.cells cur 33 (0, 0)) → w2.heap[g]? = some (.cells cur 33 (0, 0)) := by
    rintro g cur ⟨h1, h2⟩ h3
    rw [hf g (Array.getElem?_eq_some_iff.1 h3).1 (fun e => h2 e.symm)]
    exact h3
  refine RowIs.snoc hrow ?_ hcss (fun i h1 h2 => ⟨(hel i h1 h2).1.keep2 hok hh, (hel i h1 h2).2⟩) (hx.keep2 hok hh) hx.len
  intro g hg
  rcases hv' with h | ⟨g', h, _, h4⟩
  · rw [h] at hg; exact hB g hg
  · rw [h] at hg
    have := Option.some.inj hg
    omega
/-- a token whose index lies in blocks that are new -/
theorem OutIs.append {w0 w w1 w2 : World} {B g cap' : Nat} {v : Value} {ts : List Tok} {x : Tok} {cs : List Value} {css : List (List Value)} (hBw : B ≤ w.heap.size) (hw0 : w0.heap.size ≤ w.heap.size)
    (hrow0 : w.ownsRow 0 33 4 v ts.length css.flatten) (hv0 : ∀ q, v.ownBlock = some q → q < w0.heap.size) (hcss : css.length = ts.length) (hel : ∀ i (h1 : i < css.length) (h2 : i < ts.length), TokIs 33 w (fun g => B ≤ g ∧ v.ownBlock ≠ some g) css[i] ts[i] ∧ css[i].length = 4)
    (hB : ∀ q, v.ownBlock = some q → B ≤ q) (hx : TokIs 33 w (New w0.heap.size) cs x) (hB0 : B ≤ w0.heap.size) (hw1 : ∀ k, k < w.heap.size → w1.heap[k]? = w.heap[k]?) (hs1 : w1.heap.size = w.heap.size + 1)
    (hrow : w2.ownsRow 0 33 4 (.slice (some ⟨g, 0, none⟩) (ts.length + 1) cap') (ts.length + 1) (css.flatten ++ cs)) (hg : w1.grownBy w2 v.ownBlock) (hgc : v.ownBlock = some g ∨ g = w1.heap.size) :
    OutIs w2 B (.slice (some ⟨g, 0, none⟩) (ts.length + 1) cap') (ts ++ [x]) := by
  refine OutIs.add0 hcss hel (hx.keep2 (fun q hq _ => ⟨Nat.le_trans hB0 hq, fun e => ?_⟩) (fun _ _ _ h => h)) hB hrow ?_ (fun k hk hr => ?_)
  · have h1 := hv0 q e
    have h2 : w0.heap.size ≤ q := hq
    omega
  · rcases hgc with h | h
    · exact .inl h.symm
    · exact .inr ⟨g, rfl, by omega, by omega⟩
  · rw [hg.block k (by omega) hr]
    exact hw1 k hk
theorem flat_last {css : List (List Value)} {c0 : List (List Value)} {a b c d : Value} (h : css = c0 ++ [[a, b, c, d]]) : css.flatten = c0.flatten ++ [a, b, c, d] := by
  subst h
  simp
/-- the last text goes on -/
theorem OutIs.edit {w : World} {B : Nat} {v : Value} {ts : List Tok} {p r : Str} (h : OutIs w B v (ts ++ [Tok.txt p])) :
    ∃ g cap, v = .slice (some ⟨g, 0, none⟩) (ts.length + 1) cap ∧ w.cell? ⟨g, ts.length * 4, none⟩ = some (.int .i64 1) ∧ w.cell? ⟨g, ts.length * 4 + 1, none⟩ = some (.string ⟨p.toArray⟩) ∧ w.frozen? ⟨g, ts.length * 4 + 1, none⟩ = false ∧ g < w.heap.size ∧ B ≤ g ∧
      OutIs (w.setCell ⟨g, ts.length * 4 + 1, none⟩ (.string ⟨r.toArray⟩)) B v (ts ++ [Tok.txt r]) := by
  obtain ⟨css, hrow, hrb, hcl, hel⟩ := h
  have hne : css ≠ [] := by
    rintro rfl
    simp at hcl
  obtain ⟨c0, c1, rfl⟩ : ∃ c0 c1, css = c0 ++ [c1] := ⟨css.dropLast, css.getLast hne, (List.dropLast_concat_getLast hne).symm⟩
  have hc0 : c0.length = ts.length := by simpa using hcl
  have hlast := hel ts.length (by simp; omega) (by simp)
  have e1 : (c0 ++ [c1])[ts.length]'(by simp; omega) = c1 := by
    rw [List.getElem_append_right (by omega)]
    simp [hc0]
  have e2 : (ts ++ [Tok.txt p])[ts.length]'(by simp) = Tok.txt p := by
    rw [List.getElem_append_right (by omega)]
    simp
  rw [e1, e2] at hlast
  obtain ⟨iv, hcs⟩ : ∃ iv, c1 = [.int .i64 1, .string ⟨p.toArray⟩, .bool false, iv] ∧ ToksIs 33 w (fun g => B ≤ g ∧ v.ownBlock ≠ some g) iv [] := by
    generalize hq : Tok.txt p = x at hlast
    obtain ⟨hh, _⟩ := hlast
    cases hh with
    | mk k s b ix u css' hrow' hok' hl' hs' =>
      obtain ⟨rfl, rfl, rfl, rfl⟩ := Tok.mk.inj (show Tok.mk 1 p false [] = .mk k s b ix from hq)
      exact ⟨u, rfl, css', hrow', hok', hl', fun i h1 h2 => absurd h2 (by simp)⟩
  obtain ⟨rfl, hiv⟩ := hcs
  have hfl : (c0 ++ [[.int .i64 1, .string ⟨p.toArray⟩, .bool false, iv]]).flatten = c0.flatten ++ [.int .i64 1, .string ⟨p.toArray⟩, .bool false, iv] := flat_last rfl
  have hc0f : c0.flatten.length = ts.length * 4 := by
    have h1 := hrow.1
    rw [hfl] at h1
    simp only [List.length_append, List.length_cons, List.length_nil] at h1
    omega
  rw [hfl] at hrow
  have hrow' := hrow
  obtain ⟨hl0, ⟨rfl, h0⟩ | ⟨g, cap, cur, rfl, hb, hgg, rest⟩⟩ := hrow'
  · simp at h0
  have hlen : (ts ++ [Tok.txt p]).length = ts.length + 1 := by simp
  rw [hlen] at hrow ⊢
  have hlt : g < w.heap.size := (Array.getElem?_eq_some_iff.1 hgg).1
  have hst := (hrow.stored (ts.length * 4 + 1) (.string ⟨r.toArray⟩)).1
  have hset : (c0.flatten ++ [.int .i64 1, .string ⟨p.toArray⟩, .bool false, iv]).set (ts.length * 4 + 1) (.string ⟨r.toArray⟩) = c0.flatten ++ [.int .i64 1, .string ⟨r.toArray⟩, .bool false, iv] := by
    rw [List.set_append_right _ _ (by omega), hc0f, show ts.length * 4 + 1 - ts.length * 4 = 1 by omega]
    rfl
  rw [hset] at hst
  refine ⟨g, cap, rfl, ?_, ?_, hrow.frozenAt _, hlt, hrb g rfl, ?_⟩
  · rw [hrow.cellAt _ (by omega), List.getElem?_append_right (by omega), hc0f]
    simp
  · rw [hrow.cellAt _ (by omega), List.getElem?_append_right (by omega), hc0f]
    simp
  · have hh : ∀ q cur', (B ≤ q ∧ (Value.slice (some ⟨g, 0, none⟩) (ts.length + 1) cap).ownBlock ≠ some q) → w.heap[q]? = some (.cells cur' 33 (0, 0)) → (w.setCell ⟨g, ts.length * 4 + 1, none⟩ (.string ⟨r.toArray⟩)).heap[q]? = some (.cells cur' 33 (0, 0)) := by
      rintro q cur' ⟨_, h2⟩ h3
      have hqg : q ≠ g := fun e => h2 (congrArg some e.symm)
      rw [Below.heap_setCell _ _ _ _ (fun e => hqg e)]
      exact h3
    refine RowIs.snoc (css := c0) (cs := [.int .i64 1, .string ⟨r.toArray⟩, .bool false, iv]) hst (fun q hq => hrb q hq) hc0 (fun i h1 h2 => ?_) ?_ rfl
    · have h3 := hel i (by simp; omega) (by simp; omega)
      rw [List.getElem_append_left h1, List.getElem_append_left h2] at h3
      exact ⟨h3.1.keep2 (fun _ h _ => h) hh, h3.2⟩
    · exact TokIs.of (hiv.keep2 (fun _ h _ => h) hh) 1 r false
theorem filledR_fn (v : Value) (ts : List Tok) {w : World} {ok : Nat → Prop} (hN : ∀ g, w.heap.size ≤ g → ok g) (h : ToksIs 33 w ok v ts) :
    Calls Tryz.prog 75 #[v] w fun e w' => ∃ v', e = .returned v' ∧ ToksIs 33 w' ok v' (filled ts) ∧ Below w.heap.size w w' := by
  obtain ⟨a, cap, rfl⟩ : ∃ a cap, v = .slice a ts.length cap := by
    obtain ⟨a, cap, hv, _⟩ := RowIs.cell h
    exact ⟨a, cap, hv⟩
  cases ts with
  | nil =>
    have hc : Calls Tryz.prog 96 #[.string ⟨#[]⟩] w fun e w' => e = .returned (.slice (some ⟨w.heap.size, 0, none⟩) 1 1) ∧ w' = w.alloc (.cells #[.int .i64 1, .string ⟨#[]⟩, .bool false, .slice none 0 0] 33) := text_fn [] w
    have HC := hid hc
    have hbl : Below w.heap.size w (w.alloc (.cells #[.int .i64 1, .string ⟨#[]⟩, .bool false, .slice none 0 0] 33)) := (Below.refl _ _).alloc (Nat.le_refl _) _
    have htk : ToksIs 33 (w.alloc (.cells #[.int .i64 1, .string ⟨#[]⟩, .bool false, .slice none 0 0] 33)) ok (.slice (some ⟨w.heap.size, 0, none⟩) 1 1) [Tok.txt []] := toks_one w [] ok (hN _ (Nat.le_refl _))
    have HT := hid htk
    have HB := hid hbl
    clear hc h hbl htk
    go_enter Tryz.func75, Tryz.ntmps75
    go_wp2_with fail
    (with_reducible refine HC.out.mono ?_); rintro e W ⟨rfl, hW⟩
    have HW := hid hW
    clear hW
    go_wp2
    go_ret
    exact ⟨_, rfl, by rw [HW.out]; exact HT.out, by rw [HW.out]; exact HB.out⟩
  | cons x ts =>
    have HT := hid h
    have hne : (((x :: ts).length : Int) == 0) = false := by rw [beq_eq_false_iff_ne]; simp; omega
    have hf : filled (x :: ts) = x :: ts := rfl
    rw [hf]
    clear h hf
    generalize x :: ts = ts at *
    go_enter Tryz.func75, Tryz.ntmps75
    go_wp2
    go_ret
    exact ⟨_, rfl, HT.out, Below.refl _ _⟩
end Go.Proofs.YtkgpmkkodpjdfaaGreatDoor.Pz
/-
  The reference 06: add.
-/
namespace Go.Proofs.YtkgpmkkodpjdfaaGreatDoor.Pz
open Go.RowKit
theorem OutIs.row {w : World} {B : Nat} {v : Value} {ts : List Tok} (h : OutIs w B v ts) : ∃ css : List (List Value), w.ownsRow 0 33 4 v ts.length css.flatten ∧ (∀ g, v.ownBlock = some g → B ≤ g) ∧ css.length = ts.length ∧
    ∀ i (h1 : i < css.length) (h2 : i < ts.length), TokIs 33 w (fun g => B ≤ g ∧ v.ownBlock ≠ some g) css[i] ts[i] ∧ css[i].length = 4 := h
/-- the kind of an element -/
theorem OutIs.kind {w : World} {B : Nat} {v : Value} {ts : List Tok} (h : OutIs w B v ts) {i : Nat} (hi : i < ts.length) : ∃ g cap, v = .slice (some ⟨g, 0, none⟩) ts.length cap ∧ w.cell? ⟨g, i * 4, none⟩ = some (.int .i64 ((ts[i]).kind : Nat)) := by
  obtain ⟨a, cap, hv, _, hc⟩ := RowIs.cell h
  obtain ⟨g, cs, rfl, he, _, _, hcell⟩ := hc i hi
  refine ⟨g, cap, hv, ?_⟩
  generalize ts[i] = x at he
  cases he with
  | mk k s b ix u css hrow hok hl hs => exact hcell 0 _ rfl
set_option maxRecDepth 100000 in
set_option maxHeartbeats 2000000 in
theorem addNew_fn {w : World} {B : Nat} {v : Value} {out : List Tok} (q : Str) (hl : LastOk out) (h : OutIs w B v out) (hBw : B ≤ w.heap.size) (hn : out.length ≤ 1000000) :
    Calls Tryz.prog 64 #[v, .string ⟨q.toArray⟩] w fun e w' => ∃ v', e = .returned v' ∧ OutIs w' B v' (out ++ [Tok.txt q]) ∧ w.grownBy w' v.ownBlock := by
  obtain ⟨i0, hi, hz0, hz1, hz2⟩ := info_parts Tryz.infoTok
  have hlast : out.length = 0 ∨ (0 < out.length ∧ ∃ g cap k, v = .slice (some ⟨g, 0, none⟩) out.length cap ∧ w.cell? ⟨g, (out.length - 1) * 4, none⟩ = some (.int .i64 (k : Nat)) ∧ k ≠ 1) := by
    rcases hl with rfl | ⟨hne, hk⟩
    · exact .inl rfl
    · right
      obtain ⟨g, cap, h1, h2⟩ := h.kind (i := out.length - 1) (by omega)
      exact ⟨hne, g, cap, _, h1, h2, hk⟩
  obtain ⟨css, hrow, hrb, hcl, hel⟩ := h.row
  obtain ⟨a, cap, rfl⟩ : ∃ a cap, v = .slice a out.length cap := by
    obtain ⟨a, cap, hv, _⟩ := RowIs.cell h
    exact ⟨a, cap, hv⟩
  have hv0 := fun q hq => (ownsRow_lt hrow q hq).1
  have b2 : Below w.heap.size w (w.alloc (.cells #[.int .i64 1, .string ⟨q.toArray⟩, .bool false, .slice none 0 0] 33)) := (Below.refl _ _).alloc (Nat.le_refl _) _
  have hr2 : (w.alloc (.cells #[.int .i64 1, .string ⟨q.toArray⟩, .bool false, .slice none 0 0] 33)).ownsRow 0 33 4 (.slice a out.length cap) out.length css.flatten := hrow.alloc _
  have hnew := new1 w (.cells #[.int .i64 1, .string ⟨q.toArray⟩, .bool false, .slice none 0 0] 33)
  have hsz2 : (w.alloc (.cells #[.int .i64 1, .string ⟨q.toArray⟩, .bool false, .slice none 0 0] 33)).heap.size = w.heap.size + 1 := by simp
  have fin : ∀ g cap' w2, w2.ownsRow 0 33 4 (.slice (some ⟨g, 0, none⟩) (out.length + 1) cap') (out.length + 1) (css.flatten ++ [.int .i64 1, .string ⟨q.toArray⟩, .bool false, .slice none 0 0]) →
      (w.alloc (.cells #[.int .i64 1, .string ⟨q.toArray⟩, .bool false, .slice none 0 0] 33)).grownBy w2 (Value.slice a out.length cap).ownBlock → ((Value.slice a out.length cap).ownBlock = some g ∨ g = w.heap.size + 1) →
      OutIs w2 B (.slice (some ⟨g, 0, none⟩) (out.length + 1) cap') (out ++ [Tok.txt q]) ∧ w.grownBy w2 (Value.slice a out.length cap).ownBlock := by
    intro g cap' w2 h1 h2 h3
    refine ⟨OutIs.append (w0 := w) hBw (Nat.le_refl _) hrow hv0 hcl hel hrb (TokIs.of RowIs.nil 1 q false) hBw b2.block hsz2 h1 h2 (by rw [hsz2]; exact h3), h2.os, h2.tape, h2.output, by have := h2.size; omega, fun k hk hr => ?_⟩
    rw [h2.block k (by omega) hr]
    exact b2.block k hk
  have HF := hid fin
  obtain ⟨n, hnn⟩ : ∃ n, n = out.length := ⟨_, rfl⟩
  clear fin h hv0 hel hl b2 hrb
  rcases hlast with h0 | ⟨hpos, g, cap2, k, hv, hc, hk⟩
  · rw [h0] at hr2 ⊢
    rw [h0] at HF hrow
    clear hrow
    go_enter Tryz.func64, Tryz.ntmps64
    go_wp2_with (at_builtin; refine wpList_append_lies _ rfl (.tmp 30) (.tmp 33) 25 rfl 0 33 i0 (.agg #[.int .i64 0, .string ⟨#[]⟩, .bool false, .slice none 0 0]) 4 56 Tryz.underlying25 hi hz0 hz1 hz2 rfl (by decide) _ 0 css.flatten (by rfl) hr2 ⟨w.heap.size, 0, none⟩ 1 1 [.int .i64 1, .string ⟨q.toArray⟩, .bool false, .slice none 0 0] (by rfl) rfl (World.news_of_block hnew) (by intro u hu; simp at hu; rcases hu with rfl | rfl | rfl | rfl <;> rfl) (by decide) (by unfold maxLen; omega) (by omega) (Nat.zero_le _) (w.heap.size + 1) hsz2 ?_)
    intro g cap' w2 h1 h2 h3 _
    have HX := hid (HF.out g cap' w2 h1 h2 h3)
    clear h1 h2 h3 HF
    go_wp2
    go_ret
    exact ⟨_, rfl, HX.out⟩
  · simp only [Value.slice.injEq] at hv
    obtain ⟨rfl, -, rfl⟩ := hv
    have hk1 : ((k : Int) == 1) = false := by rw [beq_eq_false_iff_ne]; omega
    have hpos' : (0 : Int) < (out.length : Int) := by omega
    clear hrow
    go_enter Tryz.func64, Tryz.ntmps64
    go_wp2_with (at_builtin; refine wpList_append_lies _ rfl (.tmp 30) (.tmp 33) 25 rfl 0 33 i0 (.agg #[.int .i64 0, .string ⟨#[]⟩, .bool false, .slice none 0 0]) 4 56 Tryz.underlying25 hi hz0 hz1 hz2 rfl (by decide) _ out.length css.flatten (by rfl) hr2 ⟨w.heap.size, 0, none⟩ 1 1 [.int .i64 1, .string ⟨q.toArray⟩, .bool false, .slice none 0 0] (by rfl) rfl (World.news_of_block hnew) (by intro u hu; simp at hu; rcases hu with rfl | rfl | rfl | rfl <;> rfl) (by decide) (by unfold maxLen; omega) (by omega) (Nat.zero_le _) (w.heap.size + 1) hsz2 ?_)
    intro g' cap' w2 h1 h2 h3 _
    have HX := hid (HF.out g' cap' w2 h1 h2 h3)
    clear h1 h2 h3 HF
    go_wp2
    go_ret
    exact ⟨_, rfl, HX.out⟩
set_option maxRecDepth 100000 in
set_option maxHeartbeats 2000000 in
theorem addMore_fn {w : World} {B : Nat} {v : Value} {out : List Tok} {p : Str} (q : Str) (h : OutIs w B v (out ++ [Tok.txt p])) (hn : out.length ≤ 1000000) (hp : p.length ≤ 1000000) (hq : q.length ≤ 1000000) :
    Calls Tryz.prog 64 #[v, .string ⟨q.toArray⟩] w fun e w' => ∃ v', e = .returned v' ∧ OutIs w' B v' (out ++ [Tok.txt (p ++ q)]) ∧ w.grownBy w' v.ownBlock := by
  obtain ⟨g, cap, rfl, h0, h1, hf, hlt, hBg, hout⟩ := h.edit (r := p ++ q)
  have hpz : (⟨p.toArray⟩ : ByteArray).size = p.length := Lib.size_mk _
  have hqz : (⟨q.toArray⟩ : ByteArray).size = q.length := Lib.size_mk _
  have hcat : (⟨p.toArray⟩ : ByteArray) ++ ⟨q.toArray⟩ = ⟨(p ++ q).toArray⟩ := by rw [ByteArray.ext_iff]; simp
  have hgr : w.grownBy (w.setCell ⟨g, out.length * 4 + 1, none⟩ (.string ⟨(p ++ q).toArray⟩)) (Value.slice (some ⟨g, 0, none⟩) (out.length + 1) cap).ownBlock :=
    ⟨rfl, rfl, rfl, by simp [World.setCell], fun k hk hr => Below.heap_setCell _ _ _ _ (fun e => hr (congrArg some e))⟩
  have HO := hid hout
  have HG := hid hgr
  have HC := hid hcat
  clear h hout hgr hcat
  generalize out.length = n at *
  go_enter Tryz.func64, Tryz.ntmps64
  go_wp2
  go_ret
  exact ⟨_, rfl, HO.out, HG.out⟩
end Go.Proofs.YtkgpmkkodpjdfaaGreatDoor.Pz
/-
  The reference 06: the contracts of the reader's functions.
-/
namespace Go.Proofs.YtkgpmkkodpjdfaaGreatDoor.Pz
open Go.RowKit
theorem addR_fn {w : World} {B : Nat} {v : Value} {out : List Tok} {p q : Str} (hq : q ≠ []) (hl : LastOk out) (h : OutIs w B v (out ++ flush p)) (hBw : B ≤ w.heap.size) (hn : out.length ≤ 1000000) (hp : p.length ≤ 1000000) (hq2 : q.length ≤ 1000000) :
    Calls Tryz.prog 64 #[v, .string ⟨q.toArray⟩] w fun e w' => ∃ v', e = .returned v' ∧ OutIs w' B v' (out ++ flush (p ++ q)) ∧ w.grownBy w' v.ownBlock := by
  have hf : flush (p ++ q) = [Tok.txt (p ++ q)] := by
    unfold flush
    rw [if_neg (by simp [hq])]
  rw [hf]
  cases p with
  | nil =>
    have h' : OutIs w B v out := by simpa [flush] using h
    exact addNew_fn q hl h' hBw hn
  | cons c p => exact addMore_fn q h hn hp hq2
/-- a fault in memory -/
def faultC (s : Str) : Halt → Array Value
  | .lacks b => #[.int .i64 2, .int .i64 ((s.length - b : Nat) : Int), .bool true]
  | .wrong b => #[.int .i64 2, .int .i64 ((s.length - b : Nat) : Int), .bool false]
  | .deep => #[.int .i64 4, .int .i64 0, .bool false]
def fineC : Array Value := #[.int .i64 0, .int .i64 0, .bool false]
/-- the reader behind a reading that stopped -/
def RrHalt (w : World) (rb : Nat) (s : Str) (d : Nat) (g : Told) : Prop := RrAt w rb s d g ∨ RrAt w rb s (d + 1) g
def stopB : Upto → UInt8
  | .bare _ => 0
  | .quote => 34
  | .paren => 41
  | .never => 1
/-- the index of what ends parts -/
def endI (f : Upto) (n : Nat) (r : Str) : Int :=
  match f with
  | .bare _ => ((n - r.length : Nat) : Int)
  | .never => ((n - r.length : Nat) : Int)
  | _ => if r.isEmpty then -1 else ((n - r.length : Nat) : Int)
def zeroTok : Value := .agg #[.int .i64 0, .string ⟨#[]⟩, .bool false, .slice none 0 0]
def zeroWord : Value := .agg #[.bool false, .slice none 0 0]
def CmdsRP (rb : Nat) (s : Str) (d : Nat) (w : World) (R : Res (List Cmd)) (e : Ending) (w' : World) : Prop :=
  match R with
  | .ok cs r => ∃ v, e = .returned (.tuple #[v, .int .i64 (if r.isEmpty then -1 else ((s.length - r.length : Nat) : Int)), .agg #[.int .i64 0, .int .i64 0, .bool false]]) ∧ RrAt w' rb s d all3 ∧ CmdsIs 33 49 47 s.length w' (New w.heap.size) v cs ∧ But rb w.heap.size w w'
  | .halt h => e = .returned (.tuple #[.slice none 0 0, .int .i64 0, .agg (faultC s h)]) ∧ RrHalt w' rb s d all3 ∧ But rb w.heap.size w w'
def WordRP (rb : Nat) (s : Str) (d : Nat) (w : World) (R : Res Wd) (e : Ending) (w' : World) : Prop :=
  match R with
  | .ok x r => ∃ v, e = .returned (.tuple #[.agg #[.bool x.spread, v], .int .i64 ((s.length - r.length : Nat) : Int), .agg #[.int .i64 0, .int .i64 0, .bool false]]) ∧ RrAt w' rb s d all3 ∧ ToksIs 33 w' (New w.heap.size) v x.toks ∧ But rb w.heap.size w w'
  | .halt h => e = .returned (.tuple #[.agg #[.bool false, .slice none 0 0], .int .i64 0, .agg (faultC s h)]) ∧ RrHalt w' rb s d all3 ∧ But rb w.heap.size w w'
def PartsRP (f : Upto) (rb : Nat) (s : Str) (d : Nat) (g : Told) (w : World) (R : Res (List Tok)) (e : Ending) (w' : World) : Prop :=
  match R with
  | .ok ts r => ∃ v, e = .returned (.tuple #[v, .int .i64 (endI f s.length r), .agg #[.int .i64 0, .int .i64 0, .bool false]]) ∧ RrAt w' rb s d g ∧ ToksIs 33 w' (New w.heap.size) v ts ∧ But rb w.heap.size w w'
  | .halt h => e = .returned (.tuple #[.slice none 0 0, .int .i64 0, .agg (faultC s h)]) ∧ RrHalt w' rb s d g ∧ But rb w.heap.size w w'
def ScriptRP (rb : Nat) (s : Str) (d : Nat) (g : Told) (w : World) (R : Res Str) (e : Ending) (w' : World) : Prop :=
  match R with
  | .ok _ r => e = .returned (.tuple #[.int .i64 ((s.length - r.length - 1 : Nat) : Int), .agg #[.int .i64 0, .int .i64 0, .bool false]]) ∧ RrAt w' rb s d g ∧ But rb w.heap.size w w'
  | .halt h => (∃ z, e = .returned (.tuple #[.int .i64 z, .agg (faultC s h)])) ∧ RrHalt w' rb s d g ∧ But rb w.heap.size w w'
def VarRP (rb : Nat) (s : Str) (d : Nat) (g : Told) (w : World) (R : Res (Option Tok)) (e : Ending) (w' : World) : Prop :=
  match R with
  | .ok none _ => e = .returned (.tuple #[.agg #[.int .i64 0, .string ⟨#[]⟩, .bool false, .slice none 0 0], .int .i64 0, .agg #[.int .i64 8, .int .i64 0, .bool false]]) ∧ RrAt w' rb s d g ∧ But rb w.heap.size w w'
  | .ok (some (.mk k x h ix)) r => ∃ v, e = .returned (.tuple #[.agg #[.int .i64 (k : Nat), .string ⟨x.toArray⟩, .bool h, v], .int .i64 ((s.length - r.length : Nat) : Int), .agg #[.int .i64 0, .int .i64 0, .bool false]]) ∧ RrAt w' rb s d g ∧ ToksIs 33 w' (New w.heap.size) v ix ∧ But rb w.heap.size w w'
  | .halt h => e = .returned (.tuple #[.agg #[.int .i64 0, .string ⟨#[]⟩, .bool false, .slice none 0 0], .int .i64 0, .agg (faultC s h)]) ∧ RrHalt w' rb s d g ∧ But rb w.heap.size w w'
def CmdsRC (wi : Bool) (d : Nat) (l : Str) : Prop := ∀ (w : World) (rb : Nat) (s : Str) (i : Nat), s.length ≤ 1000000 → d ≤ 100 → RrAt w rb s d all3 → At s l i →
  Calls Tryz.prog 76 #[.pointer (some ⟨rb, 0, none⟩), .int .i64 (i : Nat), .bool wi] w (CmdsRP rb s d w (commands wi d l))
def WordRC (wi : Bool) (d : Nat) (l : Str) : Prop := ∀ (w : World) (rb : Nat) (s : Str) (i : Nat), s.length ≤ 1000000 → d ≤ 100 → RrAt w rb s d all3 → At s l i → l ≠ [] →
  Calls Tryz.prog 99 #[.pointer (some ⟨rb, 0, none⟩), .int .i64 (i : Nat), .bool wi] w (WordRP rb s d w (word wi d l))
def PartsRC (f : Upto) (g : Told) (d : Nat) (l : Str) : Prop := ∀ (w : World) (rb : Nat) (s : Str) (i : Nat) (nb : Bool), s.length ≤ 1000000 → d ≤ 100 → RrAt w rb s d g → At s l i → (∀ wi, f = .bare wi → nb = wi) →
  Calls Tryz.prog 33 #[.pointer (some ⟨rb, 0, none⟩), .int .i64 (i : Nat), .int .u8 ((stopB f).toNat : Nat), .bool nb] w (PartsRP f rb s d g w (parts f g d l))
def ScriptRC (d : Nat) (l : Str) : Prop := ∀ (w : World) (rb : Nat) (s : Str) (i : Nat) (g : Told), s.length ≤ 1000000 → d ≤ 100 → RrAt w rb s d g → At s (91 :: l) i →
  Calls Tryz.prog 65 #[.pointer (some ⟨rb, 0, none⟩), .int .i64 (i : Nat)] w (ScriptRP rb s d g w (script d l))
def VarRC (g : Told) (d : Nat) (l : Str) : Prop := ∀ (w : World) (rb : Nat) (s : Str) (i : Nat), s.length ≤ 1000000 → d ≤ 100 → RrAt w rb s d g → At s (36 :: l) i →
  Calls Tryz.prog 38 #[.pointer (some ⟨rb, 0, none⟩), .int .i64 (i : Nat)] w (VarRP rb s d g w (varOf g d l))
theorem RrAt.but {w w' : World} {rb N : Nat} {s : Str} {d : Nat} {g : Told} (h : RrAt w rb s d g) (hb : Below w.heap.size w w') : RrAt w' rb s d g := h.below hb
theorem OutIs.butR {w w' : World} {B rb : Nat} {v : Value} {ts : List Tok} {s : Str} {d : Nat} {g : Told} (h : OutIs w B v ts) (hb : But rb w.heap.size w w') (hr : RrAt w rb s d g) : OutIs w' B v ts :=
  h.keep fun k cur _ hc => (hb.block k (Array.getElem?_eq_some_iff.1 hc).1 (by
    rintro rfl
    unfold RrAt at hr
    rw [hc] at hr
    simp at hr)).trans hc
/-- what holds at a round's head in the reference's 'parts' -/
structure QInv (f : Upto) (g : Told) (d : Nat) (s l : Str) (rb N : Nat) (w wr : World) (l' : Str) (i' : Nat) (v : Value) (ts : List Tok) (p : Str) : Prop where
  rd : RrAt wr rb s d g
  here : At s l' i'
  flt : wr.heap[N]? = some (.cells #[.int .i64 0, .int .i64 0, .bool false] 63 (0, 0))
  out : OutIs wr N v (ts ++ flush p)
  last : LastOk ts
  but : But rb N w wr
  res : acc ts p (parts f g d l') = parts f g d l
  small : ts.length + p.length + l'.length ≤ l.length
/-- three cells are stored -/
theorem set3 {w : World} {b : Nat} {a0 a1 a2 : Value} {T : TypeId} (h : w.heap[b]? = some (.cells #[a0, a1, a2] T (0, 0))) (x y z : Value) :
    (((w.setCell ⟨b, 0, none⟩ x).setCell ⟨b, 1, none⟩ y).setCell ⟨b, 2, none⟩ z).heap[b]? = some (.cells #[x, y, z] T (0, 0)) := by
  simp [World.setCell, Array.getElem?_modify, h]
theorem But.grow {rb N : Nat} {w wr w' : World} {row : Option Nat} (h : But rb N w wr) (hg : wr.grownBy w' row) (hN : N ≤ wr.heap.size) (hr : ∀ k, row = some k → N ≤ k) : But rb N w w' := h.grown hg hN hr
theorem QInv.ltN {f : Upto} {g : Told} {d : Nat} {s l : Str} {rb N : Nat} {w wr : World} {l' : Str} {i' : Nat} {v : Value} {ts : List Tok} {p : Str} (h : QInv f g d s l rb N w wr l' i' v ts p) : N < wr.heap.size := (Array.getElem?_eq_some_iff.1 h.flt).1
theorem QInv.own {f : Upto} {g : Told} {d : Nat} {s l : Str} {rb N : Nat} {w wr : World} {l' : Str} {i' : Nat} {v : Value} {ts : List Tok} {p : Str} (h : QInv f g d s l rb N w wr l' i' v ts p) : ∀ k, v.ownBlock = some k → N ≤ k ∧ ∃ cur, wr.heap[k]? = some (.cells cur 33 (0, 0)) := by
  intro k hk
  obtain ⟨css, hrow, hrb, _⟩ := h.out
  exact ⟨hrb k hk, (ownsRow_lt hrow k hk).2⟩
/-- a text is put behind; nothing else is touched -/
theorem QInv.text {f : Upto} {g : Told} {d : Nat} {s l : Str} {rb N : Nat} {w wr w' : World} {l' l2 : Str} {i' i2 : Nat} {v v' : Value} {ts : List Tok} {p q : Str} (h : QInv f g d s l rb N w wr l' i' v ts p) (hrb : rb < N) (ho : OutIs w' N v' (ts ++ flush (p ++ q))) (hg : wr.grownBy w' v.ownBlock)
    (hat : At s l2 i2) (hq : q ≠ []) (hres : parts f g d l' = (parts f g d l2).glue q) (hl : q.length + l2.length ≤ l'.length) : QInv f g d s l rb N w w' l2 i2 v' ts (p ++ q) := by
  have hown := h.own
  have hne : ∀ k cur T, wr.heap[k]? = some (.cells cur T (0, 0)) → T ≠ 33 → some k ≠ v.ownBlock := by
    intro k cur T hk hT e
    obtain ⟨_, cur', hc⟩ := hown k e.symm
    rw [hc] at hk
    simp only [Option.some.injEq, Obj.cells.injEq] at hk
    exact hT hk.2.1.symm
  refine ⟨(hg.block rb h.rd.lt (hne rb _ _ h.rd (by decide))).trans h.rd, hat, (hg.block N h.ltN (hne N _ _ h.flt (by decide))).trans h.flt, ho, h.last, h.but.grown hg (Nat.le_of_lt h.ltN) (fun k hk => (hown k hk).1), ?_, ?_⟩
  · rw [← h.res, hres, acc_glue _ _ hq]
  · have := h.small
    simp only [List.length_append]
    omega
/-- a call that leaves what is not new -/
theorem QInv.call {f : Upto} {g : Told} {d : Nat} {s l : Str} {rb N : Nat} {w wr w' : World} {l' : Str} {i' : Nat} {v : Value} {ts : List Tok} {p : Str} (h : QInv f g d s l rb N w wr l' i' v ts p) (hrb : rb < N) (hb : But rb wr.heap.size wr w') (hrd : RrAt w' rb s d g) : QInv f g d s l rb N w w' l' i' v ts p :=
  ⟨hrd, h.here, (hb.block N h.ltN (by omega)).trans h.flt, h.out.butR hb h.rd, h.last, h.but.trans (hb.mono (Nat.le_of_lt h.ltN)), h.res, h.small⟩
theorem QInv.below {f : Upto} {g : Told} {d : Nat} {s l : Str} {rb N : Nat} {w wr w' : World} {l' : Str} {i' : Nat} {v : Value} {ts : List Tok} {p : Str} (h : QInv f g d s l rb N w wr l' i' v ts p) (hrb : rb < N) (hb : Below wr.heap.size wr w') : QInv f g d s l rb N w w' l' i' v ts p :=
  h.call hrb (but_of_below hb rb) (h.rd.below hb)
/-- one token more -/
theorem QInv.tok {f : Upto} {g : Told} {d : Nat} {s l : Str} {rb N : Nat} {w wr w' : World} {l' l2 : Str} {i' i2 : Nat} {v v' : Value} {ts : List Tok} {p : Str} {x : Tok} (h : QInv f g d s l rb N w wr l' i' v ts p) (hx : x.kind ≠ 1) (ho : OutIs w' N v' (ts ++ flush p ++ [x]))
    (hrd : RrAt w' rb s d g) (hflt : w'.heap[N]? = some (.cells #[.int .i64 0, .int .i64 0, .bool false] 63 (0, 0))) (hbut : But rb N w w')
    (hat : At s l2 i2) (hres : parts f g d l' = (parts f g d l2).cons x) (hl : l2.length < l'.length) : QInv f g d s l rb N w w' l2 i2 v' (ts ++ flush p ++ [x]) [] := by
  refine ⟨hrd, hat, hflt, by simpa [flush] using ho, LastOk.snoc _ hx, hbut, ?_, ?_⟩
  · rw [← h.res, hres, acc_cons _ _ hx]
  · have := h.small
    have hf : (flush p).length ≤ p.length := by
      unfold flush
      cases p <;> simp
    simp only [List.length_append, List.length_cons, List.length_nil]
    omega
/-- the reading's end -/
theorem QInv.done {f : Upto} {g : Told} {d : Nat} {s l : Str} {rb N : Nat} {w wr : World} {l' : Str} {i' : Nat} {v : Value} {ts : List Tok} {p : Str} (h : QInv f g d s l rb N w wr l' i' v ts p) (he : f.ends l' = true) : parts f g d l = .ok (ts ++ flush p) l' := by
  rw [← h.res, parts_end he, acc_end]
theorem QInv.toks {f : Upto} {g : Told} {d : Nat} {s l : Str} {rb N : Nat} {w wr : World} {l' : Str} {i' : Nat} {v : Value} {ts : List Tok} {p : Str} (h : QInv f g d s l rb N w wr l' i' v ts p) : ToksIs 33 wr (New N) v (ts ++ flush p) := h.out.toks
end Go.Proofs.YtkgpmkkodpjdfaaGreatDoor.Pz
/-
  The reference 06: parts: what its walks share.
-/
namespace Go.Proofs.YtkgpmkkodpjdfaaGreatDoor.Pz
open Go.RowKit
theorem flt_cells {w : World} {N : Nat} {a b c : Value} {T : TypeId} (h : w.heap[N]? = some (.cells #[a, b, c] T (0, 0))) : w.cell? ⟨N, 0, none⟩ = some a ∧ w.cell? ⟨N, 1, none⟩ = some b ∧ w.cell? ⟨N, 2, none⟩ = some c :=
  ⟨by rw [Lib.cell_of_heap h]; rfl, by rw [Lib.cell_of_heap h]; rfl, by rw [Lib.cell_of_heap h]; rfl⟩
theorem ret_vif {v f : Value} {k : IntKind} {a b : Int} (h : a = b) : Ending.returned (.tuple #[v, .int k a, f]) = .returned (.tuple #[v, .int k b, f]) := by rw [h]
section
variable {w : World} {N : Nat} {x y z : Value}
theorem set_ne {k : Nat} (hk : k ≠ N) : (((w.setCell ⟨N, 0, none⟩ x).setCell ⟨N, 1, none⟩ y).setCell ⟨N, 2, none⟩ z).heap[k]? = w.heap[k]? := by
  rw [Below.heap_setCell _ _ _ _ (fun e => hk e), Below.heap_setCell _ _ _ _ (fun e => hk e), Below.heap_setCell _ _ _ _ (fun e => hk e)]
theorem set_size : (((w.setCell ⟨N, 0, none⟩ x).setCell ⟨N, 1, none⟩ y).setCell ⟨N, 2, none⟩ z).heap.size = w.heap.size := by simp [World.setCell]
theorem set_rd {rb : Nat} {s : Str} {d : Nat} {g : Told} (hrb : rb < N) (h : RrAt w rb s d g) : RrAt (((w.setCell ⟨N, 0, none⟩ x).setCell ⟨N, 1, none⟩ y).setCell ⟨N, 2, none⟩ z) rb s d g := (set_ne (by omega)).trans h
theorem set_but {rb : Nat} {w0 : World} (h : But rb N w0 w) : But rb N w0 (((w.setCell ⟨N, 0, none⟩ x).setCell ⟨N, 1, none⟩ y).setCell ⟨N, 2, none⟩ z) :=
  ((h.setCell (.inr (Nat.le_refl _)) x).setCell (.inr (Nat.le_refl _)) y).setCell (.inr (Nat.le_refl _)) z
theorem set_toks {ok : Nat → Prop} {v : Value} {ts : List Tok} {cs : Array Value} (h : ToksIs 33 w ok v ts) (hN : w.heap[N]? = some (.cells cs 63 (0, 0))) : ToksIs 33 (((w.setCell ⟨N, 0, none⟩ x).setCell ⟨N, 1, none⟩ y).setCell ⟨N, 2, none⟩ z) ok v ts :=
  h.keep2 (fun _ h _ => h) (fun q cur _ hc => (set_ne (cells_ne hc hN (by decide))).trans hc)
end
theorem faultC_shape (s : Str) (h : Halt) : ∃ E A O, faultC s h = #[.int .i64 E, .int .i64 A, .bool O] ∧ (E == 0) = false ∧ (E == 8) = false ∧ (E != 0) = true := by
  cases h with
  | lacks b => exact ⟨2, _, true, rfl, rfl, rfl, rfl⟩
  | wrong b => exact ⟨2, _, false, rfl, rfl, rfl, rfl⟩
  | deep => exact ⟨4, 0, false, rfl, rfl, rfl, rfl⟩
theorem set_halt {w : World} {N rb : Nat} {x y z : Value} {s : Str} {d : Nat} {g : Told} (hrb : rb < N) (h : RrHalt w rb s d g) : RrHalt (((w.setCell ⟨N, 0, none⟩ x).setCell ⟨N, 1, none⟩ y).setCell ⟨N, 2, none⟩ z) rb s d g :=
  h.imp (set_rd hrb) (set_rd hrb)
theorem RrHalt.below {w w' : World} {rb : Nat} {s : Str} {d : Nat} {g : Told} (h : RrHalt w rb s d g) (hb : Below w.heap.size w w') : RrHalt w' rb s d g := h.imp (fun h => h.below hb) (fun h => h.below hb)
theorem RrHalt.drewN {w : World} {rb : Nat} {s : Str} {d : Nat} {g : Told} (h : RrHalt w rb s d g) (n : Nat) : RrHalt (w.drewN n) rb s d g := h
/-- two blocks more -/
theorem below2 (w : World) (a b : Obj) : Below w.heap.size w ((w.alloc a).alloc b) := ((Below.refl _ _).alloc (Nat.le_refl _) _).alloc (by simp) _
theorem below1 (w : World) (a : Obj) : Below w.heap.size w (w.alloc a) := (Below.refl _ _).alloc (Nat.le_refl _) _
theorem flush_le1 (p : Str) : (flush p).length ≤ 1 := by
  unfold flush
  split <;> simp
theorem ToksIs.fwd {w w' : World} {ok : Nat → Prop} {v : Value} {ts : List Tok} (h : ToksIs 33 w ok v ts) (hb : Below w.heap.size w w') : ToksIs 33 w' ok v ts :=
  h.keep2 (fun _ h _ => h) (fun g _ _ hc => (hb.block g (Array.getElem?_eq_some_iff.1 hc).1).trans hc)
/-- behind the append of a token -/
theorem QInv.append {f : Upto} {g : Told} {d : Nat} {s l : Str} {rb N : Nat} {w wr W2 W4 : World} {l' l2 : Str} {i' i2 : Nat} {v iv : Value} {ts : List Tok} {p x : Str} {k gg cap' : Nat} {hh : Bool} {ix : List Tok} {css : List (List Value)}
    (h : QInv f g d s l rb N w wr l' i' v ts p) (h2 : QInv f g d s l rb N w W2 l' i' v ts p) (hrb : rb < N) (hk : k ≠ 1) (hw0 : wr.heap.size ≤ W2.heap.size) (htk : ToksIs 33 W2 (New wr.heap.size) iv ix)
    (hrow : W2.ownsRow 0 33 4 v (ts ++ flush p).length css.flatten) (hcl : css.length = (ts ++ flush p).length) (hel : ∀ i (h1 : i < css.length) (h2 : i < (ts ++ flush p).length), TokIs 33 W2 (fun g => N ≤ g ∧ v.ownBlock ≠ some g) css[i] (ts ++ flush p)[i] ∧ css[i].length = 4)
    (hrow4 : W4.ownsRow 0 33 4 (.slice (some ⟨gg, 0, none⟩) ((ts ++ flush p).length + 1) cap') ((ts ++ flush p).length + 1) (css.flatten ++ [.int .i64 (k : Nat), .string ⟨x.toArray⟩, .bool hh, iv]))
    (hg4 : (W2.alloc (.cells #[.int .i64 (k : Nat), .string ⟨x.toArray⟩, .bool hh, iv] 33)).grownBy W4 v.ownBlock) (hgc : v.ownBlock = some gg ∨ gg = W2.heap.size + 1)
    (hat : At s l2 i2) (hres : parts f g d l' = (parts f g d l2).cons (.mk k x hh ix)) (hl : l2.length < l'.length) :
    QInv f g d s l rb N w W4 l2 i2 (.slice (some ⟨gg, 0, none⟩) ((ts ++ flush p).length + 1) cap') (ts ++ flush p ++ [.mk k x hh ix]) [] := by
  have hown := h2.own
  have hown0 := h.own
  have hb1 := below1 W2 (.cells #[.int .i64 (k : Nat), .string ⟨x.toArray⟩, .bool hh, iv] 33)
  have hs1 : (W2.alloc (.cells #[.int .i64 (k : Nat), .string ⟨x.toArray⟩, .bool hh, iv] 33)).heap.size = W2.heap.size + 1 := by simp
  have hne : ∀ q cur T, W2.heap[q]? = some (.cells cur T (0, 0)) → T ≠ 33 → some q ≠ v.ownBlock := by
    intro q cur T hq hT e
    obtain ⟨_, cur', hc⟩ := hown q e.symm
    rw [hc] at hq
    simp only [Option.some.injEq, Obj.cells.injEq] at hq
    exact hT hq.2.1.symm
  have far : ∀ q, q < W2.heap.size → some q ≠ v.ownBlock → W4.heap[q]? = W2.heap[q]? := by
    intro q hq hr
    rw [hg4.block q (by omega) hr]
    exact hb1.block q hq
  have hltN0 := h.ltN
  refine h2.tok hk ?_ ((far rb h2.rd.lt (hne rb _ _ h2.rd (by decide))).trans h2.rd) ((far N h2.ltN (hne N _ _ h2.flt (by decide))).trans h2.flt) ?_ hat hres hl
  · exact OutIs.append (w0 := wr) (Nat.le_of_lt h2.ltN) hw0 hrow (fun q hq => by obtain ⟨_, cur, hc⟩ := hown0 q hq; exact (Array.getElem?_eq_some_iff.1 hc).1) hcl hel (fun q hq => (hown q hq).1) (TokIs.of htk k x hh) (Nat.le_of_lt hltN0) hb1.block hs1 hrow4 hg4 (by rw [hs1]; exact hgc)
  · exact (h2.but.alloc (Nat.le_of_lt h2.ltN) _).grown hg4 (by have := h2.ltN; omega) (fun q hq => (hown q hq).1)
end Go.Proofs.YtkgpmkkodpjdfaaGreatDoor.Pz
