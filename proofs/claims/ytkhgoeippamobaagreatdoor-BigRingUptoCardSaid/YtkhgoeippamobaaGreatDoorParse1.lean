/-
  Reading a number: bytes, prefixes, trimming.
-/
import Derived.Test.YtkhgoeippamobaaGreatDoorText
import Derived.Lib.Strings
import Derived.Lib.Slices
import Derived.Lib.TrimByte
import Derived.Laws.Strings3
namespace Go.Proofs.YtkhgoeippamobaaGreatDoor
open Go.RowKit
/-- whether a byte is white -/
def isWh (c : UInt8) : Bool := (decide (9 ≤ c.toNat) && decide (c.toNat ≤ 13)) || decide (c.toNat = 32)
/-- a digit's value -/
def valOf (c : UInt8) : Nat :=
  if 48 ≤ c.toNat ∧ c.toNat ≤ 57 then c.toNat - 48
  else if 97 ≤ c.toNat ∧ c.toNat ≤ 122 then c.toNat - 97 + 10
  else if 65 ≤ c.toNat ∧ c.toNat ≤ 90 then c.toNat - 65 + 10
  else 36
theorem valOf_le (c : UInt8) : valOf c ≤ 36 := by unfold valOf; split; omega; split; omega; split <;> omega
theorem white_fn (c : UInt8) (w : World) : Calls Tryz.prog 136 #[.int .u8 c.toNat] w fun e w' => e = .returned (.bool (isWh c)) ∧ w' = w := by
  have hw : isWh c = ((decide (9 ≤ c.toNat) && decide (c.toNat ≤ 13)) || decide (c.toNat = 32)) := rfl
  have hW := hid hw
  clear hw
  have hl : c.toNat < 256 := c.toNat_lt
  generalize isWh c = W at hW ⊢
  generalize c.toNat = x at hl hW ⊢
  go_enter Tryz.func136, Tryz.ntmps136
  by_cases h1 : 9 ≤ x
  · by_cases h2 : x ≤ 13
    · go_wp2
      go_ret
      exact ⟨by rw [hW.out, decide_eq_true h1, decide_eq_true h2]; rfl, rfl⟩
    · have h2' : ¬ (x : Int) ≤ 13 := by omega
      by_cases h3 : x = 32
      · subst h3
        go_wp2
        go_ret
        exact ⟨by rw [hW.out]; rfl, rfl⟩
      · have h4 : ((x : Int) == 32) = false := by simp; omega
        go_wp2
        go_ret
        refine ⟨?_, rfl⟩
        rw [hW.out, decide_eq_false h2, decide_eq_false h3]
        simp
  · go_wp2
    go_ret
    refine ⟨?_, rfl⟩
    rw [hW.out, decide_eq_false h1]
    have h3 : ¬ x = 32 := by omega
    have : ¬ (x : Int) = 32 := by omega
    simp [this, h3]
theorem value_fn (c : UInt8) (w : World) : Calls Tryz.prog 148 #[.int .u8 c.toNat] w fun e w' => e = .returned (.int .i64 (valOf c)) ∧ w' = w := by
  have hw : valOf c = if 48 ≤ c.toNat ∧ c.toNat ≤ 57 then c.toNat - 48
    else if 97 ≤ c.toNat ∧ c.toNat ≤ 122 then c.toNat - 97 + 10
    else if 65 ≤ c.toNat ∧ c.toNat ≤ 90 then c.toNat - 65 + 10
    else 36 := rfl
  have hW := hid hw
  clear hw
  have hl : c.toNat < 256 := c.toNat_lt
  generalize valOf c = W at hW ⊢
  generalize c.toNat = x at hl hW ⊢
  go_enter Tryz.func148, Tryz.ntmps148
  by_cases h1 : 48 ≤ x ∧ x ≤ 57
  · obtain ⟨a1, a2⟩ := h1
    go_wp2
    go_ret
    refine ⟨?_, rfl⟩
    have := hW.out
    rw [if_pos ⟨a1, a2⟩] at this
    rw [this, show ((x - 48 : Nat) : Int) = (x : Int) - 48 by omega]
    rfl
  · by_cases h2 : 97 ≤ x ∧ x ≤ 122
    · obtain ⟨a1, a2⟩ := h2
      have b1 : ¬ x ≤ 57 := by omega
      go_wp2
      go_ret
      refine ⟨?_, rfl⟩
      have := hW.out
      rw [if_neg h1, if_pos ⟨a1, a2⟩] at this
      rw [this, show ((x - 97 + 10 : Nat) : Int) = (x : Int) - 97 + 10 by omega]
      rfl
    · by_cases h3 : 65 ≤ x ∧ x ≤ 90
      · obtain ⟨a1, a2⟩ := h3
        have b1 : ¬ x ≤ 57 := by omega
        have b2 : ¬ 97 ≤ x := by omega
        go_wp2
        go_ret
        refine ⟨?_, rfl⟩
        have := hW.out
        rw [if_neg h1, if_neg h2, if_pos ⟨a1, a2⟩] at this
        rw [this, show ((x - 65 + 10 : Nat) : Int) = (x : Int) - 65 + 10 by omega]
        rfl
      · have hWW : W = 36 := by
          have := hW.out
          rw [if_neg h1, if_neg h2, if_neg h3] at this
          exact this
        subst hWW
        by_cases c1 : 48 ≤ x
        · have d1 : ¬ x ≤ 57 := fun h => h1 ⟨c1, h⟩
          by_cases c2 : 97 ≤ x
          · have d2 : ¬ x ≤ 122 := fun h => h2 ⟨c2, h⟩
            have d3 : ¬ x ≤ 90 := by omega
            go_wp2
            go_ret
            exact ⟨rfl, rfl⟩
          · by_cases c3 : 65 ≤ x
            · have d3 : ¬ x ≤ 90 := fun h => h3 ⟨c3, h⟩
              go_wp2
              go_ret
              exact ⟨rfl, rfl⟩
            · go_wp2
              go_ret
              exact ⟨rfl, rfl⟩
        · go_wp2
          go_ret
          exact ⟨rfl, rfl⟩
theorem hasPrefix_sl (s p : List UInt8) (hs : s.length ≤ 1000000000) (hp : p.length ≤ 1000000000) (w : World) : Calls Tryz.prog 146 #[.string ⟨s.toArray⟩, .string ⟨p.toArray⟩] w fun e w' => e = .returned (.bool (p.isPrefixOf s)) ∧ w' = w := by
  have h1 : (⟨s.toArray⟩ : ByteArray).size = s.length := Lib.size_mk _
  have h2 : (⟨p.toArray⟩ : ByteArray).size = p.length := Lib.size_mk _
  have hpre := hid (Lib.hasPrefix_of_take s p)
  go_enter Tryz.func146, Tryz.ntmps146
  by_cases hl : p.length ≤ s.length
  · go_wp2
    go_ret
    refine ⟨?_, rfl⟩
    have h3 := hpre.out
    rw [decide_eq_true hl, Bool.true_and] at h3
    show Ending.returned (Value.bool (((⟨s.toArray⟩ : ByteArray).extract 0 p.length).toList == p)) = _
    rw [Lib.extract_mk, ByteArray.toList_mk]
    exact congrArg _ (congrArg _ h3)
  · go_wp2
    go_ret
    refine ⟨?_, rfl⟩
    have h3 := hpre.out
    rw [decide_eq_false hl, Bool.false_and] at h3
    exact congrArg _ (congrArg _ h3)
theorem hasPrefix_fn (s p : List UInt8) (hs : s.length ≤ 1000000000) (hp : p.length ≤ 1000000000) (w : World) : Calls Tryz.prog 137 #[.string ⟨s.toArray⟩, .string ⟨p.toArray⟩] w fun e w' => e = .returned (.bool (p.isPrefixOf s)) ∧ w' = w := by
  have hc := hid (hasPrefix_sl s p hs hp w)
  go_enter Tryz.func137, Tryz.ntmps137
  go_wp2_with fail
  (with_reducible refine hc.out.mono ?_); rintro e w' ⟨rfl, rfl⟩
  go_wp2
  go_ret
  exact ⟨rfl, rfl⟩
theorem cutPrefix_sl (s p : List UInt8) (hs : s.length ≤ 1000000000) (hp : p.length ≤ 1000000000) (w : World) : Calls Tryz.prog 147 #[.string ⟨s.toArray⟩, .string ⟨p.toArray⟩] w fun e w' => e = .returned (if p.isPrefixOf s then .tuple #[.string ⟨(s.drop p.length).toArray⟩, .bool true] else .tuple #[.string ⟨s.toArray⟩, .bool false]) ∧ w' = w := by
  have h1 : (⟨s.toArray⟩ : ByteArray).size = s.length := Lib.size_mk _
  have h2 : (⟨p.toArray⟩ : ByteArray).size = p.length := Lib.size_mk _
  have hc := hid (hasPrefix_sl s p hs hp w)
  go_enter Tryz.func147, Tryz.ntmps147
  go_wp2_with fail
  (with_reducible refine hc.out.mono ?_); rintro e w' ⟨rfl, rfl⟩
  have hle : p.isPrefixOf s = true → p.length ≤ s.length := fun h => (List.isPrefixOf_iff_prefix.1 h).length_le
  cases hpre : p.isPrefixOf s
  · clear hle
    go_wp2
    all_goals (go_ret2; exact ⟨rfl, rfl⟩)
  · have hle' := hle hpre
    clear hle
    have e1 : (⟨s.toArray⟩ : ByteArray).extract p.length s.length = ⟨(s.drop p.length).toArray⟩ := by
      rw [Lib.extract_mk, List.take_of_length_le (by simp)]
    go_wp2
    go_ret2
    exact ⟨rfl, rfl⟩
theorem cutPrefix_fn (s p : List UInt8) (hs : s.length ≤ 1000000000) (hp : p.length ≤ 1000000000) (w : World) : Calls Tryz.prog 138 #[.string ⟨s.toArray⟩, .string ⟨p.toArray⟩] w fun e w' => e = .returned (if p.isPrefixOf s then .tuple #[.string ⟨(s.drop p.length).toArray⟩, .bool true] else .tuple #[.string ⟨s.toArray⟩, .bool false]) ∧ w' = w := by
  have hc := hid (cutPrefix_sl s p hs hp w)
  cases hpre : p.isPrefixOf s
  · rw [hpre] at hc
    have hc := hid hc.out
    go_enter Tryz.func138, Tryz.ntmps138
    go_wp2_with fail
    (with_reducible refine hc.out.mono ?_); rintro e w' ⟨rfl, rfl⟩
    go_wp2
    go_ret2
    exact ⟨rfl, rfl⟩
  · rw [hpre] at hc
    have hc := hid hc.out
    go_enter Tryz.func138, Tryz.ntmps138
    go_wp2_with fail
    (with_reducible refine hc.out.mono ?_); rintro e w' ⟨rfl, rfl⟩
    go_wp2
    go_ret2
    exact ⟨rfl, rfl⟩
theorem trimLeft1 (s : List UInt8) (hs : s.length ≤ 1000000000) (c : UInt8) (w : World) : Calls Tryz.prog 155 #[.string ⟨s.toArray⟩, .int .u8 c.toNat] w fun e w' => e = .returned (.string ⟨(s.dropWhile (· == c)).toArray⟩) ∧ w' = w := by
  go_enter Tryz.func155, Tryz.ntmps155
  go_wp2
  go_loop [0] (fun v => ∃ l : List UInt8, l.length ≤ 1000000000 ∧ v = .string ⟨l.toArray⟩ ∧ l.dropWhile (· == c) = s.dropWhile (· == c)) (fun v => Lib.strSize v)
  case atStart => exact ⟨s, hs, rfl, rfl⟩
  case round =>
    obtain ⟨l, hl, rfl, he⟩ := hrel
    have hE := hid he
    clear he
    cases l with
    | nil =>
      have h1 : (⟨([] : List UInt8).toArray⟩ : ByteArray).size = 0 := rfl
      go_wp2
      go_ret
      exact ⟨by rw [← hE.out]; rfl, rfl⟩
    | cons x l =>
      have h1 : (⟨(x :: l).toArray⟩ : ByteArray).size = l.length + 1 := by rw [Lib.size_mk]; simp
      have h2 : (⟨(x :: l).toArray⟩ : ByteArray).extract 1 (l.length + 1) = ⟨l.toArray⟩ := by
        rw [Lib.extract_mk]; simp
      have hx : ∀ h, (⟨(x :: l).toArray⟩ : ByteArray)[0]'h = x := fun h => rfl
      have hl' : l.length ≤ 999999999 := by simpa using hl
      clear hl
      by_cases hc : x = c
      · subst hc
        have hd : (x :: l).dropWhile (· == x) = l.dropWhile (· == x) := by simp
        go_wp2
        refine ⟨⟨l, by omega, rfl, by rw [← hE.out, hd]⟩, ?_⟩
        rw [Lib.strSize_string, Lib.strSize_string, h1, Lib.size_mk]
        omega
      · have hne : (((x.toNat : Nat) : Int) == ((c.toNat : Nat) : Int)) = false := by
          have : x.toNat ≠ c.toNat := fun e => hc (UInt8.toNat_inj.1 e)
          rw [beq_eq_false_iff_ne]
          omega
        have hd : (x :: l).dropWhile (· == c) = x :: l := by
          rw [List.dropWhile_cons, if_neg (by simpa using hc)]
        go_wp2
        go_ret
        exact ⟨by rw [← hE.out, hd]; rfl, rfl⟩
theorem trimLeft_fn (s : List UInt8) (hs : s.length ≤ 1000000000) (w : World) : Calls Tryz.prog 149 #[.string ⟨s.toArray⟩, .string ⟨#[48]⟩] w fun e w' => e = .returned (.string ⟨(s.dropWhile (· == 48)).toArray⟩) ∧ w' = w := by
  have hc : Calls Tryz.prog 155 #[.string ⟨s.toArray⟩, .int .u8 48] w fun e w' => e = .returned (.string ⟨(s.dropWhile (· == 48)).toArray⟩) ∧ w' = w := trimLeft1 s hs 48 w
  have hc := hid hc
  go_enter Tryz.func149, Tryz.ntmps149
  cases s with
  | nil =>
    go_wp2
    go_ret
    exact ⟨rfl, rfl⟩
  | cons x l =>
    have hne : (x :: l == ([] : List UInt8)) = false := rfl
    have hx : ∀ h, (⟨#[48]⟩ : ByteArray)[0]'h = 48 := fun h => rfl
    go_wp2_with fail
    (with_reducible refine hc.out.mono ?_); rintro e w' ⟨rfl, rfl⟩
    go_wp2
    go_ret
    exact ⟨rfl, rfl⟩
end Go.Proofs.YtkhgoeippamobaaGreatDoor
