/-
  Part K2 of the proofs of this seat: contracts of functions and plain facts, merged from 25 texts.
-/
import Derived.Lib.Strings
import Derived.Lib.Slices
import Derived.Lib.TrimByte
import Derived.Laws.Strings3
import Derived.Deep.CutBlock
import Derived.Deep.DeepCutAuto
import Derived.Outline
import Derived.BigQuiet
import Derived.Test.YtkhgoeippamobaaGreatDoorK1
/-
  Reading a number: bytes, prefixes, trimming.
-/
namespace Go.Proofs.YtkhgoeippamobaaGreatDoor
open Go.RowKit
/-- whether a byte is white -/
def isWh (c : UInt8) : Bool := (decide (9 ≤ c.toNat) && decide (c.toNat ≤ 13)) || decide (c.toNat = 32)
/-- a digit's value -/
def valOf (c : UInt8) : Nat :=
  if 48 ≤ c.toNat ∧ c.toNat ≤ 57 then c.toNat - 48
  else if 97 ≤ c.toNat ∧ c.toNat ≤ 122 then c.toNat - 97 + 10
  else if 65 ≤ c.toNat ∧ c.toNat ≤ 90 then c.toNat - 65 + 10
  else 36
theorem valOf_le (c : UInt8) : valOf c ≤ 36 := by unfold valOf; split; omega; split; omega; split <;> omega
theorem white_fn (c : UInt8) (w : World) : Calls Tryz.prog 136 #[.int .u8 c.toNat] w fun e w' => e = .returned (.bool (isWh c)) ∧ w' = w := by
  have hw : isWh c = ((decide (9 ≤ c.toNat) && decide (c.toNat ≤ 13)) || decide (c.toNat = 32)) := rfl
  have hW := hid hw
  clear hw
  have hl : c.toNat < 256 := c.toNat_lt
  generalize isWh c = W at hW ⊢
  generalize c.toNat = x at hl hW ⊢
  go_enter Tryz.func136, Tryz.ntmps136
  by_cases h1 : 9 ≤ x
  · by_cases h2 : x ≤ 13
    · go_wp2
      go_ret
      exact ⟨by rw [hW.out, decide_eq_true h1, decide_eq_true h2]; rfl, rfl⟩
    · have h2' : ¬ (x : Int) ≤ 13 := by omega
      by_cases h3 : x = 32
      · subst h3
        go_wp2
        go_ret
        exact ⟨by rw [hW.out]; rfl, rfl⟩
      · have h4 : ((x : Int) == 32) = false := by simp; omega
        go_wp2
        go_ret
        refine ⟨?_, rfl⟩
        rw [hW.out, decide_eq_false h2, decide_eq_false h3]
        simp
  · go_wp2
    go_ret
    refine ⟨?_, rfl⟩
    rw [hW.out, decide_eq_false h1]
    have h3 : ¬ x = 32 := by omega
    have : ¬ (x : Int) = 32 := by omega
    simp [this, h3]
theorem value_fn (c : UInt8) (w : World) : Calls Tryz.prog 148 #[.int .u8 c.toNat] w fun e w' => e = .returned (.int .i64 (valOf c)) ∧ w' = w := by
  have hw : valOf c = if 48 ≤ c.toNat ∧ c.toNat ≤ 57 then c.toNat - 48
    else if 97 ≤ c.toNat ∧ c.toNat ≤ 122 then c.toNat - 97 + 10
    else if 65 ≤ c.toNat ∧ c.toNat ≤ 90 then c.toNat - 65 + 10
    else 36 := rfl
  have hW := hid hw
  clear hw
  have hl : c.toNat < 256 := c.toNat_lt
  generalize valOf c = W at hW ⊢
  generalize c.toNat = x at hl hW ⊢
  go_enter Tryz.func148, Tryz.ntmps148
  by_cases h1 : 48 ≤ x ∧ x ≤ 57
  · obtain ⟨a1, a2⟩ := h1
    go_wp2
    go_ret
    refine ⟨?_, rfl⟩
    have := hW.out
    rw [if_pos ⟨a1, a2⟩] at this
    rw [this, show ((x - 48 : Nat) : Int) = (x : Int) - 48 by omega]
    rfl
  · by_cases h2 : 97 ≤ x ∧ x ≤ 122
    · obtain ⟨a1, a2⟩ := h2
      have b1 : ¬ x ≤ 57 := by omega
      go_wp2
      go_ret
      refine ⟨?_, rfl⟩
      have := hW.out
      rw [if_neg h1, if_pos ⟨a1, a2⟩] at this
      rw [this, show ((x - 97 + 10 : Nat) : Int) = (x : Int) - 97 + 10 by omega]
      rfl
    · by_cases h3 : 65 ≤ x ∧ x ≤ 90
      · obtain ⟨a1, a2⟩ := h3
        have b1 : ¬ x ≤ 57 := by omega
        have b2 : ¬ 97 ≤ x := by omega
        go_wp2
        go_ret
        refine ⟨?_, rfl⟩
        have := hW.out
        rw [if_neg h1, if_neg h2, if_pos ⟨a1, a2⟩] at this
        rw [this, show ((x - 65 + 10 : Nat) : Int) = (x : Int) - 65 + 10 by omega]
        rfl
      · have hWW : W = 36 := by
          have := hW.out
          rw [if_neg h1, if_neg h2, if_neg h3] at this
          exact this
        subst hWW
        by_cases c1 : 48 ≤ x
        · have d1 : ¬ x ≤ 57 := fun h => h1 ⟨c1, h⟩
          by_cases c2 : 97 ≤ x
          · have d2 : ¬ x ≤ 122 := fun h => h2 ⟨c2, h⟩
            have d3 : ¬ x ≤ 90 := by omega
            go_wp2
            go_ret
            exact ⟨rfl, rfl⟩
          · by_cases c3 : 65 ≤ x
            · have d3 : ¬ x ≤ 90 := fun h => h3 ⟨c3, h⟩
              go_wp2
              go_ret
              exact ⟨rfl, rfl⟩
            · go_wp2
              go_ret
              exact ⟨rfl, rfl⟩
        · go_wp2
          go_ret
          exact ⟨rfl, rfl⟩
theorem hasPrefix_sl (s p : List UInt8) (_hs : s.length ≤ 1000000000) (_hp : p.length ≤ 1000000000) (w : World) : Calls Tryz.prog 146 #[.string ⟨s.toArray⟩, .string ⟨p.toArray⟩] w fun e w' => e = .returned (.bool (p.isPrefixOf s)) ∧ w' = w := by
  have h1 : (⟨s.toArray⟩ : ByteArray).size = s.length := Lib.size_mk _
  have h2 : (⟨p.toArray⟩ : ByteArray).size = p.length := Lib.size_mk _
  have hpre := hid (Lib.hasPrefix_of_take s p)
  go_enter Tryz.func146, Tryz.ntmps146
  by_cases hl : p.length ≤ s.length
  · go_wp2
    go_ret
    refine ⟨?_, rfl⟩
    have h3 := hpre.out
    rw [decide_eq_true hl, Bool.true_and] at h3
    show Ending.returned (Value.bool (((⟨s.toArray⟩ : ByteArray).extract 0 p.length).toList == p)) = _
    rw [Lib.extract_mk, ByteArray.toList_mk]
    exact congrArg _ (congrArg _ h3)
  · go_wp2
    go_ret
    refine ⟨?_, rfl⟩
    have h3 := hpre.out
    rw [decide_eq_false hl, Bool.false_and] at h3
    exact congrArg _ (congrArg _ h3)
theorem hasPrefix_fn (s p : List UInt8) (hs : s.length ≤ 1000000000) (hp : p.length ≤ 1000000000) (w : World) : Calls Tryz.prog 137 #[.string ⟨s.toArray⟩, .string ⟨p.toArray⟩] w fun e w' => e = .returned (.bool (p.isPrefixOf s)) ∧ w' = w := by
  have hc := hid (hasPrefix_sl s p hs hp w)
  go_enter Tryz.func137, Tryz.ntmps137
  go_wp2_with fail
  (with_reducible refine hc.out.mono ?_); rintro e w' ⟨rfl, rfl⟩
  go_wp2
  go_ret
  exact ⟨rfl, rfl⟩
theorem cutPrefix_sl (s p : List UInt8) (hs : s.length ≤ 1000000000) (hp : p.length ≤ 1000000000) (w : World) : Calls Tryz.prog 147 #[.string ⟨s.toArray⟩, .string ⟨p.toArray⟩] w fun e w' => e = .returned (if p.isPrefixOf s then .tuple #[.string ⟨(s.drop p.length).toArray⟩, .bool true] else .tuple #[.string ⟨s.toArray⟩, .bool false]) ∧ w' = w := by
  have h1 : (⟨s.toArray⟩ : ByteArray).size = s.length := Lib.size_mk _
  have h2 : (⟨p.toArray⟩ : ByteArray).size = p.length := Lib.size_mk _
  have hc := hid (hasPrefix_sl s p hs hp w)
  go_enter Tryz.func147, Tryz.ntmps147
  go_wp2_with fail
  (with_reducible refine hc.out.mono ?_); rintro e w' ⟨rfl, rfl⟩
  have hle : p.isPrefixOf s = true → p.length ≤ s.length := fun h => (List.isPrefixOf_iff_prefix.1 h).length_le
  cases hpre : p.isPrefixOf s
  · clear hle
    go_wp2
    all_goals (go_ret2; exact ⟨rfl, rfl⟩)
  · have hle' := hle hpre
    clear hle
    have e1 : (⟨s.toArray⟩ : ByteArray).extract p.length s.length = ⟨(s.drop p.length).toArray⟩ := by
      rw [Lib.extract_mk, List.take_of_length_le (by simp)]
    go_wp2
    go_ret2
    exact ⟨rfl, rfl⟩
theorem cutPrefix_fn (s p : List UInt8) (hs : s.length ≤ 1000000000) (hp : p.length ≤ 1000000000) (w : World) : Calls Tryz.prog 138 #[.string ⟨s.toArray⟩, .string ⟨p.toArray⟩] w fun e w' => e = .returned (if p.isPrefixOf s then .tuple #[.string ⟨(s.drop p.length).toArray⟩, .bool true] else .tuple #[.string ⟨s.toArray⟩, .bool false]) ∧ w' = w := by
  have hc := hid (cutPrefix_sl s p hs hp w)
  cases hpre : p.isPrefixOf s
  · rw [hpre] at hc
    have hc := hid hc.out
    go_enter Tryz.func138, Tryz.ntmps138
    go_wp2_with fail
    (with_reducible refine hc.out.mono ?_); rintro e w' ⟨rfl, rfl⟩
    go_wp2
    go_ret2
    exact ⟨rfl, rfl⟩
  · rw [hpre] at hc
    have hc := hid hc.out
    go_enter Tryz.func138, Tryz.ntmps138
    go_wp2_with fail
    (with_reducible refine hc.out.mono ?_); rintro e w' ⟨rfl, rfl⟩
    go_wp2
    go_ret2
    exact ⟨rfl, rfl⟩
theorem trimLeft1 (s : List UInt8) (hs : s.length ≤ 1000000000) (c : UInt8) (w : World) : Calls Tryz.prog 155 #[.string ⟨s.toArray⟩, .int .u8 c.toNat] w fun e w' => e = .returned (.string ⟨(s.dropWhile (· == c)).toArray⟩) ∧ w' = w := by
  go_enter Tryz.func155, Tryz.ntmps155
  go_wp2
  go_loop [0] (fun v => ∃ l : List UInt8, l.length ≤ 1000000000 ∧ v = .string ⟨l.toArray⟩ ∧ l.dropWhile (· == c) = s.dropWhile (· == c)) (fun v => Lib.strSize v)
  case atStart => exact ⟨s, hs, rfl, rfl⟩
  case round =>
    obtain ⟨l, hl, rfl, he⟩ := hrel
    have hE := hid he
    clear he
    cases l with
    | nil =>
      have h1 : (⟨([] : List UInt8).toArray⟩ : ByteArray).size = 0 := rfl
      go_wp2
      go_ret
      exact ⟨by rw [← hE.out]; rfl, rfl⟩
    | cons x l =>
      have h1 : (⟨(x :: l).toArray⟩ : ByteArray).size = l.length + 1 := by rw [Lib.size_mk]; simp
      have h2 : (⟨(x :: l).toArray⟩ : ByteArray).extract 1 (l.length + 1) = ⟨l.toArray⟩ := by
        rw [Lib.extract_mk]; simp
      have hx : ∀ h, (⟨(x :: l).toArray⟩ : ByteArray)[0]'h = x := fun h => rfl
      have hl' : l.length ≤ 999999999 := by simpa using hl
      clear hl
      by_cases hc : x = c
      · subst hc
        have hd : (x :: l).dropWhile (· == x) = l.dropWhile (· == x) := by simp
        go_wp2
        refine ⟨⟨l, by omega, rfl, by rw [← hE.out, hd]⟩, ?_⟩
        rw [Lib.strSize_string, Lib.strSize_string, h1, Lib.size_mk]
        omega
      · have hne : (((x.toNat : Nat) : Int) == ((c.toNat : Nat) : Int)) = false := by
          have : x.toNat ≠ c.toNat := fun e => hc (UInt8.toNat_inj.1 e)
          rw [beq_eq_false_iff_ne]
          omega
        have hd : (x :: l).dropWhile (· == c) = x :: l := by
          rw [List.dropWhile_cons, if_neg (by simpa using hc)]
        go_wp2
        go_ret
        exact ⟨by rw [← hE.out, hd]; rfl, rfl⟩
theorem trimLeft_fn (s : List UInt8) (hs : s.length ≤ 1000000000) (w : World) : Calls Tryz.prog 149 #[.string ⟨s.toArray⟩, .string ⟨#[48]⟩] w fun e w' => e = .returned (.string ⟨(s.dropWhile (· == 48)).toArray⟩) ∧ w' = w := by
  have hc : Calls Tryz.prog 155 #[.string ⟨s.toArray⟩, .int .u8 48] w fun e w' => e = .returned (.string ⟨(s.dropWhile (· == 48)).toArray⟩) ∧ w' = w := trimLeft1 s hs 48 w
  have hc := hid hc
  go_enter Tryz.func149, Tryz.ntmps149
  cases s with
  | nil =>
    go_wp2
    go_ret
    exact ⟨rfl, rfl⟩
  | cons x l =>
    have hne : (x :: l == ([] : List UInt8)) = false := rfl
    have hx : ∀ h, (⟨#[48]⟩ : ByteArray)[0]'h = 48 := fun h => rfl
    go_wp2_with fail
    (with_reducible refine hc.out.mono ?_); rintro e w' ⟨rfl, rfl⟩
    go_wp2
    go_ret
    exact ⟨rfl, rfl⟩
end Go.Proofs.YtkhgoeippamobaaGreatDoor
/-
  Reading digits of a base.
-/
namespace Go.Proofs.YtkhgoeippamobaaGreatDoor
open Go.RowKit
/-- whether a text is digits of a base, at least one -/
def rOK (b : Nat) (l : List UInt8) : Bool := !l.isEmpty && l.all (fun c => decide (valOf c < b))
/-- the number that digits are, behind a number -/
def numFrom (b n : Nat) (l : List UInt8) : Nat := l.foldl (fun n c => n * b + valOf c) n
def numOf (b : Nat) (l : List UInt8) : Nat := numFrom b 0 l
/-- a number that was read: too long ones are known by their sign alone -/
def PNum (w : World) (v : Value) (z : Int) : Prop := ∃ n lg, NumV w v n (decide (z < 0)) lg ∧ (lg = false → n = z.natAbs) ∧ lg = decide (big600 ≤ z.natAbs) ∧ nlen n ≤ 1000
/-- the like, its size in new memory -/
def PNumO (w : World) (base : Nat) (v : Value) (z : Int) : Prop := ∃ s n lg, v = .agg #[s, .bool (decide (z < 0)), .bool lg] ∧ Own .u32 75 w base s (nlen n) (D n) ∧ (lg = false → n = z.natAbs) ∧ lg = decide (big600 ≤ z.natAbs) ∧ nlen n ≤ 1000
theorem PNumO.num {w : World} {base : Nat} {v : Value} {z : Int} (h : PNumO w base v z) : PNum w v z := by
  obtain ⟨s, n, lg, h0, h1, h2, h3, h4⟩ := h
  exact ⟨n, lg, ⟨s, h0, h1.nat⟩, h2, h3, h4⟩
theorem PNumO.mono {w : World} {base base' : Nat} {v : Value} {z : Int} (h : PNumO w base v z) (hb : base' ≤ base) : PNumO w base' v z := by
  obtain ⟨s, n, lg, h0, h1, h2, h3, h4⟩ := h
  exact ⟨s, n, lg, h0, h1.mono hb, h2, h3, h4⟩
theorem PNumO.set3 {w : World} {base b : Nat} {v : Value} {z : Int} (h : PNumO w base v z) (hb : b < base) (x y t : Value) : PNumO (((w.setCell ⟨b, 0, none⟩ x).setCell ⟨b, 1, none⟩ y).setCell ⟨b, 2, none⟩ t) base v z := by
  obtain ⟨s, n, lg, h0, h1, h2, h3, h4⟩ := h
  exact ⟨s, n, lg, h0, own_set3 h1 x y t hb, h2, h3, h4⟩
theorem PNum.below {w w' : World} {v : Value} {z : Int} (h : PNum w v z) (hb : Below w.heap.size w w') : PNum w' v z := by
  obtain ⟨n, lg, h1, h2, h3, h4⟩ := h
  exact ⟨n, lg, h1.below hb, h2, h3, h4⟩
theorem PNum.int {w : World} {v : Value} {z : Int} (h : PNum w v z) (hz : z.natAbs < big600) : IntV w v z ∧ nlen z.natAbs ≤ 1000 := by
  obtain ⟨n, lg, h1, h2, h3, h4⟩ := h
  have h5 : lg = false := by rw [h3]; exact decide_eq_false (by omega)
  have h6 := h2 h5
  subst h6
  rw [h5] at h1
  exact ⟨h1, h4⟩
theorem PNum.long {w : World} {v : Value} {z : Int} (h : PNum w v z) (hz : ¬ z.natAbs < big600) : ∃ n, NumV w v n (decide (z < 0)) true ∧ nlen n ≤ 1000 := by
  obtain ⟨n, lg, h1, h2, h3, h4⟩ := h
  have h5 : lg = true := by rw [h3]; exact decide_eq_true (by omega)
  rw [h5] at h1
  exact ⟨n, h1, h4⟩
theorem numFrom_ge (b : Nat) (hb : 2 ≤ b) (l : List UInt8) (n : Nat) : n * 2 ^ l.length ≤ numFrom b n l := by
  induction l generalizing n with
  | nil => simp [numFrom]
  | cons c l ih =>
    have h1 := ih (n * b + valOf c)
    have h2 : n * 2 ≤ n * b + valOf c := Nat.le_trans (Nat.mul_le_mul_left n hb) (Nat.le_add_right _ _)
    have h3 := Nat.mul_le_mul_right (2 ^ l.length) h2
    have e : n * 2 ^ (c :: l).length = n * 2 * 2 ^ l.length := by
      rw [List.length_cons, Nat.pow_succ, Nat.mul_assoc, Nat.mul_comm 2]
    rw [e]
    exact Nat.le_trans h3 h1
theorem numFrom_mono (b : Nat) (hb : 2 ≤ b) (l : List UInt8) (n : Nat) : n ≤ numFrom b n l := by
  have h1 := numFrom_ge b hb l n
  have h2 : n * 1 ≤ n * 2 ^ l.length := Nat.mul_le_mul_left n Nat.one_le_two_pow
  omega
theorem valOf_zero : valOf 48 = 0 := by decide
theorem numOf_trim (b : Nat) (l : List UInt8) : numOf b (l.dropWhile (· == 48)) = numOf b l := by
  induction l with
  | nil => rfl
  | cons c l ih =>
    by_cases h : c = 48
    · subst h
      rw [List.dropWhile_cons, if_pos (by simp), ih]
      simp [numOf, numFrom, valOf_zero]
    · rw [List.dropWhile_cons, if_neg (by simpa using h)]
theorem valOf_eq_zero (c : UInt8) (h : valOf c = 0) : c = 48 := by
  unfold valOf at h
  have h2 : c.toNat = 48 := by
    split at h
    · omega
    · split at h
      · omega
      · split at h <;> omega
  exact UInt8.toNat_inj.1 (by rw [h2]; rfl)
/-- a text without zeros ahead has a number as great as its length says -/
theorem numOf_long (b : Nat) (hb : 2 ≤ b) (l : List UInt8) : 2 ^ (l.dropWhile (· == 48)).length ≤ 2 * numOf b l ∨ l.dropWhile (· == 48) = [] := by
  rw [← numOf_trim]
  cases h : l.dropWhile (· == 48) with
  | nil => exact .inr rfl
  | cons c t =>
    left
    have hne : c ≠ 48 := by
      have := List.head?_dropWhile_not (fun x => x == 48) l
      rw [h] at this
      simpa using this
    have h1 : 1 ≤ valOf c := by
      rcases Nat.eq_zero_or_pos (valOf c) with h0 | h0
      · exact absurd (valOf_eq_zero c h0) hne
      · exact h0
    have h2 : numOf b (c :: t) = numFrom b (valOf c) t := by simp [numOf, numFrom]
    have h3 := numFrom_ge b hb t (valOf c)
    have h4 := Nat.mul_le_mul_right (2 ^ t.length) h1
    rw [h2, List.length_cons, Nat.pow_succ]
    omega
theorem numOf_take_succ (b : Nat) (l : List UInt8) (i : Nat) (h : i < l.length) : numOf b (l.take (i + 1)) = numOf b (l.take i) * b + valOf (l[i]'h) := by
  rw [List.take_add_one, List.getElem?_eq_getElem h]
  unfold numOf numFrom
  rw [List.foldl_append]
  rfl
theorem numOf_take_le (b : Nat) (hb : 2 ≤ b) (l : List UInt8) (i : Nat) : numOf b (l.take i) ≤ numOf b l := by
  have e : numOf b l = numFrom b (numOf b (l.take i)) (l.drop i) := by
    conv => lhs; rw [← List.take_append_drop i l]
    unfold numOf numFrom
    rw [List.foldl_append]
  rw [e]
  exact numFrom_mono b hb _ _
end Go.Proofs.YtkhgoeippamobaaGreatDoor
/-
  Reading digits of a base: the walk.
-/
namespace Go.Proofs.YtkhgoeippamobaaGreatDoor
open Go.RowKit
/-- what 'read' answers -/
def ReadP (b : Nat) (l : List UInt8) (neg : Bool) (w : World) (e : Ending) (w' : World) : Prop :=
  ∃ v, e = .returned (.tuple #[v, .bool (rOK b l)]) ∧ Below w.heap.size w w' ∧ (rOK b l = true → PNumO w' w.heap.size v (sgnInt neg (numOf b l))) ∧ (∃ a n c g h, v = .agg #[.slice a n c, .bool g, .bool h])
theorem sgnInt_abs (neg : Bool) (n : Nat) : (sgnInt neg n).natAbs = n := by cases neg <;> simp [sgnInt]
theorem sgnInt_neg (neg : Bool) (n : Nat) : decide (sgnInt neg n < 0) = (neg && decide (0 < n)) := by
  cases neg
  · simp [sgnInt]
  · by_cases h : 0 < n
    · simp [sgnInt, h]
    · have : n = 0 := by omega
      subst this; rfl
theorem nlen_of_bits (n e : Nat) (h : nbits n ≤ e) : nlen n ≤ e / 32 + 1 := by
  rw [nlen_le_iff]
  have h1 := (nbits_le_iff n e).1 h
  exact Nat.lt_of_lt_of_le h1 (Nat.pow_le_pow_right (by decide) (by omega))
theorem bits_small (n b c e : Nat) (h : nbits n ≤ e) (hb : b ≤ 36) (hc : c ≤ 36) : nbits (n * b + c) ≤ e + 6 := by
  rw [nbits_le_iff]
  have h1 := (nbits_le_iff n e).1 h
  have h2 := Nat.mul_le_mul_left n hb
  rw [Nat.pow_add]
  generalize 2 ^ e = X at h1 ⊢
  omega
theorem big_of_bits (m : Nat) (h : ¬ nbits m ≤ 2010) : big600 ≤ m := by
  rcases Nat.lt_or_ge m big600 with h1 | h1
  · exact absurd (bits_2010 m h1) h
  · exact h1
theorem big_of_len (n k e : Nat) (hk : e < k) (h : 2 ^ k ≤ 2 * n) (he : big600 ≤ 2 ^ e) : big600 ≤ n := by
  have h1 : 2 ^ (e + 1) ≤ 2 ^ k := Nat.pow_le_pow_right (by decide) hk
  rw [Nat.pow_succ] at h1
  generalize 2 ^ k = X at *
  generalize 2 ^ e = Y at *
  omega
theorem big600_pos : 0 < big600 := by
  unfold big600
  exact Nat.pow_pos (Nat.pow_pos (Nat.pow_pos (by decide)))
theorem nat_zero (w : World) : NatRep w (.slice none 0 0) 0 := ⟨none, 0, rfl, by decide, fun h => absurd h (by decide)⟩
theorem PNum.mkLong {w : World} {base : Nat} {neg : Bool} {N : Nat} (h : big600 ≤ N) : PNumO w base (.agg #[.slice none 0 0, .bool neg, .bool true]) (sgnInt neg N) := by
  refine ⟨_, 0, true, ?_, Own.nil, fun h => (by cases h), ?_, by decide⟩
  · have := big600_pos
    rw [sgnInt_neg, decide_eq_true (show 0 < N by omega), Bool.and_true]
  · rw [sgnInt_abs, decide_eq_true h]
theorem rOK_nil (b : Nat) : rOK b [] = false := rfl
theorem rOK_bad (b : Nat) (l : List UInt8) (i : Nat) (h : i < l.length) (hv : ¬ valOf (l[i]'h) < b) : rOK b l = false := by
  unfold rOK
  have : l.all (fun c => decide (valOf c < b)) = false := by
    rw [List.all_eq_false]
    exact ⟨l[i]'h, List.getElem_mem h, by simpa using hv⟩
  rw [this, Bool.and_false]
theorem rOK_good (b : Nat) (l : List UInt8) (h : ∀ i (h : i < l.length), valOf (l[i]'h) < b) (h0 : l ≠ []) : rOK b l = true := by
  unfold rOK
  have h1 : l.all (fun c => decide (valOf c < b)) = true := by
    rw [List.all_eq_true]
    intro c hc
    obtain ⟨i, hi, rfl⟩ := List.getElem_of_mem hc
    exact decide_eq_true (h i hi)
  rw [h1, Bool.and_true]
  cases l with
  | nil => exact absurd rfl h0
  | cons => rfl
set_option maxRecDepth 100000 in
set_option maxHeartbeats 4000000 in
theorem read_fn (l : List UInt8) (hl : l.length ≤ 1000000000) (b : Nat) (hb2 : 2 ≤ b) (hb36 : b ≤ 36) (neg : Bool) (w : World) :
    Calls Tryz.prog 139 #[.string ⟨l.toArray⟩, .int .i64 b, .bool neg] w (ReadP b l neg w) := by
  have hsz : (⟨l.toArray⟩ : ByteArray).size = l.length := Lib.size_mk _
  have k0 := Blk.new w #[.slice none 0 0, .bool false, .bool false] 49
  have hb0 : Below w.heap.size w (w.alloc (.cells #[.slice none 0 0, .bool false, .bool false] 49)) := (Below.refl _ _).alloc (Nat.le_refl _) _
  have hsz0 : (w.alloc (.cells #[.slice none 0 0, .bool false, .bool false] 49)).heap.size = w.heap.size + 1 := by simp
  go_enter Tryz.func139, Tryz.ntmps139
  go_wp2
  generalize w.alloc (.cells #[.slice none 0 0, .bool false, .bool false] 49) = W at *
  go_loop [14] (fun iv => ∃ i : Nat, iv = .int .i64 i ∧ i ≤ l.length ∧ ∀ j (h : j < l.length), j < i → valOf (l[j]'h) < b) (fun iv => l.length - (intOf iv).toNat)
  case atStart => exact ⟨0, rfl, Nat.zero_le _, fun j _ h => absurd h (Nat.not_lt_zero _)⟩
  case round =>
    obtain ⟨i, rfl, hi, hall⟩ := hrel
    have hA := hid hall
    clear hall
    obtain ⟨⟨p1, p2, p3⟩, q1, q2, q3⟩ := k0.three
    by_cases hlt : i < l.length
    · have hx : ∀ h, (⟨l.toArray⟩ : ByteArray)[i]'h = l[i]'hlt := fun h => rfl
      have hc := hid (value_fn (l[i]'hlt) W)
      by_cases hv : valOf (l[i]'hlt) < b
      · go_wp2_with fail
        (with_reducible refine hc.out.mono ?_); rintro e w' ⟨rfl, rfl⟩
        go_wp2
        refine ⟨⟨i + 1, by go_num, by omega, fun j h hj => ?_⟩, ?_⟩
        · rcases Nat.lt_or_ge j i with h1 | h1
          · exact hA.out j h h1
          · obtain rfl : j = i := by omega
            exact hv
        · simp [intOf] <;> omega
      · have hbad := rOK_bad b l i hlt hv
        go_wp2_with fail
        (with_reducible refine hc.out.mono ?_); rintro e w' ⟨rfl, rfl⟩
        go_wp2
        refine bodyPost_ret (v := .tuple #[.agg #[.slice none 0 0, .bool false, .bool false], .bool false]) (by simp [results, Tryz.results139, go_sem, p1, p2, p3]) rfl ⟨_, by rw [hbad], ?_, fun h => absurd h (by rw [hbad]; decide), ⟨_, _, _, _, _, rfl⟩⟩
        exact ((hb0.setCell (p := ⟨w.heap.size, 0, none⟩) (by simp) _).setCell (p := ⟨w.heap.size, 1, none⟩) (by simp) _).setCell (p := ⟨w.heap.size, 2, none⟩) (by simp) _
    · obtain rfl : i = l.length := by omega
      have hgood : l ≠ [] → rOK b l = true := rOK_good b l (fun j h => hA.out j h h)
      have hG := hid hgood
      clear hgood hA
      have hc := hid (trimLeft_fn l hl W)
      have hlong := hid (numOf_long b hb2 l)
      have htr := hid (numOf_trim b l)
      have htl : (l.dropWhile (· == 48)).length ≤ 1000000000 := Nat.le_trans (List.dropWhile_sublist _).length_le hl
      generalize ht : l.dropWhile (· == 48) = t at *
      clear ht
      have htsz : (⟨t.toArray⟩ : ByteArray).size = t.length := Lib.size_mk _
      cases hle : l == ([] : List UInt8)
      · have hgood := hG.out (fun e => by rw [e] at hle; exact absurd hle (by decide))
        go_wp2_with fail
        (with_reducible refine hc.out.mono ?_); rintro e w' ⟨rfl, rfl⟩
        by_cases hlen : t.length ≤ 2010
        · go_wp2
          go_loopw [9, 37] (fun sv iv wr => ∃ i : Nat, iv = .int .i64 i ∧ i ≤ t.length ∧ Own .u32 75 wr (w.heap.size + 1) sv (nlen (numOf b (t.take i))) (D (numOf b (t.take i))) ∧ nbits (numOf b (t.take i)) ≤ 2010 ∧ Below w.heap.size w wr ∧ Blk wr w.heap.size #[.slice none 0 0, .bool false, .bool false] 49) (fun _ iv _ => t.length - (intOf iv).toNat)
          case atStart => exact ⟨0, rfl, Nat.zero_le _, Own.nil, by show nbits 0 ≤ 2010; decide, hb0, k0⟩
          case round =>
            obtain ⟨i, rfl, hi, hov, hbi, hbr, kr⟩ := hrel
            have hsv := hov.nat
            obtain ⟨a, cap, rfl⟩ := hsv.shape
            have hnl := nlen_of_bits _ _ hbi
            by_cases hlt : i < t.length
            · have hx : ∀ h, (⟨t.toArray⟩ : ByteArray)[i]'h = t[i]'hlt := fun h => rfl
              have hcv := hid (value_fn (t[i]'hlt) wr)
              have hv36 := valOf_le (t[i]'hlt)
              have hbw : IntKind.u32.wrap (b : Int) = b := by rw [wrap_u32_nat, Nat.mod_eq_of_lt (by omega)]
              have hvw : IntKind.u32.wrap (valOf (t[i]'hlt) : Int) = valOf (t[i]'hlt) := by rw [wrap_u32_nat, Nat.mod_eq_of_lt (by omega)]
              have hcs := hid (small_nat hsv (by omega) b (valOf (t[i]'hlt)) (by omega) (by omega))
              have hbs := bits_small _ b (valOf (t[i]'hlt)) _ hbi hb36 hv36
              have hstep := numOf_take_succ b t i hlt
              rw [← hstep] at hcs hbs
              have hnl2 := nlen_of_bits _ _ hbs
              have hTL := hid (numOf_take_le b hb2 t (i + 1))
              clear hstep hbs
              go_wp2_with fail
              (with_reducible refine hcv.out.mono ?_); rintro e w' ⟨rfl, rfl⟩
              go_wp2_with fail
              (with_reducible refine hcs.out.mono ?_); rintro e w1 ⟨u, rfl, hu, hb1⟩
              obtain ⟨ua, uc, rfl⟩ := hu.shape
              have hcb := hid (bits_nat hu.nat (by omega))
              have hbw1 := hbr.trans (hb1.mono hbr.size)
              have k1 := kr.later hb1
              obtain ⟨⟨p1, p2, p3⟩, q1, q2, q3⟩ := k1.three
              go_wp2_with fail
              (with_reducible refine hcb.out.mono ?_); rintro e w' ⟨rfl, rfl⟩
              by_cases hbits : nbits (numOf b (t.take (i + 1))) ≤ 2010
              · go_wp2
                go_roundw
                case rel => exact ⟨i + 1, by go_num, by omega, hu.mono kr.lt, hbits, hbw1, k1⟩
                case measure => simp [intOf] <;> omega
              · have hbig : big600 ≤ numOf b l := by
                  have h1 := big_of_bits _ hbits
                  have h2 := hTL.out
                  rw [htr.out] at h2
                  omega
                have hbits' : 2010 < nbits (numOf b (t.take (i + 1))) := by omega
                clear hbits
                go_wp2
                refine bodyPost_ret (v := .tuple #[.agg #[.slice none 0 0, .bool neg, .bool true], .bool true]) (by simp [results, Tryz.results139, go_sem, p1, p2, p3]) rfl ⟨_, by rw [hgood], ?_, fun _ => PNum.mkLong hbig, ⟨_, _, _, _, _, rfl⟩⟩
                exact ((hbw1.setCell (p := ⟨w.heap.size, 0, none⟩) (by simp) _).setCell (p := ⟨w.heap.size, 1, none⟩) (by simp) _).setCell (p := ⟨w.heap.size, 2, none⟩) (by simp) _
            · obtain rfl : i = t.length := by omega
              rw [List.take_length, htr.out] at hsv hbi hov
              rw [List.take_length, htr.out] at hnl
              clear hlong hc
              have hcc : ¬ t.length < t.length := by omega
              rw [List.take_length, htr.out]
              generalize hN : numOf b l = N at *
              have HN := hid hN
              clear hN
              have hco := hid (of_nat hsv neg (by omega))
              go_wp2_with fail
              (with_reducible refine hco.out.mono ?_); rintro e w1 ⟨rfl, hb1⟩
              have hbw1 := hbr.trans (hb1.mono hbr.size)
              have k1 := kr.later hb1
              obtain ⟨⟨p1, p2, p3⟩, q1, q2, q3⟩ := k1.three
              have hs1 := hsv.below hb1
              have kA := Blk.new w1 #[.slice a (nlen N) cap, .bool (neg && decide (0 < N)), .bool false] 49
              have hbA : Below w1.heap.size w1 (w1.alloc (.cells #[.slice a (nlen N) cap, .bool (neg && decide (0 < N)), .bool false] 49)) := (Below.refl _ _).alloc (Nat.le_refl _) _
              have hs2 := hs1.below hbA
              have hcd := hid (decimal_nat hs2 (by omega))
              have hdsz : (⟨(strOf 10 N).toArray⟩ : ByteArray).size = dlen 10 N := by rw [Lib.size_mk, strOf_length]
              have hdb := dlen_bound 10 N (by decide)
              have hdb2 : dlen 10 N ≤ 100000 := by omega
              clear hdb
              go_wp2_with fail
              (with_reducible refine hcd.out.mono ?_); rintro e w2 ⟨rfl, hb2⟩
              have hs3 := hs2.below hb2
              have kA2 := kA.later hb2
              have kR2 := (k1.alloc (.cells #[.slice a (nlen N) cap, .bool (neg && decide (0 < N)), .bool false] 49)).later hb2
              obtain ⟨⟨a1, a2, a3⟩, a4, a5, a6⟩ := kA2.three
              obtain ⟨⟨r1, r2, r3⟩, r4, r5, r6⟩ := kR2.three
              clear p1 p2 p3 q1 q2 q3
              have hlt1 := k1.lt
              have hbw2 : Below w.heap.size w w2 := hbw1.trans ((hbA.mono hbw1.size).trans (hb2.mono (by simp; have := hbw1.size; omega)))
              go_wp2
              have hbZ : Below w1.heap.size w1 (w2.setCell ⟨w1.heap.size, 2, none⟩ (.bool (decide ((600 : Int) < (dlen 10 N : Nat))))) := (hbA.trans (hb2.mono (by simp))).setCell (p := ⟨w1.heap.size, 2, none⟩) (Nat.le_refl _) _
              have hov1 := hov.keep hb1 (Nat.le_refl _)
              have hovZ := own_set3 (hov1.keep hbZ (Nat.le_refl _)) (.slice a (nlen N) cap) (.bool (neg && decide (0 < N))) (.bool (decide ((600 : Int) < (dlen 10 N : Nat)))) (b := w.heap.size) (by omega)
              have hbF := (((hbw1.trans (hbZ.mono hbw1.size)).setCell (p := ⟨w.heap.size, 0, none⟩) (Nat.le_refl _) (.slice a (nlen N) cap)).setCell (p := ⟨w.heap.size, 1, none⟩) (Nat.le_refl _) (.bool (neg && decide (0 < N)))).setCell (p := ⟨w.heap.size, 2, none⟩) (Nat.le_refl _) (.bool (decide ((600 : Int) < (dlen 10 N : Nat))))
              refine bodyPost_ret (v := .tuple #[.agg #[.slice a (nlen N) cap, .bool (neg && decide (0 < N)), .bool (decide ((600 : Int) < (dlen 10 N : Nat)))], .bool true]) (by simp [results, Tryz.results139, go_sem, r1, r2, r3]) rfl ⟨_, by rw [hgood], hbF, fun _ => ?_, ⟨_, _, _, _, _, rfl⟩⟩
              rw [HN.out]
              refine ⟨_, N, _, by rw [sgnInt_neg], hovZ.mono (by omega), fun _ => (sgnInt_abs neg N).symm, ?_, by omega⟩
              rw [sgnInt_abs]
              have h1 := digits_600 N
              by_cases h2 : N < big600
              · have h3 := h1.2 h2
                rw [decide_eq_false (by omega), decide_eq_false (by omega)]
              · have h3 : ¬ dlen 10 N ≤ 600 := fun h => h2 (h1.1 h)
                rw [decide_eq_true (by omega), decide_eq_true (by omega)]
        · have hbig : big600 ≤ numOf b l := by
            rcases hlong.out with h1 | h1
            · exact big_of_len _ _ 2010 (by omega) h1 big600_le
            · rw [h1] at hlen; simp at hlen
          go_wp2
          refine bodyPost_ret (v := .tuple #[.agg #[.slice none 0 0, .bool neg, .bool true], .bool true]) (by simp [results, Tryz.results139, go_sem, p1, p2, p3]) rfl ⟨_, by rw [hgood], ?_, fun _ => PNum.mkLong hbig, ⟨_, _, _, _, _, rfl⟩⟩
          exact ((hb0.setCell (p := ⟨w.heap.size, 0, none⟩) (by simp) _).setCell (p := ⟨w.heap.size, 1, none⟩) (by simp) _).setCell (p := ⟨w.heap.size, 2, none⟩) (by simp) _
      · have hnil : l = [] := by simpa using hle
        subst hnil
        have hbad : rOK b [] = false := rfl
        go_wp2
        refine bodyPost_ret (v := .tuple #[.agg #[.slice none 0 0, .bool false, .bool false], .bool false]) (by simp [results, Tryz.results139, go_sem, p1, p2, p3]) rfl ⟨_, by rw [hbad], ?_, fun h => absurd h (by rw [hbad]; decide), ⟨_, _, _, _, _, rfl⟩⟩
        exact ((hb0.setCell (p := ⟨w.heap.size, 0, none⟩) (by simp) _).setCell (p := ⟨w.heap.size, 1, none⟩) (by simp) _).setCell (p := ⟨w.heap.size, 2, none⟩) (by simp) _
end Go.Proofs.YtkhgoeippamobaaGreatDoor
/-
  Reading a number: the walk.
-/
namespace Go.Proofs.YtkhgoeippamobaaGreatDoor
open Go.RowKit
def strip (l : List UInt8) : List UInt8 := ((l.dropWhile isWh).reverse.dropWhile isWh).reverse
def pNeg (s : List UInt8) : Bool := ([45] : List UInt8).isPrefixOf s
def pRest (s : List UInt8) : List UInt8 := if ([45] : List UInt8).isPrefixOf s || ([43] : List UInt8).isPrefixOf s then s.tail else s
def pBase (s : List UInt8) : Nat := if ([48, 120] : List UInt8).isPrefixOf s then 16 else if ([48, 111] : List UInt8).isPrefixOf s then 8 else if ([48, 98] : List UInt8).isPrefixOf s then 2 else 10
def pBody (s : List UInt8) : List UInt8 := if ([48, 120] : List UInt8).isPrefixOf s || ([48, 111] : List UInt8).isPrefixOf s || ([48, 98] : List UInt8).isPrefixOf s then s.drop 2 else s
/-- whether a text is a number -/
def pOK (l : List UInt8) : Bool := rOK (pBase (pRest (strip l))) (pBody (pRest (strip l)))
/-- the number that a text is -/
def pVal (l : List UInt8) : Int := sgnInt (pNeg (strip l)) (numOf (pBase (pRest (strip l))) (pBody (pRest (strip l))))
theorem nil_or_snoc (t : List UInt8) : t = [] ∨ ∃ u x, t = u ++ [x] := by
  rcases List.eq_nil_or_concat t with h | ⟨u, x, h⟩
  · exact .inl h
  · exact .inr ⟨u, x, by rw [h, List.concat_eq_append]⟩
theorem read_at (T : List UInt8) (hT : T.length ≤ 1000000000) (b : Nat) (B : Int) (hB : B = (b : Int)) (hb2 : 2 ≤ b) (hb36 : b ≤ 36) (neg : Bool) (w : World) :
    Calls Tryz.prog 139 #[.string ⟨T.toArray⟩, .int .i64 B, .bool neg] w (ReadP b T neg w) := by
  subst hB
  exact read_fn T hT b hb2 hb36 neg w
theorem strip_len (l : List UInt8) : (strip l).length ≤ l.length := by
  unfold strip
  rw [List.length_reverse]
  refine Nat.le_trans (List.dropWhile_sublist _).length_le ?_
  rw [List.length_reverse]
  exact (List.dropWhile_sublist _).length_le
/-- the three beginnings -/
theorem sign_cases (S : List UInt8) : ∃ T, pRest S = T ∧ (S = 45 :: T ∧ pNeg S = true ∨ S = 43 :: T ∧ pNeg S = false ∧ ([45] : List UInt8).isPrefixOf S = false ∧ ([43] : List UInt8).isPrefixOf S = true ∨ S = T ∧ pNeg S = false ∧ ([45] : List UInt8).isPrefixOf S = false ∧ ([43] : List UInt8).isPrefixOf S = false) := by
  refine ⟨_, rfl, ?_⟩
  cases S with
  | nil => right; right; exact ⟨rfl, rfl, rfl, rfl⟩
  | cons x S =>
    by_cases h1 : x = 45
    · subst h1
      left
      exact ⟨by simp [pRest, List.isPrefixOf], by simp [pNeg, List.isPrefixOf]⟩
    · by_cases h2 : x = 43
      · subst h2
        right; left
        exact ⟨by simp [pRest, List.isPrefixOf], by simp [pNeg, List.isPrefixOf], by simp [List.isPrefixOf], by simp [List.isPrefixOf]⟩
      · right; right
        have e1 : (45 == x) = false := by simpa using fun h => h1 h.symm
        have e2 : (43 == x) = false := by simpa using fun h => h2 h.symm
        exact ⟨by simp [pRest, List.isPrefixOf, e1, e2], by simp [pNeg, List.isPrefixOf, e1], by simp [List.isPrefixOf, e1], by simp [List.isPrefixOf, e2]⟩
theorem cut2 (T : List UInt8) (p q : UInt8) (hT : T.length ≤ 1000000000) (w : World) (b : Bool) (hb : ([p, q] : List UInt8).isPrefixOf T = b) : Calls Tryz.prog 138 #[.string ⟨T.toArray⟩, .string ⟨#[p, q]⟩] w fun e w' => e = .returned (if b then .tuple #[.string ⟨(T.drop 2).toArray⟩, .bool true] else .tuple #[.string ⟨T.toArray⟩, .bool false]) ∧ w' = w := by
  have h := cutPrefix_fn T [p, q] hT (by simp) w
  rw [hb] at h
  exact h
theorem pre1 (S : List UInt8) (p : UInt8) (hS : S.length ≤ 1000000000) (w : World) (b : Bool) (hb : ([p] : List UInt8).isPrefixOf S = b) : Calls Tryz.prog 137 #[.string ⟨S.toArray⟩, .string ⟨#[p]⟩] w fun e w' => e = .returned (.bool b) ∧ w' = w := by
  have h := hasPrefix_fn S [p] hS (by simp) w
  rw [hb] at h
  exact h
theorem ix0 (w : World) : (Instr.index 120 (.agg #[.string ⟨#[48, 120]⟩, .int .i64 16, .string ⟨#[48, 111]⟩, .int .i64 8, .string ⟨#[48, 98]⟩, .int .i64 2]) (.int .i64 0)).run Tryz.prog w = .ok (.agg #[.string ⟨#[48, 120]⟩, .int .i64 16]) w := by kernel_rfl
theorem ix1 (w : World) : (Instr.index 120 (.agg #[.string ⟨#[48, 120]⟩, .int .i64 16, .string ⟨#[48, 111]⟩, .int .i64 8, .string ⟨#[48, 98]⟩, .int .i64 2]) (.int .i64 1)).run Tryz.prog w = .ok (.agg #[.string ⟨#[48, 111]⟩, .int .i64 8]) w := by kernel_rfl
theorem ix2 (w : World) : (Instr.index 120 (.agg #[.string ⟨#[48, 120]⟩, .int .i64 16, .string ⟨#[48, 111]⟩, .int .i64 8, .string ⟨#[48, 98]⟩, .int .i64 2]) (.int .i64 2)).run Tryz.prog w = .ok (.agg #[.string ⟨#[48, 98]⟩, .int .i64 2]) w := by kernel_rfl
/-- what 'parse' answers -/
def ParseP (l : List UInt8) (w : World) (e : Ending) (w' : World) : Prop :=
  ∃ v, e = .returned (.tuple #[v, .bool (pOK l)]) ∧ Below w.heap.size w w' ∧ (pOK l = true → PNumO w' w.heap.size v (pVal l)) ∧ (∃ a n c g h, v = .agg #[.slice a n c, .bool g, .bool h])
set_option maxRecDepth 100000 in
set_option maxHeartbeats 4000000 in
theorem parse_fn (l : List UInt8) (hl : l.length ≤ 1000000000) (w : World) :
    Calls Tryz.prog 117 #[.string ⟨l.toArray⟩] w (ParseP l w) := by
  have k0 := Blk.new w #[.slice none 0 0, .bool false, .bool false] 49
  have hb0 : Below w.heap.size w (w.alloc (.cells #[.slice none 0 0, .bool false, .bool false] 49)) := (Below.refl _ _).alloc (Nat.le_refl _) _
  have hsz0 : (w.alloc (.cells #[.slice none 0 0, .bool false, .bool false] 49)).heap.size = w.heap.size + 1 := by simp
  go_enter Tryz.func117, Tryz.ntmps117
  go_upto_block 0 with fail
  generalize w.alloc (.cells #[.slice none 0 0, .bool false, .bool false] 49) = W at *
  go_cut [0] from 9 to 17 (fun v wx => v = .string ⟨(l.dropWhile isWh).toArray⟩ ∧ W = wx)
  case first =>
    go_wp2_with fail
    go_loop [0] (fun v => ∃ t : List UInt8, t.length ≤ 1000000000 ∧ v = .string ⟨t.toArray⟩ ∧ t.dropWhile isWh = l.dropWhile isWh) (fun v => Lib.strSize v)
    case atStart => exact ⟨l, hl, rfl, rfl⟩
    case round =>
      obtain ⟨t, ht, rfl, he⟩ := hrel
      have hE := hid he
      clear he
      cases t with
      | cons x t =>
        have h1 : (⟨(x :: t).toArray⟩ : ByteArray).size = t.length + 1 := by rw [Lib.size_mk]; simp
        have h2 : (⟨(x :: t).toArray⟩ : ByteArray).extract 1 (t.length + 1) = ⟨t.toArray⟩ := by
          rw [Lib.extract_mk]; simp
        have hx : ∀ h, (⟨(x :: t).toArray⟩ : ByteArray)[0]'h = x := fun h => rfl
        have hne : (x :: t == ([] : List UInt8)) = false := rfl
        have hl' : t.length ≤ 999999999 := by simpa using ht
        have hc := hid (white_fn x W)
        clear ht
        go_wp2_with fail
        (with_reducible refine hc.out.mono ?_); rintro e w' ⟨rfl, rfl⟩
        cases hw : isWh x
        · have hd : (x :: t).dropWhile isWh = x :: t := by rw [List.dropWhile_cons, hw]; rfl
          go_wp2
          go_meet
          case rel => exact ⟨by rw [← hE.out, hd], rfl⟩
        · have hd : (x :: t).dropWhile isWh = t.dropWhile isWh := by rw [List.dropWhile_cons, hw]; rfl
          go_wp2
          refine ⟨⟨t, by omega, rfl, by rw [← hE.out, hd]⟩, ?_⟩
          rw [Lib.strSize_string, Lib.strSize_string, h1, Lib.size_mk]
          omega
      | nil =>
        have h1 : (⟨([] : List UInt8).toArray⟩ : ByteArray).size = 0 := rfl
        go_wp2
        go_meet
        case rel => exact ⟨by rw [← hE.out]; rfl, rfl⟩
  case rest =>
    obtain ⟨rfl, rfl⟩ := hcut
    have hL : (l.dropWhile isWh).length ≤ 1000000000 := Nat.le_trans (List.dropWhile_sublist _).length_le hl
    go_upto_block 2 with fail
    go_cut [0] from 18 to 32 (fun v wx => v = .string ⟨(strip l).toArray⟩ ∧ W = wx)
    case first =>
      go_wp2_with fail
      go_loop [0] (fun v => ∃ t : List UInt8, t.length ≤ 1000000000 ∧ v = .string ⟨t.toArray⟩ ∧ (t.reverse.dropWhile isWh).reverse = strip l) (fun v => Lib.strSize v)
      case atStart => exact ⟨_, hL, rfl, rfl⟩
      case round =>
        obtain ⟨t, ht, rfl, he⟩ := hrel
        have hE := hid he
        clear he
        rcases nil_or_snoc t with rfl | ⟨t, x, rfl⟩
        · have h1 : (⟨([] : List UInt8).toArray⟩ : ByteArray).size = 0 := rfl
          go_wp2
          go_meet
          case rel => exact ⟨by rw [← hE.out]; rfl, rfl⟩
        · have hre : (t ++ [x]).reverse = x :: t.reverse := by simp
          rw [hre] at hE
          have hE := hid hE.out
          clear hre
          have h1 : (⟨(t ++ [x]).toArray⟩ : ByteArray).size = t.length + 1 := by rw [Lib.size_mk]; simp
          have h2 : (⟨(t ++ [x]).toArray⟩ : ByteArray).extract 0 t.length = ⟨t.toArray⟩ := by
            rw [Lib.extract_mk]; simp
          have hx : ∀ h, (⟨(t ++ [x]).toArray⟩ : ByteArray)[t.length]'h = x := by
            intro h
            show (t ++ [x])[t.length] = x
            simp
          have hne : ((t ++ [x]) == ([] : List UInt8)) = false := by cases t <;> rfl
          have hl' : t.length ≤ 999999999 := by simpa using ht
          have hc := hid (white_fn x W)
          clear ht
          generalize hT : t ++ [x] = T at *
          have HT := hid hT
          clear hT
          go_wp2_with fail
          (with_reducible refine hc.out.mono ?_); rintro e w' ⟨rfl, rfl⟩
          cases hw : isWh x
          · have hd : (x :: t.reverse).dropWhile isWh = x :: t.reverse := by rw [List.dropWhile_cons, hw]; rfl
            go_wp2
            go_meet
            case rel => exact ⟨by rw [← hE.out, hd]; simp [HT.out], rfl⟩
          · have hd : (x :: t.reverse).dropWhile isWh = t.reverse.dropWhile isWh := by rw [List.dropWhile_cons, hw]; rfl
            go_wp2
            refine ⟨⟨t, by omega, rfl, by rw [← hE.out, hd]⟩, ?_⟩
            rw [Lib.strSize_string, Lib.strSize_string, h1, Lib.size_mk]
            omega
    case rest =>
      obtain ⟨rfl, rfl⟩ := hcut
      have hS : (strip l).length ≤ 1000000000 := Nat.le_trans (strip_len l) hl
      clear hL
      have hok : pOK l = rOK (pBase (pRest (strip l))) (pBody (pRest (strip l))) := rfl
      have hval : pVal l = sgnInt (pNeg (strip l)) (numOf (pBase (pRest (strip l))) (pBody (pRest (strip l)))) := rfl
      generalize strip l = S at *
      obtain ⟨T, hT, hcase⟩ := sign_cases S
      rw [hT] at hok hval
      clear hT
      have HOK := hid hok
      have HVAL := hid hval
      clear hok hval
      rcases hcase with ⟨rfl, hn⟩ | ⟨rfl, hn, hm, hp⟩ | ⟨hST, hn, hm, hp⟩
      · rw [hn] at HVAL
        have hc1 := hid (pre1 _ 45 hS W true rfl)
        have h1 : (⟨(45 :: T).toArray⟩ : ByteArray).size = T.length + 1 := by rw [Lib.size_mk]; simp
        have h2 : (⟨(45 :: T).toArray⟩ : ByteArray).extract 1 (T.length + 1) = ⟨T.toArray⟩ := by rw [Lib.extract_mk]; simp
        have hT' : T.length ≤ 999999999 := by simpa using hS
        go_upto_block 4 with (first | fail | (with_reducible refine hc1.out.mono ?_); rintro e w' ⟨rfl, rfl⟩)
        clear hc1 h1 h2 hS
        go_wp2_with fail
        go_loopw [46] (fun iv wr => ∃ i : Nat, iv = .int .i64 i ∧ i ≤ 3 ∧ (0 < i → ([48, 120] : List UInt8).isPrefixOf T = false) ∧ (1 < i → ([48, 111] : List UInt8).isPrefixOf T = false) ∧ (2 < i → ([48, 98] : List UInt8).isPrefixOf T = false) ∧ Below w.heap.size w wr ∧ Blk wr w.heap.size #[.slice none 0 0, .bool false, .bool false] 49) (fun iv _ => 3 - (intOf iv).toNat)
        case atStart => exact ⟨0, rfl, by decide, fun h => absurd h (by decide), fun h => absurd h (by decide), fun h => absurd h (by decide), hb0, k0⟩
        case round =>
          obtain ⟨i, rfl, hi, n1, n2, n3, hbr, kr⟩ := hrel
          clear k0 hb0 hsz0
          have x0 := ix0
          have x1 := ix1
          have x2 := ix2
          have hd2 : (T.drop 2).length ≤ 1000000000 := by rw [List.length_drop]; omega
          obtain rfl | rfl | rfl | rfl : i = 0 ∨ i = 1 ∨ i = 2 ∨ i = 3 := by omega
          · cases hpre : ([48, 120] : List UInt8).isPrefixOf T
            · have hc := hid (cut2 T 48 120 (by omega) (wr.alloc (.cells #[.string ⟨#[48, 120]⟩, .int .i64 16] 119)) false hpre)
              have hbn : Below w.heap.size w (wr.alloc (.cells #[.string ⟨#[48, 120]⟩, .int .i64 16] 119)) := hbr.alloc hbr.size _
              have kn := kr.alloc (.cells #[.string ⟨#[48, 120]⟩, .int .i64 16] 119)
              go_wp2_with fail
              (with_reducible refine hc.out.mono ?_); rintro e w' ⟨rfl, rfl⟩
              go_wp2
              go_roundw
              case rel => exact ⟨1, rfl, by decide, (by first | trivial | exact fun _ => hpre), fun h => absurd h (by decide), fun h => absurd h (by decide), hbn, kn⟩
              case measure => simp [intOf]
            · have hc := hid (cut2 T 48 120 (by omega) (wr.alloc (.cells #[.string ⟨#[48, 120]⟩, .int .i64 16] 119)) true hpre)
              have hcr := hid (read_at (T.drop 2) hd2 16 16 rfl (by decide) (by decide) true (wr.alloc (.cells #[.string ⟨#[48, 120]⟩, .int .i64 16] 119)))
              have e1 : pBase T = 16 := by simp [pBase, hpre]
              have e2 : pBody T = T.drop 2 := by simp [pBody, hpre]
              rw [e1, e2] at HOK HVAL
              have HOK := hid HOK.out
              have HVAL := hid HVAL.out
              clear e1 e2
              have hbn : Below w.heap.size w (wr.alloc (.cells #[.string ⟨#[48, 120]⟩, .int .i64 16] 119)) := hbr.alloc hbr.size _
              have kn := kr.alloc (.cells #[.string ⟨#[48, 120]⟩, .int .i64 16] 119)
              go_wp2_with fail
              (with_reducible refine hc.out.mono ?_); rintro e w' ⟨rfl, rfl⟩
              go_wp2_with fail
              (with_reducible refine hcr.out.mono ?_); rintro e w4 ⟨v, rfl, hb4, hp4, x1, x2, x3, y, z, rfl⟩
              obtain ⟨⟨r1, r2, r3⟩, r4, r5, r6⟩ := (kn.later hb4).three
              have hlt := kn.lt
              go_wp2
              have hbF := (((hbn.trans (hb4.mono hbn.size)).setCell (p := ⟨w.heap.size, 0, none⟩) (Nat.le_refl _) (.slice x1 x2 x3)).setCell (p := ⟨w.heap.size, 1, none⟩) (Nat.le_refl _) (.bool y)).setCell (p := ⟨w.heap.size, 2, none⟩) (Nat.le_refl _) (.bool z)
              try simp only [Exit.inBlock, Exit.then]
              refine bodyPost_ret (v := .tuple #[.agg #[.slice x1 x2 x3, .bool y, .bool z], .bool (rOK 16 (T.drop 2))]) (by simp [results, Tryz.results117, go_sem, r1, r2, r3]) rfl ⟨_, by rw [HOK.out], hbF, fun h => ?_, ⟨_, _, _, _, _, rfl⟩⟩
              rw [HVAL.out]
              exact (((hp4 (by rw [← HOK.out]; exact h)).set3 hlt (.slice x1 x2 x3) (.bool y) (.bool z)).mono (Nat.le_of_lt hlt))
          · have m1 := n1 (by decide)
            cases hpre : ([48, 111] : List UInt8).isPrefixOf T
            · have hc := hid (cut2 T 48 111 (by omega) (wr.alloc (.cells #[.string ⟨#[48, 111]⟩, .int .i64 8] 119)) false hpre)
              have hbn : Below w.heap.size w (wr.alloc (.cells #[.string ⟨#[48, 111]⟩, .int .i64 8] 119)) := hbr.alloc hbr.size _
              have kn := kr.alloc (.cells #[.string ⟨#[48, 111]⟩, .int .i64 8] 119)
              go_wp2_with fail
              (with_reducible refine hc.out.mono ?_); rintro e w' ⟨rfl, rfl⟩
              go_wp2
              go_roundw
              case rel => exact ⟨2, rfl, by decide, (by first | trivial | exact fun _ => m1), (by first | trivial | exact fun _ => hpre), fun h => absurd h (by decide), hbn, kn⟩
              case measure => simp [intOf]
            · have hc := hid (cut2 T 48 111 (by omega) (wr.alloc (.cells #[.string ⟨#[48, 111]⟩, .int .i64 8] 119)) true hpre)
              have hcr := hid (read_at (T.drop 2) hd2 8 8 rfl (by decide) (by decide) true (wr.alloc (.cells #[.string ⟨#[48, 111]⟩, .int .i64 8] 119)))
              have e1 : pBase T = 8 := by simp [pBase, m1, hpre]
              have e2 : pBody T = T.drop 2 := by simp [pBody, hpre]
              rw [e1, e2] at HOK HVAL
              have HOK := hid HOK.out
              have HVAL := hid HVAL.out
              clear e1 e2
              have hbn : Below w.heap.size w (wr.alloc (.cells #[.string ⟨#[48, 111]⟩, .int .i64 8] 119)) := hbr.alloc hbr.size _
              have kn := kr.alloc (.cells #[.string ⟨#[48, 111]⟩, .int .i64 8] 119)
              go_wp2_with fail
              (with_reducible refine hc.out.mono ?_); rintro e w' ⟨rfl, rfl⟩
              go_wp2_with fail
              (with_reducible refine hcr.out.mono ?_); rintro e w4 ⟨v, rfl, hb4, hp4, x1, x2, x3, y, z, rfl⟩
              obtain ⟨⟨r1, r2, r3⟩, r4, r5, r6⟩ := (kn.later hb4).three
              have hlt := kn.lt
              go_wp2
              have hbF := (((hbn.trans (hb4.mono hbn.size)).setCell (p := ⟨w.heap.size, 0, none⟩) (Nat.le_refl _) (.slice x1 x2 x3)).setCell (p := ⟨w.heap.size, 1, none⟩) (Nat.le_refl _) (.bool y)).setCell (p := ⟨w.heap.size, 2, none⟩) (Nat.le_refl _) (.bool z)
              try simp only [Exit.inBlock, Exit.then]
              refine bodyPost_ret (v := .tuple #[.agg #[.slice x1 x2 x3, .bool y, .bool z], .bool (rOK 8 (T.drop 2))]) (by simp [results, Tryz.results117, go_sem, r1, r2, r3]) rfl ⟨_, by rw [HOK.out], hbF, fun h => ?_, ⟨_, _, _, _, _, rfl⟩⟩
              rw [HVAL.out]
              exact (((hp4 (by rw [← HOK.out]; exact h)).set3 hlt (.slice x1 x2 x3) (.bool y) (.bool z)).mono (Nat.le_of_lt hlt))
          · have m1 := n1 (by decide)
            have m2 := n2 (by decide)
            cases hpre : ([48, 98] : List UInt8).isPrefixOf T
            · have hc := hid (cut2 T 48 98 (by omega) (wr.alloc (.cells #[.string ⟨#[48, 98]⟩, .int .i64 2] 119)) false hpre)
              have hbn : Below w.heap.size w (wr.alloc (.cells #[.string ⟨#[48, 98]⟩, .int .i64 2] 119)) := hbr.alloc hbr.size _
              have kn := kr.alloc (.cells #[.string ⟨#[48, 98]⟩, .int .i64 2] 119)
              go_wp2_with fail
              (with_reducible refine hc.out.mono ?_); rintro e w' ⟨rfl, rfl⟩
              go_wp2
              go_roundw
              case rel => exact ⟨3, rfl, by decide, (by first | trivial | exact fun _ => m1), (by first | trivial | exact fun _ => m2), (by first | trivial | exact fun _ => hpre), hbn, kn⟩
              case measure => simp [intOf]
            · have hc := hid (cut2 T 48 98 (by omega) (wr.alloc (.cells #[.string ⟨#[48, 98]⟩, .int .i64 2] 119)) true hpre)
              have hcr := hid (read_at (T.drop 2) hd2 2 2 rfl (by decide) (by decide) true (wr.alloc (.cells #[.string ⟨#[48, 98]⟩, .int .i64 2] 119)))
              have e1 : pBase T = 2 := by simp [pBase, m1, m2, hpre]
              have e2 : pBody T = T.drop 2 := by simp [pBody, hpre]
              rw [e1, e2] at HOK HVAL
              have HOK := hid HOK.out
              have HVAL := hid HVAL.out
              clear e1 e2
              have hbn : Below w.heap.size w (wr.alloc (.cells #[.string ⟨#[48, 98]⟩, .int .i64 2] 119)) := hbr.alloc hbr.size _
              have kn := kr.alloc (.cells #[.string ⟨#[48, 98]⟩, .int .i64 2] 119)
              go_wp2_with fail
              (with_reducible refine hc.out.mono ?_); rintro e w' ⟨rfl, rfl⟩
              go_wp2_with fail
              (with_reducible refine hcr.out.mono ?_); rintro e w4 ⟨v, rfl, hb4, hp4, x1, x2, x3, y, z, rfl⟩
              obtain ⟨⟨r1, r2, r3⟩, r4, r5, r6⟩ := (kn.later hb4).three
              have hlt := kn.lt
              go_wp2
              have hbF := (((hbn.trans (hb4.mono hbn.size)).setCell (p := ⟨w.heap.size, 0, none⟩) (Nat.le_refl _) (.slice x1 x2 x3)).setCell (p := ⟨w.heap.size, 1, none⟩) (Nat.le_refl _) (.bool y)).setCell (p := ⟨w.heap.size, 2, none⟩) (Nat.le_refl _) (.bool z)
              try simp only [Exit.inBlock, Exit.then]
              refine bodyPost_ret (v := .tuple #[.agg #[.slice x1 x2 x3, .bool y, .bool z], .bool (rOK 2 (T.drop 2))]) (by simp [results, Tryz.results117, go_sem, r1, r2, r3]) rfl ⟨_, by rw [HOK.out], hbF, fun h => ?_, ⟨_, _, _, _, _, rfl⟩⟩
              rw [HVAL.out]
              exact (((hp4 (by rw [← HOK.out]; exact h)).set3 hlt (.slice x1 x2 x3) (.bool y) (.bool z)).mono (Nat.le_of_lt hlt))
          · have m1 := n1 (by decide)
            have m2 := n2 (by decide)
            have m3 := n3 (by decide)
            have hcr := hid (read_at T (by omega) 10 10 rfl (by decide) (by decide) true wr)
            have e1 : pBase T = 10 := by simp [pBase, m1, m2, m3]
            have e2 : pBody T = T := by simp [pBody, m1, m2, m3]
            rw [e1, e2] at HOK HVAL
            have HOK := hid HOK.out
            have HVAL := hid HVAL.out
            clear e1 e2
            go_wp2_with fail
            (with_reducible refine hcr.out.mono ?_); rintro e w4 ⟨v, rfl, hb4, hp4, x1, x2, x3, y, z, rfl⟩
            obtain ⟨⟨r1, r2, r3⟩, r4, r5, r6⟩ := (kr.later hb4).three
            have hlt := kr.lt
            go_wp2
            have hbF := (((hbr.trans (hb4.mono hbr.size)).setCell (p := ⟨w.heap.size, 0, none⟩) (Nat.le_refl _) (.slice x1 x2 x3)).setCell (p := ⟨w.heap.size, 1, none⟩) (Nat.le_refl _) (.bool y)).setCell (p := ⟨w.heap.size, 2, none⟩) (Nat.le_refl _) (.bool z)
            try simp only [Exit.inBlock, Exit.then]
            refine bodyPost_ret (v := .tuple #[.agg #[.slice x1 x2 x3, .bool y, .bool z], .bool (rOK 10 T)]) (by simp [results, Tryz.results117, go_sem, r1, r2, r3]) rfl ⟨_, by rw [HOK.out], hbF, fun h => ?_, ⟨_, _, _, _, _, rfl⟩⟩
            rw [HVAL.out]
            exact (((hp4 (by rw [← HOK.out]; exact h)).set3 hlt (.slice x1 x2 x3) (.bool y) (.bool z)).mono (Nat.le_of_lt hlt))
      · rw [hn] at HVAL
        have hc1 := hid (pre1 _ 45 hS W false hm)
        have hc2 := hid (pre1 _ 43 hS W true hp)
        have h1 : (⟨(43 :: T).toArray⟩ : ByteArray).size = T.length + 1 := by rw [Lib.size_mk]; simp
        have h2 : (⟨(43 :: T).toArray⟩ : ByteArray).extract 1 (T.length + 1) = ⟨T.toArray⟩ := by rw [Lib.extract_mk]; simp
        have hT' : T.length ≤ 999999999 := by simpa using hS
        clear hn hm hp
        go_upto_block 4 with (first | fail | (with_reducible refine hc1.out.mono ?_); rintro e w' ⟨rfl, rfl⟩ | (with_reducible refine hc2.out.mono ?_); rintro e w' ⟨rfl, rfl⟩)
        clear hc1 hc2 h1 h2 hS
        go_wp2_with fail
        go_loopw [46] (fun iv wr => ∃ i : Nat, iv = .int .i64 i ∧ i ≤ 3 ∧ (0 < i → ([48, 120] : List UInt8).isPrefixOf T = false) ∧ (1 < i → ([48, 111] : List UInt8).isPrefixOf T = false) ∧ (2 < i → ([48, 98] : List UInt8).isPrefixOf T = false) ∧ Below w.heap.size w wr ∧ Blk wr w.heap.size #[.slice none 0 0, .bool false, .bool false] 49) (fun iv _ => 3 - (intOf iv).toNat)
        case atStart => exact ⟨0, rfl, by decide, fun h => absurd h (by decide), fun h => absurd h (by decide), fun h => absurd h (by decide), hb0, k0⟩
        case round =>
          obtain ⟨i, rfl, hi, n1, n2, n3, hbr, kr⟩ := hrel
          clear k0 hb0 hsz0
          have x0 := ix0
          have x1 := ix1
          have x2 := ix2
          have hd2 : (T.drop 2).length ≤ 1000000000 := by rw [List.length_drop]; omega
          obtain rfl | rfl | rfl | rfl : i = 0 ∨ i = 1 ∨ i = 2 ∨ i = 3 := by omega
          · cases hpre : ([48, 120] : List UInt8).isPrefixOf T
            · have hc := hid (cut2 T 48 120 (by omega) (wr.alloc (.cells #[.string ⟨#[48, 120]⟩, .int .i64 16] 119)) false hpre)
              have hbn : Below w.heap.size w (wr.alloc (.cells #[.string ⟨#[48, 120]⟩, .int .i64 16] 119)) := hbr.alloc hbr.size _
              have kn := kr.alloc (.cells #[.string ⟨#[48, 120]⟩, .int .i64 16] 119)
              go_wp2_with fail
              (with_reducible refine hc.out.mono ?_); rintro e w' ⟨rfl, rfl⟩
              go_wp2
              go_roundw
              case rel => exact ⟨1, rfl, by decide, (by first | trivial | exact fun _ => hpre), fun h => absurd h (by decide), fun h => absurd h (by decide), hbn, kn⟩
              case measure => simp [intOf]
            · have hc := hid (cut2 T 48 120 (by omega) (wr.alloc (.cells #[.string ⟨#[48, 120]⟩, .int .i64 16] 119)) true hpre)
              have hcr := hid (read_at (T.drop 2) hd2 16 16 rfl (by decide) (by decide) false (wr.alloc (.cells #[.string ⟨#[48, 120]⟩, .int .i64 16] 119)))
              have e1 : pBase T = 16 := by simp [pBase, hpre]
              have e2 : pBody T = T.drop 2 := by simp [pBody, hpre]
              rw [e1, e2] at HOK HVAL
              have HOK := hid HOK.out
              have HVAL := hid HVAL.out
              clear e1 e2
              have hbn : Below w.heap.size w (wr.alloc (.cells #[.string ⟨#[48, 120]⟩, .int .i64 16] 119)) := hbr.alloc hbr.size _
              have kn := kr.alloc (.cells #[.string ⟨#[48, 120]⟩, .int .i64 16] 119)
              go_wp2_with fail
              (with_reducible refine hc.out.mono ?_); rintro e w' ⟨rfl, rfl⟩
              go_wp2_with fail
              (with_reducible refine hcr.out.mono ?_); rintro e w4 ⟨v, rfl, hb4, hp4, x1, x2, x3, y, z, rfl⟩
              obtain ⟨⟨r1, r2, r3⟩, r4, r5, r6⟩ := (kn.later hb4).three
              have hlt := kn.lt
              go_wp2
              have hbF := (((hbn.trans (hb4.mono hbn.size)).setCell (p := ⟨w.heap.size, 0, none⟩) (Nat.le_refl _) (.slice x1 x2 x3)).setCell (p := ⟨w.heap.size, 1, none⟩) (Nat.le_refl _) (.bool y)).setCell (p := ⟨w.heap.size, 2, none⟩) (Nat.le_refl _) (.bool z)
              try simp only [Exit.inBlock, Exit.then]
              refine bodyPost_ret (v := .tuple #[.agg #[.slice x1 x2 x3, .bool y, .bool z], .bool (rOK 16 (T.drop 2))]) (by simp [results, Tryz.results117, go_sem, r1, r2, r3]) rfl ⟨_, by rw [HOK.out], hbF, fun h => ?_, ⟨_, _, _, _, _, rfl⟩⟩
              rw [HVAL.out]
              exact (((hp4 (by rw [← HOK.out]; exact h)).set3 hlt (.slice x1 x2 x3) (.bool y) (.bool z)).mono (Nat.le_of_lt hlt))
          · have m1 := n1 (by decide)
            cases hpre : ([48, 111] : List UInt8).isPrefixOf T
            · have hc := hid (cut2 T 48 111 (by omega) (wr.alloc (.cells #[.string ⟨#[48, 111]⟩, .int .i64 8] 119)) false hpre)
              have hbn : Below w.heap.size w (wr.alloc (.cells #[.string ⟨#[48, 111]⟩, .int .i64 8] 119)) := hbr.alloc hbr.size _
              have kn := kr.alloc (.cells #[.string ⟨#[48, 111]⟩, .int .i64 8] 119)
              go_wp2_with fail
              (with_reducible refine hc.out.mono ?_); rintro e w' ⟨rfl, rfl⟩
              go_wp2
              go_roundw
              case rel => exact ⟨2, rfl, by decide, (by first | trivial | exact fun _ => m1), (by first | trivial | exact fun _ => hpre), fun h => absurd h (by decide), hbn, kn⟩
              case measure => simp [intOf]
            · have hc := hid (cut2 T 48 111 (by omega) (wr.alloc (.cells #[.string ⟨#[48, 111]⟩, .int .i64 8] 119)) true hpre)
              have hcr := hid (read_at (T.drop 2) hd2 8 8 rfl (by decide) (by decide) false (wr.alloc (.cells #[.string ⟨#[48, 111]⟩, .int .i64 8] 119)))
              have e1 : pBase T = 8 := by simp [pBase, m1, hpre]
              have e2 : pBody T = T.drop 2 := by simp [pBody, hpre]
              rw [e1, e2] at HOK HVAL
              have HOK := hid HOK.out
              have HVAL := hid HVAL.out
              clear e1 e2
              have hbn : Below w.heap.size w (wr.alloc (.cells #[.string ⟨#[48, 111]⟩, .int .i64 8] 119)) := hbr.alloc hbr.size _
              have kn := kr.alloc (.cells #[.string ⟨#[48, 111]⟩, .int .i64 8] 119)
              go_wp2_with fail
              (with_reducible refine hc.out.mono ?_); rintro e w' ⟨rfl, rfl⟩
              go_wp2_with fail
              (with_reducible refine hcr.out.mono ?_); rintro e w4 ⟨v, rfl, hb4, hp4, x1, x2, x3, y, z, rfl⟩
              obtain ⟨⟨r1, r2, r3⟩, r4, r5, r6⟩ := (kn.later hb4).three
              have hlt := kn.lt
              go_wp2
              have hbF := (((hbn.trans (hb4.mono hbn.size)).setCell (p := ⟨w.heap.size, 0, none⟩) (Nat.le_refl _) (.slice x1 x2 x3)).setCell (p := ⟨w.heap.size, 1, none⟩) (Nat.le_refl _) (.bool y)).setCell (p := ⟨w.heap.size, 2, none⟩) (Nat.le_refl _) (.bool z)
              try simp only [Exit.inBlock, Exit.then]
              refine bodyPost_ret (v := .tuple #[.agg #[.slice x1 x2 x3, .bool y, .bool z], .bool (rOK 8 (T.drop 2))]) (by simp [results, Tryz.results117, go_sem, r1, r2, r3]) rfl ⟨_, by rw [HOK.out], hbF, fun h => ?_, ⟨_, _, _, _, _, rfl⟩⟩
              rw [HVAL.out]
              exact (((hp4 (by rw [← HOK.out]; exact h)).set3 hlt (.slice x1 x2 x3) (.bool y) (.bool z)).mono (Nat.le_of_lt hlt))
          · have m1 := n1 (by decide)
            have m2 := n2 (by decide)
            cases hpre : ([48, 98] : List UInt8).isPrefixOf T
            · have hc := hid (cut2 T 48 98 (by omega) (wr.alloc (.cells #[.string ⟨#[48, 98]⟩, .int .i64 2] 119)) false hpre)
              have hbn : Below w.heap.size w (wr.alloc (.cells #[.string ⟨#[48, 98]⟩, .int .i64 2] 119)) := hbr.alloc hbr.size _
              have kn := kr.alloc (.cells #[.string ⟨#[48, 98]⟩, .int .i64 2] 119)
              go_wp2_with fail
              (with_reducible refine hc.out.mono ?_); rintro e w' ⟨rfl, rfl⟩
              go_wp2
              go_roundw
              case rel => exact ⟨3, rfl, by decide, (by first | trivial | exact fun _ => m1), (by first | trivial | exact fun _ => m2), (by first | trivial | exact fun _ => hpre), hbn, kn⟩
              case measure => simp [intOf]
            · have hc := hid (cut2 T 48 98 (by omega) (wr.alloc (.cells #[.string ⟨#[48, 98]⟩, .int .i64 2] 119)) true hpre)
              have hcr := hid (read_at (T.drop 2) hd2 2 2 rfl (by decide) (by decide) false (wr.alloc (.cells #[.string ⟨#[48, 98]⟩, .int .i64 2] 119)))
              have e1 : pBase T = 2 := by simp [pBase, m1, m2, hpre]
              have e2 : pBody T = T.drop 2 := by simp [pBody, hpre]
              rw [e1, e2] at HOK HVAL
              have HOK := hid HOK.out
              have HVAL := hid HVAL.out
              clear e1 e2
              have hbn : Below w.heap.size w (wr.alloc (.cells #[.string ⟨#[48, 98]⟩, .int .i64 2] 119)) := hbr.alloc hbr.size _
              have kn := kr.alloc (.cells #[.string ⟨#[48, 98]⟩, .int .i64 2] 119)
              go_wp2_with fail
              (with_reducible refine hc.out.mono ?_); rintro e w' ⟨rfl, rfl⟩
              go_wp2_with fail
              (with_reducible refine hcr.out.mono ?_); rintro e w4 ⟨v, rfl, hb4, hp4, x1, x2, x3, y, z, rfl⟩
              obtain ⟨⟨r1, r2, r3⟩, r4, r5, r6⟩ := (kn.later hb4).three
              have hlt := kn.lt
              go_wp2
              have hbF := (((hbn.trans (hb4.mono hbn.size)).setCell (p := ⟨w.heap.size, 0, none⟩) (Nat.le_refl _) (.slice x1 x2 x3)).setCell (p := ⟨w.heap.size, 1, none⟩) (Nat.le_refl _) (.bool y)).setCell (p := ⟨w.heap.size, 2, none⟩) (Nat.le_refl _) (.bool z)
              try simp only [Exit.inBlock, Exit.then]
              refine bodyPost_ret (v := .tuple #[.agg #[.slice x1 x2 x3, .bool y, .bool z], .bool (rOK 2 (T.drop 2))]) (by simp [results, Tryz.results117, go_sem, r1, r2, r3]) rfl ⟨_, by rw [HOK.out], hbF, fun h => ?_, ⟨_, _, _, _, _, rfl⟩⟩
              rw [HVAL.out]
              exact (((hp4 (by rw [← HOK.out]; exact h)).set3 hlt (.slice x1 x2 x3) (.bool y) (.bool z)).mono (Nat.le_of_lt hlt))
          · have m1 := n1 (by decide)
            have m2 := n2 (by decide)
            have m3 := n3 (by decide)
            have hcr := hid (read_at T (by omega) 10 10 rfl (by decide) (by decide) false wr)
            have e1 : pBase T = 10 := by simp [pBase, m1, m2, m3]
            have e2 : pBody T = T := by simp [pBody, m1, m2, m3]
            rw [e1, e2] at HOK HVAL
            have HOK := hid HOK.out
            have HVAL := hid HVAL.out
            clear e1 e2
            go_wp2_with fail
            (with_reducible refine hcr.out.mono ?_); rintro e w4 ⟨v, rfl, hb4, hp4, x1, x2, x3, y, z, rfl⟩
            obtain ⟨⟨r1, r2, r3⟩, r4, r5, r6⟩ := (kr.later hb4).three
            have hlt := kr.lt
            go_wp2
            have hbF := (((hbr.trans (hb4.mono hbr.size)).setCell (p := ⟨w.heap.size, 0, none⟩) (Nat.le_refl _) (.slice x1 x2 x3)).setCell (p := ⟨w.heap.size, 1, none⟩) (Nat.le_refl _) (.bool y)).setCell (p := ⟨w.heap.size, 2, none⟩) (Nat.le_refl _) (.bool z)
            try simp only [Exit.inBlock, Exit.then]
            refine bodyPost_ret (v := .tuple #[.agg #[.slice x1 x2 x3, .bool y, .bool z], .bool (rOK 10 T)]) (by simp [results, Tryz.results117, go_sem, r1, r2, r3]) rfl ⟨_, by rw [HOK.out], hbF, fun h => ?_, ⟨_, _, _, _, _, rfl⟩⟩
            rw [HVAL.out]
            exact (((hp4 (by rw [← HOK.out]; exact h)).set3 hlt (.slice x1 x2 x3) (.bool y) (.bool z)).mono (Nat.le_of_lt hlt))
      · have hST' := hST.symm
        subst hST'
        rw [hn] at HVAL
        have hc1 := hid (pre1 _ 45 hS W false hm)
        have hc2 := hid (pre1 _ 43 hS W false hp)
        have hT' := hS
        clear hn hm hp
        go_upto_block 4 with (first | fail | (with_reducible refine hc1.out.mono ?_); rintro e w' ⟨rfl, rfl⟩ | (with_reducible refine hc2.out.mono ?_); rintro e w' ⟨rfl, rfl⟩)
        clear hc1 hc2 hS
        go_wp2_with fail
        go_loopw [46] (fun iv wr => ∃ i : Nat, iv = .int .i64 i ∧ i ≤ 3 ∧ (0 < i → ([48, 120] : List UInt8).isPrefixOf T = false) ∧ (1 < i → ([48, 111] : List UInt8).isPrefixOf T = false) ∧ (2 < i → ([48, 98] : List UInt8).isPrefixOf T = false) ∧ Below w.heap.size w wr ∧ Blk wr w.heap.size #[.slice none 0 0, .bool false, .bool false] 49) (fun iv _ => 3 - (intOf iv).toNat)
        case atStart => exact ⟨0, rfl, by decide, fun h => absurd h (by decide), fun h => absurd h (by decide), fun h => absurd h (by decide), hb0, k0⟩
        case round =>
          obtain ⟨i, rfl, hi, n1, n2, n3, hbr, kr⟩ := hrel
          clear k0 hb0 hsz0
          have x0 := ix0
          have x1 := ix1
          have x2 := ix2
          have hd2 : (T.drop 2).length ≤ 1000000000 := by rw [List.length_drop]; omega
          obtain rfl | rfl | rfl | rfl : i = 0 ∨ i = 1 ∨ i = 2 ∨ i = 3 := by omega
          · cases hpre : ([48, 120] : List UInt8).isPrefixOf T
            · have hc := hid (cut2 T 48 120 (by omega) (wr.alloc (.cells #[.string ⟨#[48, 120]⟩, .int .i64 16] 119)) false hpre)
              have hbn : Below w.heap.size w (wr.alloc (.cells #[.string ⟨#[48, 120]⟩, .int .i64 16] 119)) := hbr.alloc hbr.size _
              have kn := kr.alloc (.cells #[.string ⟨#[48, 120]⟩, .int .i64 16] 119)
              go_wp2_with fail
              (with_reducible refine hc.out.mono ?_); rintro e w' ⟨rfl, rfl⟩
              go_wp2
              go_roundw
              case rel => exact ⟨1, rfl, by decide, (by first | trivial | exact fun _ => hpre), fun h => absurd h (by decide), fun h => absurd h (by decide), hbn, kn⟩
              case measure => simp [intOf]
            · have hc := hid (cut2 T 48 120 (by omega) (wr.alloc (.cells #[.string ⟨#[48, 120]⟩, .int .i64 16] 119)) true hpre)
              have hcr := hid (read_at (T.drop 2) hd2 16 16 rfl (by decide) (by decide) false (wr.alloc (.cells #[.string ⟨#[48, 120]⟩, .int .i64 16] 119)))
              have e1 : pBase T = 16 := by simp [pBase, hpre]
              have e2 : pBody T = T.drop 2 := by simp [pBody, hpre]
              rw [e1, e2] at HOK HVAL
              have HOK := hid HOK.out
              have HVAL := hid HVAL.out
              clear e1 e2
              have hbn : Below w.heap.size w (wr.alloc (.cells #[.string ⟨#[48, 120]⟩, .int .i64 16] 119)) := hbr.alloc hbr.size _
              have kn := kr.alloc (.cells #[.string ⟨#[48, 120]⟩, .int .i64 16] 119)
              go_wp2_with fail
              (with_reducible refine hc.out.mono ?_); rintro e w' ⟨rfl, rfl⟩
              go_wp2_with fail
              (with_reducible refine hcr.out.mono ?_); rintro e w4 ⟨v, rfl, hb4, hp4, x1, x2, x3, y, z, rfl⟩
              obtain ⟨⟨r1, r2, r3⟩, r4, r5, r6⟩ := (kn.later hb4).three
              have hlt := kn.lt
              go_wp2
              have hbF := (((hbn.trans (hb4.mono hbn.size)).setCell (p := ⟨w.heap.size, 0, none⟩) (Nat.le_refl _) (.slice x1 x2 x3)).setCell (p := ⟨w.heap.size, 1, none⟩) (Nat.le_refl _) (.bool y)).setCell (p := ⟨w.heap.size, 2, none⟩) (Nat.le_refl _) (.bool z)
              try simp only [Exit.inBlock, Exit.then]
              refine bodyPost_ret (v := .tuple #[.agg #[.slice x1 x2 x3, .bool y, .bool z], .bool (rOK 16 (T.drop 2))]) (by simp [results, Tryz.results117, go_sem, r1, r2, r3]) rfl ⟨_, by rw [HOK.out], hbF, fun h => ?_, ⟨_, _, _, _, _, rfl⟩⟩
              rw [HVAL.out]
              exact (((hp4 (by rw [← HOK.out]; exact h)).set3 hlt (.slice x1 x2 x3) (.bool y) (.bool z)).mono (Nat.le_of_lt hlt))
          · have m1 := n1 (by decide)
            cases hpre : ([48, 111] : List UInt8).isPrefixOf T
            · have hc := hid (cut2 T 48 111 (by omega) (wr.alloc (.cells #[.string ⟨#[48, 111]⟩, .int .i64 8] 119)) false hpre)
              have hbn : Below w.heap.size w (wr.alloc (.cells #[.string ⟨#[48, 111]⟩, .int .i64 8] 119)) := hbr.alloc hbr.size _
              have kn := kr.alloc (.cells #[.string ⟨#[48, 111]⟩, .int .i64 8] 119)
              go_wp2_with fail
              (with_reducible refine hc.out.mono ?_); rintro e w' ⟨rfl, rfl⟩
              go_wp2
              go_roundw
              case rel => exact ⟨2, rfl, by decide, (by first | trivial | exact fun _ => m1), (by first | trivial | exact fun _ => hpre), fun h => absurd h (by decide), hbn, kn⟩
              case measure => simp [intOf]
            · have hc := hid (cut2 T 48 111 (by omega) (wr.alloc (.cells #[.string ⟨#[48, 111]⟩, .int .i64 8] 119)) true hpre)
              have hcr := hid (read_at (T.drop 2) hd2 8 8 rfl (by decide) (by decide) false (wr.alloc (.cells #[.string ⟨#[48, 111]⟩, .int .i64 8] 119)))
              have e1 : pBase T = 8 := by simp [pBase, m1, hpre]
              have e2 : pBody T = T.drop 2 := by simp [pBody, hpre]
              rw [e1, e2] at HOK HVAL
              have HOK := hid HOK.out
              have HVAL := hid HVAL.out
              clear e1 e2
              have hbn : Below w.heap.size w (wr.alloc (.cells #[.string ⟨#[48, 111]⟩, .int .i64 8] 119)) := hbr.alloc hbr.size _
              have kn := kr.alloc (.cells #[.string ⟨#[48, 111]⟩, .int .i64 8] 119)
              go_wp2_with fail
              (with_reducible refine hc.out.mono ?_); rintro e w' ⟨rfl, rfl⟩
              go_wp2_with fail
              (with_reducible refine hcr.out.mono ?_); rintro e w4 ⟨v, rfl, hb4, hp4, x1, x2, x3, y, z, rfl⟩
              obtain ⟨⟨r1, r2, r3⟩, r4, r5, r6⟩ := (kn.later hb4).three
              have hlt := kn.lt
              go_wp2
              have hbF := (((hbn.trans (hb4.mono hbn.size)).setCell (p := ⟨w.heap.size, 0, none⟩) (Nat.le_refl _) (.slice x1 x2 x3)).setCell (p := ⟨w.heap.size, 1, none⟩) (Nat.le_refl _) (.bool y)).setCell (p := ⟨w.heap.size, 2, none⟩) (Nat.le_refl _) (.bool z)
              try simp only [Exit.inBlock, Exit.then]
              refine bodyPost_ret (v := .tuple #[.agg #[.slice x1 x2 x3, .bool y, .bool z], .bool (rOK 8 (T.drop 2))]) (by simp [results, Tryz.results117, go_sem, r1, r2, r3]) rfl ⟨_, by rw [HOK.out], hbF, fun h => ?_, ⟨_, _, _, _, _, rfl⟩⟩
              rw [HVAL.out]
              exact (((hp4 (by rw [← HOK.out]; exact h)).set3 hlt (.slice x1 x2 x3) (.bool y) (.bool z)).mono (Nat.le_of_lt hlt))
          · have m1 := n1 (by decide)
            have m2 := n2 (by decide)
            cases hpre : ([48, 98] : List UInt8).isPrefixOf T
            · have hc := hid (cut2 T 48 98 (by omega) (wr.alloc (.cells #[.string ⟨#[48, 98]⟩, .int .i64 2] 119)) false hpre)
              have hbn : Below w.heap.size w (wr.alloc (.cells #[.string ⟨#[48, 98]⟩, .int .i64 2] 119)) := hbr.alloc hbr.size _
              have kn := kr.alloc (.cells #[.string ⟨#[48, 98]⟩, .int .i64 2] 119)
              go_wp2_with fail
              (with_reducible refine hc.out.mono ?_); rintro e w' ⟨rfl, rfl⟩
              go_wp2
              go_roundw
              case rel => exact ⟨3, rfl, by decide, (by first | trivial | exact fun _ => m1), (by first | trivial | exact fun _ => m2), (by first | trivial | exact fun _ => hpre), hbn, kn⟩
              case measure => simp [intOf]
            · have hc := hid (cut2 T 48 98 (by omega) (wr.alloc (.cells #[.string ⟨#[48, 98]⟩, .int .i64 2] 119)) true hpre)
              have hcr := hid (read_at (T.drop 2) hd2 2 2 rfl (by decide) (by decide) false (wr.alloc (.cells #[.string ⟨#[48, 98]⟩, .int .i64 2] 119)))
              have e1 : pBase T = 2 := by simp [pBase, m1, m2, hpre]
              have e2 : pBody T = T.drop 2 := by simp [pBody, hpre]
              rw [e1, e2] at HOK HVAL
              have HOK := hid HOK.out
              have HVAL := hid HVAL.out
              clear e1 e2
              have hbn : Below w.heap.size w (wr.alloc (.cells #[.string ⟨#[48, 98]⟩, .int .i64 2] 119)) := hbr.alloc hbr.size _
              have kn := kr.alloc (.cells #[.string ⟨#[48, 98]⟩, .int .i64 2] 119)
              go_wp2_with fail
              (with_reducible refine hc.out.mono ?_); rintro e w' ⟨rfl, rfl⟩
              go_wp2_with fail
              (with_reducible refine hcr.out.mono ?_); rintro e w4 ⟨v, rfl, hb4, hp4, x1, x2, x3, y, z, rfl⟩
              obtain ⟨⟨r1, r2, r3⟩, r4, r5, r6⟩ := (kn.later hb4).three
              have hlt := kn.lt
              go_wp2
              have hbF := (((hbn.trans (hb4.mono hbn.size)).setCell (p := ⟨w.heap.size, 0, none⟩) (Nat.le_refl _) (.slice x1 x2 x3)).setCell (p := ⟨w.heap.size, 1, none⟩) (Nat.le_refl _) (.bool y)).setCell (p := ⟨w.heap.size, 2, none⟩) (Nat.le_refl _) (.bool z)
              try simp only [Exit.inBlock, Exit.then]
              refine bodyPost_ret (v := .tuple #[.agg #[.slice x1 x2 x3, .bool y, .bool z], .bool (rOK 2 (T.drop 2))]) (by simp [results, Tryz.results117, go_sem, r1, r2, r3]) rfl ⟨_, by rw [HOK.out], hbF, fun h => ?_, ⟨_, _, _, _, _, rfl⟩⟩
              rw [HVAL.out]
              exact (((hp4 (by rw [← HOK.out]; exact h)).set3 hlt (.slice x1 x2 x3) (.bool y) (.bool z)).mono (Nat.le_of_lt hlt))
          · have m1 := n1 (by decide)
            have m2 := n2 (by decide)
            have m3 := n3 (by decide)
            have hcr := hid (read_at T (by omega) 10 10 rfl (by decide) (by decide) false wr)
            have e1 : pBase T = 10 := by simp [pBase, m1, m2, m3]
            have e2 : pBody T = T := by simp [pBody, m1, m2, m3]
            rw [e1, e2] at HOK HVAL
            have HOK := hid HOK.out
            have HVAL := hid HVAL.out
            clear e1 e2
            go_wp2_with fail
            (with_reducible refine hcr.out.mono ?_); rintro e w4 ⟨v, rfl, hb4, hp4, x1, x2, x3, y, z, rfl⟩
            obtain ⟨⟨r1, r2, r3⟩, r4, r5, r6⟩ := (kr.later hb4).three
            have hlt := kr.lt
            go_wp2
            have hbF := (((hbr.trans (hb4.mono hbr.size)).setCell (p := ⟨w.heap.size, 0, none⟩) (Nat.le_refl _) (.slice x1 x2 x3)).setCell (p := ⟨w.heap.size, 1, none⟩) (Nat.le_refl _) (.bool y)).setCell (p := ⟨w.heap.size, 2, none⟩) (Nat.le_refl _) (.bool z)
            try simp only [Exit.inBlock, Exit.then]
            refine bodyPost_ret (v := .tuple #[.agg #[.slice x1 x2 x3, .bool y, .bool z], .bool (rOK 10 T)]) (by simp [results, Tryz.results117, go_sem, r1, r2, r3]) rfl ⟨_, by rw [HOK.out], hbF, fun h => ?_, ⟨_, _, _, _, _, rfl⟩⟩
            rw [HVAL.out]
            exact (((hp4 (by rw [← HOK.out]; exact h)).set3 hlt (.slice x1 x2 x3) (.bool y) (.bool z)).mono (Nat.le_of_lt hlt))
end Go.Proofs.YtkhgoeippamobaaGreatDoor
/-
  What is done with one number, with two numbers.
-/
namespace Go.Proofs.YtkhgoeippamobaaGreatDoor
open Go.RowKit
/-- a number that an operation made, too long or not -/
def RNum (w : World) (v : Value) (z : Int) : Prop := ∃ n neg lg, NumV w v n neg lg ∧ (lg = false → n = z.natAbs ∧ neg = decide (z < 0)) ∧ (lg = true → big600 ≤ z.natAbs) ∧ nlen n ≤ 1000000
theorem RNum.of_int {w : World} {v : Value} {z : Int} (h : IntV w v z) (hl : nlen z.natAbs ≤ 1000000) : RNum w v z := ⟨_, _, _, h, fun _ => ⟨rfl, rfl⟩, (fun h => by cases h), hl⟩
theorem result_r {v : Value} {z : Int} {w : World} (h : RNum w v z) :
    Calls Tryz.prog 123 #[v] w fun e w' => e = .returned (.tuple #[.string ⟨(resOf z).1.toArray⟩, .int .i64 (resOf z).2]) ∧ Below w.heap.size w w' := by
  obtain ⟨n, neg, lg, h, h1, h2, h3⟩ := h
  cases lg with
  | false =>
    obtain ⟨rfl, rfl⟩ := h1 rfl
    exact result_int h h3
  | true =>
    have hr : resOf z = ([], 4) := by
      unfold resOf
      rw [if_neg (by have := h2 rfl; omega)]
    rw [hr]
    exact result_long h
theorem never_fn {v : Value} {n : Nat} {neg lg : Bool} {w : World} (hv : NumV w v n neg lg) : Calls Tryz.prog 60 #[v] w fun e w' => e = .returned (.int .i64 0) ∧ Below w.heap.size w w' := by
  obtain ⟨s, rfl, h⟩ := hv
  obtain ⟨a, cap, rfl⟩ := h.shape
  go_enter Tryz.func60, Tryz.ntmps60
  go_wp2
  go_ret
  exact ⟨rfl, (Below.refl _ _).alloc (Nat.le_refl _) _⟩
theorem neither_fn {v u : Value} {n m : Nat} {neg lg neg' lg' : Bool} {w : World} (hv : NumV w v n neg lg) (hu : NumV w u m neg' lg') : Calls Tryz.prog 55 #[v, u] w fun e w' => e = .returned (.int .i64 0) ∧ Below w.heap.size w w' := by
  obtain ⟨s, rfl, h⟩ := hv
  obtain ⟨a, cap, rfl⟩ := h.shape
  obtain ⟨s', rfl, h'⟩ := hu
  obtain ⟨a', cap', rfl⟩ := h'.shape
  go_enter Tryz.func55, Tryz.ntmps55
  go_wp2
  go_ret
  exact ⟨rfl, ((Below.refl _ _).alloc (Nat.le_refl _) _).alloc (by simp) _⟩
theorem PNumO.shape {w : World} {base : Nat} {v : Value} {z : Int} (h : PNumO w base v z) : ∃ a n c, v = .agg #[.slice a n c, .bool (decide (z < 0)), .bool (decide (big600 ≤ z.natAbs))] := by
  obtain ⟨s, n, lg, rfl, h1, h2, rfl, h4⟩ := h
  obtain ⟨a, c, rfl⟩ := h1.shape
  exact ⟨a, _, c, rfl⟩
/-- what 'one' answers: s the text, pe the problem, z the number that is made -/
def oneRes (a : List UInt8) (pe : Int) (z : Int) : List UInt8 × Int :=
  if pOK a = true then if pe ≠ 0 then ([], pe) else if big600 ≤ (pVal a).natAbs then ([], 4) else resOf z else ([], 2)
def twoRes (a b : List UInt8) (pe : Int) (z : Int) : List UInt8 × Int :=
  if pOK a = true ∧ pOK b = true then if pe ≠ 0 then ([], pe) else if big600 ≤ (pVal a).natAbs ∨ big600 ≤ (pVal b).natAbs then ([], 4) else resOf z else ([], 2)
def oneDone (a : List UInt8) (pe : Int) : Prop := pOK a = true ∧ pe = 0 ∧ ¬ big600 ≤ (pVal a).natAbs
set_option maxRecDepth 100000 in
set_option maxHeartbeats 4000000 in
theorem one_fn (a : List UInt8) (ha : a.length ≤ 1000000000) (k1 k2 : Nat) (c1 c2 : Array Value) (pe z : Int) (w : World) (B : Nat) (hB : B ≤ w.heap.size)
    (eg1 : ∀ args w, (callFunc k1 args).run Tryz.prog w = .ok (.enter k1 args) w) (eg2 : ∀ args w, (callFunc k2 args).run Tryz.prog w = .ok (.enter k2 args) w)
    (hp : pOK a = true → ∀ w1 v, Below w.heap.size w w1 → PNum w1 v (pVal a) → Calls Tryz.prog k1 (#[v] ++ c1) w1 fun e w' => e = .returned (.int .i64 pe) ∧ Below w1.heap.size w1 w')
    (hd : pOK a = true → pe = 0 → (pVal a).natAbs < big600 → ∀ w1 v, Below w.heap.size w w1 → IntV w1 v (pVal a) → nlen (pVal a).natAbs ≤ 1000 → Calls Tryz.prog k2 (#[v] ++ c2) w1 fun e w' => ∃ u, e = .returned u ∧ RNum w' u z ∧ Below B w1 w') :
    Calls Tryz.prog 59 #[.string ⟨a.toArray⟩, .func (.func k1) #[] c1, .func (.func k2) #[] c2] w fun e w' => e = .returned (.tuple #[.string ⟨(oneRes a pe z).1.toArray⟩, .int .i64 (oneRes a pe z).2]) ∧ Below B w w' := by
  have hc := hid (parse_fn a ha w)
  cases hok : pOK a with
  | false =>
    have hr : oneRes a pe z = ([], 2) := by unfold oneRes; rw [hok]; rfl
    have HR := hid hr
    unfold ParseP at hc
    rw [hok] at hc
    clear hp hd hok hr
    go_enter Tryz.func59, Tryz.ntmps59
    go_wp2_with fail
    (with_reducible refine hc.out.mono ?_); rintro e w1 ⟨v, rfl, hb1, hv, x1, x2, x3, g, h, rfl⟩
    go_wp2
    go_ret2
    exact ⟨by rw [HR.out]; rfl, (hb1.alloc hb1.size _).mono hB⟩
  | true =>
    have hP := hid (hp hok)
    have hD := hid (hd hok)
    have HR := hid (show oneRes a pe z = if pe ≠ 0 then ([], pe) else if big600 ≤ (pVal a).natAbs then ([], 4) else resOf z by unfold oneRes; rw [if_pos hok])
    unfold ParseP at hc
    rw [hok] at hc
    clear hp hd hok
    go_enter Tryz.func59, Tryz.ntmps59
    go_wp2_with fail
    (with_reducible refine hc.out.mono ?_); rintro e w1 ⟨v, rfl, hb1, hv, x1, x2, x3, g, h, rfl⟩
    have hv' := (hv (by first | rfl | trivial)).num
    obtain ⟨a0, n0, c0, he⟩ := (hv (by first | rfl | trivial)).shape
    simp only [Value.agg.injEq, Array.mk.injEq, List.cons.injEq, Value.slice.injEq, Value.bool.injEq, and_true] at he
    obtain ⟨-, hg, hh⟩ := he
    have HH := hid hh
    clear hv a0 n0 c0 hg hh
    have kA := Blk.new w1 #[.slice x1 x2 x3, .bool g, .bool h] 49
    have hbA : Below w.heap.size w (w1.alloc (.cells #[.slice x1 x2 x3, .bool g, .bool h] 49)) := hb1.alloc hb1.size _
    have hvA := hv'.below ((Below.refl _ w1).alloc (Nat.le_refl _) (.cells #[.slice x1 x2 x3, .bool g, .bool h] 49))
    have hpc := hid (hP.out _ _ hbA hvA)
    go_wp2_with fail
    (with_reducible refine hpc.out.mono ?_); rintro e w2 ⟨rfl, hb2⟩
    have hv2 := hvA.below hb2
    have hbB := hbA.trans (hb2.mono hbA.size)
    obtain ⟨⟨r1, r2, r3⟩, r4, r5, r6⟩ := (kA.later hb2).three
    by_cases hpe : pe = 0
    · subst hpe
      cases h with
      | true =>
        have hbig : big600 ≤ (pVal a).natAbs := of_decide_eq_true HH.out.symm
        go_wp2
        go_ret2
        refine ⟨?_, hbB.mono hB⟩
        rw [HR.out, if_neg (by simp), if_pos hbig]
        rfl
      | false =>
        have hsm : ¬ big600 ≤ (pVal a).natAbs := of_decide_eq_false HH.out.symm
        obtain ⟨hI, hn⟩ := hv2.int (by omega)
        have hdc := hid (hD.out rfl (by omega) _ _ hbB hI hn)
        have HR2 := hid (show oneRes a 0 z = resOf z by rw [HR.out, if_neg (by simp), if_neg hsm])
        clear hsm
        go_wp2_with fail
        (with_reducible refine hdc.out.mono ?_); rintro e w3 ⟨u, rfl, hu, hb3⟩
        have hrc := hid (result_r hu)
        go_wp2_with fail
        (with_reducible refine hrc.out.mono ?_); rintro e w4 ⟨rfl, hb4⟩
        go_wp2
        go_ret2
        have h2 := hbB.mono hB
        exact ⟨by rw [HR2.out]; rfl, (h2.trans hb3).trans (hb4.mono (by have := hb3.size; have := h2.size; omega))⟩
    · have hpn : (pe == 0) = false := by simpa using hpe
      have HR2 := hid (show oneRes a pe z = ([], pe) by rw [HR.out, if_pos hpe])
      go_wp2
      go_ret2
      exact ⟨by rw [HR2.out]; rfl, hbB.mono hB⟩
/-- one of two, by a bit -/
def JIf (c : Bool) (p q : Prop) : Prop := (c = true → p) ∧ (c = false → q)
theorem JIf.yes {c : Bool} {p q : Prop} (hc : c = true) (h : p) : JIf c p q := ⟨fun _ => h, fun h' => by rw [hc] at h'; cases h'⟩
theorem JIf.no {c : Bool} {p q : Prop} (hc : c = false) (h : q) : JIf c p q := ⟨(fun h' => by rw [hc] at h'; cases h'), fun _ => h⟩
/-- whether the two numbers came to what is done -/
def twoDone (a b : List UInt8) (pe : Int) : Bool := pOK a && pOK b && decide (pe = 0) && !decide (big600 ≤ (pVal a).natAbs) && !decide (big600 ≤ (pVal b).natAbs)
set_option maxRecDepth 100000 in
set_option maxHeartbeats 4000000 in
theorem two_fnJ (a b : List UInt8) (ha : a.length ≤ 1000000000) (hb : b.length ≤ 1000000000) (k1 k2 : Nat) (c1 c2 : Array Value) (pe z : Int) (w : World) (B : Nat) (hB : B ≤ w.heap.size)
    (J0 J1 : World → Prop) (hJ0 : ∀ w', Below w.heap.size w w' → J0 w') (hJ1 : ∀ w1 w2, J1 w1 → Below w1.heap.size w1 w2 → J1 w2)
    (eg1 : ∀ args w, (callFunc k1 args).run Tryz.prog w = .ok (.enter k1 args) w) (eg2 : ∀ args w, (callFunc k2 args).run Tryz.prog w = .ok (.enter k2 args) w)
    (hp : pOK a = true → pOK b = true → ∀ w1 v u, Below w.heap.size w w1 → PNum w1 v (pVal a) → PNum w1 u (pVal b) → Calls Tryz.prog k1 (#[v, u] ++ c1) w1 fun e w' => e = .returned (.int .i64 pe) ∧ Below w1.heap.size w1 w')
    (hd : pOK a = true → pOK b = true → pe = 0 → (pVal a).natAbs < big600 → (pVal b).natAbs < big600 → ∀ w1 v u, Below w.heap.size w w1 → IntV w1 v (pVal a) → nlen (pVal a).natAbs ≤ 1000 → IntV w1 u (pVal b) → nlen (pVal b).natAbs ≤ 1000 → Calls Tryz.prog k2 (#[v, u] ++ c2) w1 fun e w' => ∃ u, e = .returned u ∧ RNum w' u z ∧ Below B w1 w' ∧ J1 w') :
    Calls Tryz.prog 54 #[.string ⟨a.toArray⟩, .string ⟨b.toArray⟩, .func (.func k1) #[] c1, .func (.func k2) #[] c2] w fun e w' => e = .returned (.tuple #[.string ⟨(twoRes a b pe z).1.toArray⟩, .int .i64 (twoRes a b pe z).2]) ∧ Below B w w' ∧ JIf (twoDone a b pe) (J1 w') (J0 w') := by
  have hc := hid (parse_fn a ha w)
  by_cases hok : pOK a = true ∧ pOK b = true
  · have hP := hid (hp hok.1 hok.2)
    have hD := hid (hd hok.1 hok.2)
    have HR := hid (show twoRes a b pe z = if pe ≠ 0 then ([], pe) else if big600 ≤ (pVal a).natAbs ∨ big600 ≤ (pVal b).natAbs then ([], 4) else resOf z by unfold twoRes; rw [if_pos hok])
    have HT := hid (show twoDone a b pe = (decide (pe = 0) && !decide (big600 ≤ (pVal a).natAbs) && !decide (big600 ≤ (pVal b).natAbs)) by unfold twoDone; rw [hok.1, hok.2]; rfl)
    have HK := hid hok
    unfold ParseP at hc
    rw [hok.1] at hc
    clear hp hd hok
    go_enter Tryz.func54, Tryz.ntmps54
    go_wp2_with fail
    (with_reducible refine hc.out.mono ?_); rintro e w1 ⟨v, rfl, hb1, hv, x1, x2, x3, g, h, rfl⟩
    have hv' := (hv (by first | rfl | trivial)).num
    obtain ⟨a0, n0, c0, he⟩ := (hv (by first | rfl | trivial)).shape
    simp only [Value.agg.injEq, Array.mk.injEq, List.cons.injEq, Value.slice.injEq, Value.bool.injEq, and_true] at he
    obtain ⟨-, hg, hh⟩ := he
    have HH := hid hh
    clear hv a0 n0 c0 hg hh
    have kA := Blk.new w1 #[.slice x1 x2 x3, .bool g, .bool h] 49
    have hbA : Below w.heap.size w (w1.alloc (.cells #[.slice x1 x2 x3, .bool g, .bool h] 49)) := hb1.alloc hb1.size _
    have hvA := hv'.below ((Below.refl _ w1).alloc (Nat.le_refl _) (.cells #[.slice x1 x2 x3, .bool g, .bool h] 49))
    have hcb := hid (parse_fn b hb (w1.alloc (.cells #[.slice x1 x2 x3, .bool g, .bool h] 49)))
    unfold ParseP at hcb
    rw [HK.out.2] at hcb
    go_wp2_with fail
    (with_reducible refine hcb.out.mono ?_); rintro e w2 ⟨v2, rfl, hb2, hv2, y1, y2, y3, g2, h2, rfl⟩
    have hu' := (hv2 (by first | rfl | trivial)).num
    obtain ⟨a0, n0, c0, he⟩ := (hv2 (by first | rfl | trivial)).shape
    simp only [Value.agg.injEq, Array.mk.injEq, List.cons.injEq, Value.slice.injEq, Value.bool.injEq, and_true] at he
    obtain ⟨-, hg, hh⟩ := he
    have HH2 := hid hh
    clear hv2 a0 n0 c0 hg hh
    have kA2 := (kA.later hb2).alloc (.cells #[.slice y1 y2 y3, .bool g2, .bool h2] 49)
    have kB := Blk.new w2 #[.slice y1 y2 y3, .bool g2, .bool h2] 49
    have hbC : Below w2.heap.size w2 (w2.alloc (.cells #[.slice y1 y2 y3, .bool g2, .bool h2] 49)) := (Below.refl _ w2).alloc (Nat.le_refl _) _
    have hvC := (hvA.below hb2).below hbC
    have huC := hu'.below hbC
    have hbD := (hbA.trans (hb2.mono hbA.size)).trans (hbC.mono (Nat.le_trans hbA.size hb2.size))
    obtain ⟨⟨p1, p2, p3⟩, p4, p5, p6⟩ := kA2.three
    have hpc := hid (hP.out _ _ _ hbD hvC huC)
    go_wp2_with fail
    (with_reducible refine hpc.out.mono ?_); rintro e w3 ⟨rfl, hb3⟩
    have hvE := hvC.below hb3
    have huE := huC.below hb3
    have hbE := hbD.trans (hb3.mono hbD.size)
    clear p1 p2 p3 p4 p5 p6
    obtain ⟨⟨p1, p2, p3⟩, p4, p5, p6⟩ := (kA2.later hb3).three
    obtain ⟨⟨q1, q2, q3⟩, q4, q5, q6⟩ := (kB.later hb3).three
    by_cases hpe : pe = 0
    · subst hpe
      cases h with
      | true =>
        have hbig : big600 ≤ (pVal a).natAbs := of_decide_eq_true HH.out.symm
        go_wp2
        go_ret2
        refine ⟨?_, hbE.mono hB, ?_⟩
        · rw [HR.out, if_neg (by simp), if_pos (.inl hbig)]
          rfl
        · exact JIf.no (by rw [HT.out, decide_eq_true hbig]; simp) (hJ0 _ hbE)
      | false =>
        have hsm : ¬ big600 ≤ (pVal a).natAbs := of_decide_eq_false HH.out.symm
        cases h2 with
        | true =>
          have hbig : big600 ≤ (pVal b).natAbs := of_decide_eq_true HH2.out.symm
          go_wp2
          go_ret2
          refine ⟨?_, hbE.mono hB, ?_⟩
          · rw [HR.out, if_neg (by simp), if_pos (.inr hbig)]
            rfl
          · exact JIf.no (by rw [HT.out, decide_eq_true hbig]; simp) (hJ0 _ hbE)
        | false =>
          have hsm2 : ¬ big600 ≤ (pVal b).natAbs := of_decide_eq_false HH2.out.symm
          obtain ⟨hI, hn⟩ := hvE.int (by omega)
          obtain ⟨hI2, hn2⟩ := huE.int (by omega)
          have hdc := hid (hD.out rfl (by omega) (by omega) _ _ _ hbE hI hn hI2 hn2)
          have HR2 := hid (show twoRes a b 0 z = resOf z by rw [HR.out, if_neg (by simp), if_neg (by omega)])
          have HT2 := hid (show twoDone a b 0 = true by rw [HT.out, decide_eq_false hsm, decide_eq_false hsm2]; rfl)
          clear hsm hsm2
          go_wp2_with fail
          (with_reducible refine hdc.out.mono ?_); rintro e w4 ⟨u, rfl, hu, hb4, hj4⟩
          have hrc := hid (result_r hu)
          go_wp2_with fail
          (with_reducible refine hrc.out.mono ?_); rintro e w5 ⟨rfl, hb5⟩
          go_wp2
          go_ret2
          have h2 := hbE.mono hB
          refine ⟨by rw [HR2.out]; rfl, (h2.trans hb4).trans (hb5.mono (by have := hb4.size; have := h2.size; omega)), ?_⟩
          exact JIf.yes HT2.out (hJ1 _ _ hj4 hb5)
    · have hpn : (pe == 0) = false := by simpa using hpe
      have HR2 := hid (show twoRes a b pe z = ([], pe) by rw [HR.out, if_pos hpe])
      have HT2 := hid (show twoDone a b pe = false by rw [HT.out, decide_eq_false hpe]; rfl)
      go_wp2
      go_ret2
      refine ⟨by rw [HR2.out]; rfl, hbE.mono hB, ?_⟩
      exact JIf.no HT2.out (hJ0 _ hbE)
  · have HR := hid (show twoRes a b pe z = ([], 2) by unfold twoRes; rw [if_neg hok])
    have HT := hid (show twoDone a b pe = false by unfold twoDone; cases h1 : pOK a <;> cases h2 : pOK b <;> simp_all)
    clear hp hd
    unfold ParseP at hc
    cases hoa : pOK a with
    | false =>
      rw [hoa] at hc
      clear hoa hok
      go_enter Tryz.func54, Tryz.ntmps54
      go_wp2_with fail
      (with_reducible refine hc.out.mono ?_); rintro e w1 ⟨v, rfl, hb1, hv, x1, x2, x3, g, h, rfl⟩
      have hbA : Below w.heap.size w (w1.alloc (.cells #[.slice x1 x2 x3, .bool g, .bool h] 49)) := hb1.alloc hb1.size _
      have hcb := hid (parse_fn b hb (w1.alloc (.cells #[.slice x1 x2 x3, .bool g, .bool h] 49)))
      unfold ParseP at hcb
      generalize pOK b = ob at hcb
      go_wp2_with fail
      (with_reducible refine hcb.out.mono ?_); rintro e w2 ⟨v2, rfl, hb2, hv2, y1, y2, y3, g2, h2, rfl⟩
      have hbC : Below w2.heap.size w2 (w2.alloc (.cells #[.slice y1 y2 y3, .bool g2, .bool h2] 49)) := (Below.refl _ w2).alloc (Nat.le_refl _) _
      have hbD := (hbA.trans (hb2.mono hbA.size)).trans (hbC.mono (Nat.le_trans hbA.size hb2.size))
      go_wp2
      go_ret2
      exact ⟨by rw [HR.out]; rfl, hbD.mono hB, JIf.no HT.out (hJ0 _ hbD)⟩
    | true =>
      have hob : pOK b = false := by
        cases h : pOK b
        · rfl
        · exact absurd ⟨hoa, h⟩ hok
      have HOB := hid hob
      rw [hoa] at hc
      clear hoa hok hob
      go_enter Tryz.func54, Tryz.ntmps54
      go_wp2_with fail
      (with_reducible refine hc.out.mono ?_); rintro e w1 ⟨v, rfl, hb1, hv, x1, x2, x3, g, h, rfl⟩
      have hbA : Below w.heap.size w (w1.alloc (.cells #[.slice x1 x2 x3, .bool g, .bool h] 49)) := hb1.alloc hb1.size _
      have hcb := hid (parse_fn b hb (w1.alloc (.cells #[.slice x1 x2 x3, .bool g, .bool h] 49)))
      unfold ParseP at hcb
      rw [HOB.out] at hcb
      go_wp2_with fail
      (with_reducible refine hcb.out.mono ?_); rintro e w2 ⟨v2, rfl, hb2, hv2, y1, y2, y3, g2, h2, rfl⟩
      have hbC : Below w2.heap.size w2 (w2.alloc (.cells #[.slice y1 y2 y3, .bool g2, .bool h2] 49)) := (Below.refl _ w2).alloc (Nat.le_refl _) _
      have hbD := (hbA.trans (hb2.mono hbA.size)).trans (hbC.mono (Nat.le_trans hbA.size hb2.size))
      go_wp2
      go_ret2
      exact ⟨by rw [HR.out]; rfl, hbD.mono hB, JIf.no HT.out (hJ0 _ hbD)⟩
/-- the plain case: nothing but the result is told -/
theorem two_fn (a b : List UInt8) (ha : a.length ≤ 1000000000) (hb : b.length ≤ 1000000000) (k1 k2 : Nat) (c1 c2 : Array Value) (pe z : Int) (w : World)
    (eg1 : ∀ args w, (callFunc k1 args).run Tryz.prog w = .ok (.enter k1 args) w) (eg2 : ∀ args w, (callFunc k2 args).run Tryz.prog w = .ok (.enter k2 args) w)
    (hp : pOK a = true → pOK b = true → ∀ w1 v u, Below w.heap.size w w1 → PNum w1 v (pVal a) → PNum w1 u (pVal b) → Calls Tryz.prog k1 (#[v, u] ++ c1) w1 fun e w' => e = .returned (.int .i64 pe) ∧ Below w1.heap.size w1 w')
    (hd : pOK a = true → pOK b = true → pe = 0 → (pVal a).natAbs < big600 → (pVal b).natAbs < big600 → ∀ w1 v u, Below w.heap.size w w1 → IntV w1 v (pVal a) → nlen (pVal a).natAbs ≤ 1000 → IntV w1 u (pVal b) → nlen (pVal b).natAbs ≤ 1000 → Calls Tryz.prog k2 (#[v, u] ++ c2) w1 fun e w' => ∃ u, e = .returned u ∧ RNum w' u z ∧ Below w1.heap.size w1 w') :
    Calls Tryz.prog 54 #[.string ⟨a.toArray⟩, .string ⟨b.toArray⟩, .func (.func k1) #[] c1, .func (.func k2) #[] c2] w fun e w' => e = .returned (.tuple #[.string ⟨(twoRes a b pe z).1.toArray⟩, .int .i64 (twoRes a b pe z).2]) ∧ Below w.heap.size w w' := by
  refine (two_fnJ a b ha hb k1 k2 c1 c2 pe z w w.heap.size (Nat.le_refl _) (fun _ => True) (fun _ => True) (fun _ _ => trivial) (fun _ _ _ _ => trivial) eg1 eg2 hp ?_).mono ?_
  · intro h1 h2 h3 h4 h5 w1 v u h6 h7 h8 h9 h10
    refine (hd h1 h2 h3 h4 h5 w1 v u h6 h7 h8 h9 h10).mono ?_
    rintro e w' ⟨u, h11, h12, h13⟩
    exact ⟨u, h11, h12, h13.mono h6.size, trivial⟩
  · rintro e w' ⟨h1, h2, _⟩
    exact ⟨h1, h2⟩
end Go.Proofs.YtkhgoeippamobaaGreatDoor
/-
  The operations: Canonical, Valid, Add, Sub, Mul.
-/
namespace Go.Proofs.YtkhgoeippamobaaGreatDoor
open Go.RowKit
theorem nlen_of_lt (n e : Nat) (h : n < 2 ^ e) : nlen n ≤ e / 32 + 1 := by
  rw [nlen_le_iff]
  exact Nat.lt_of_lt_of_le h (Nat.pow_le_pow_right (by decide) (by omega))
theorem nlen_sq (n : Nat) (h : n < big600 * big600) : nlen n ≤ 1000 := by
  have key : ∀ e, e = 2010 → big600 ≤ 2 ^ e → nlen n ≤ 1000 := by
    intro e he hb
    have h1 := Nat.mul_le_mul hb hb
    rw [← Nat.pow_add] at h1
    have h2 := nlen_of_lt n _ (Nat.lt_of_lt_of_le h h1)
    omega
  exact key _ rfl big600_le
theorem big600_two : 2 ≤ big600 := by
  unfold big600
  have h1 : 10 ≤ (10 ^ 60 : Nat) := by decide
  have h2 : 10 ≤ ((10 ^ 60) ^ 2 : Nat) := Nat.le_trans h1 (Nat.le_self_pow (by decide) _)
  have h3 : 10 ≤ (((10 ^ 60) ^ 2) ^ 5 : Nat) := Nat.le_trans h2 (Nat.le_self_pow (by decide) _)
  omega
theorem sum_sq (n m : Nat) (hn : n < big600) (hm : m < big600) : n + m < big600 * big600 := by
  have h := big600_two
  have := Nat.mul_le_mul_right big600 h
  omega
theorem IntV.fresh {z : Int} {w : World} {e : Ending} {w' : World} (h : FreshInt z w e w') (hl : nlen z.natAbs ≤ 1000000) : ∃ u, e = .returned u ∧ RNum w' u z ∧ Below w.heap.size w w' := by
  obtain ⟨v, rfl, h1, h2⟩ := h
  exact ⟨v, rfl, RNum.of_int h1.int hl, h2⟩
def canRes (a : List UInt8) : List UInt8 × Int := oneRes a 0 (pVal a)
def addRes (a b : List UInt8) : List UInt8 × Int := twoRes a b 0 (pVal a + pVal b)
def subRes (a b : List UInt8) : List UInt8 × Int := twoRes a b 0 (pVal a - pVal b)
def mulRes (a b : List UInt8) : List UInt8 × Int := twoRes a b 0 (pVal a * pVal b)
set_option maxRecDepth 100000 in
set_option maxHeartbeats 2000000 in
theorem canonical1 {v : Value} {z : Int} {w : World} (hv : IntV w v z) : Calls Tryz.prog 61 #[v] w fun e w' => ∃ u, e = .returned u ∧ IntV w' u z ∧ Below w.heap.size w w' := by
  obtain ⟨a, cap, rfl, h⟩ := hv.shape
  have hb : Below w.heap.size w ((w.alloc (.cells #[.slice a (nlen z.natAbs) cap, .bool (decide (z < 0)), .bool false] 49)).alloc (.cells #[.slice none 0 0, .bool false, .bool false] 49)) := ((Below.refl _ _).alloc (Nat.le_refl _) _).alloc (by simp) _
  go_enter Tryz.func61, Tryz.ntmps61
  go_wp2
  exact bodyPost_ret (v := .agg #[.slice a (nlen z.natAbs) cap, .bool (decide (z < 0)), .bool false]) (by simp [results, Tryz.results61, go_sem]) rfl ⟨_, rfl, hv.below ((Below.refl _ _).alloc (Nat.le_refl _) _ |>.alloc (by simp) _), (Below.refl _ _).alloc (Nat.le_refl _) _ |>.alloc (by simp) _⟩
theorem OwnInt.shape {w : World} {base : Nat} {v : Value} {z : Int} (h : OwnInt w base v z) : ∃ a c, v = .agg #[.slice a (nlen z.natAbs) c, .bool (decide (z < 0)), .bool false] := by
  obtain ⟨s, rfl, h1⟩ := h
  obtain ⟨a, c, rfl⟩ := h1.shape
  exact ⟨a, c, rfl⟩
set_option maxRecDepth 100000 in
set_option maxHeartbeats 4000000 in
theorem sub1 {v u : Value} {x y : Int} {w : World} (hv : IntV w v x) (hu : IntV w u y) (hx : nlen x.natAbs ≤ 1000) (hy : nlen y.natAbs ≤ 1000) (_hxy : nlen (x + -y).natAbs ≤ 1000) : Calls Tryz.prog 57 #[v, u] w fun e w' => ∃ s, e = .returned s ∧ IntV w' s (x + -y) ∧ Below w.heap.size w w' := by
  obtain ⟨a1, m, c1, sa, rfl⟩ := hv.shape4
  obtain ⟨a2, n, c2, sb, rfl⟩ := hu.shape4
  have k1 := Blk.new w #[.slice a1 m c1, .bool sa, .bool false] 49
  have k2 := Blk.new (w.alloc (.cells #[.slice a1 m c1, .bool sa, .bool false] 49)) #[.slice a2 n c2, .bool sb, .bool false] 49
  have k3 := Blk.new ((w.alloc (.cells #[.slice a1 m c1, .bool sa, .bool false] 49)).alloc (.cells #[.slice a2 n c2, .bool sb, .bool false] 49)) #[.slice none 0 0, .bool false, .bool false] 49
  simp only [World.size_alloc] at k2 k3
  have k1' := (k1.alloc (.cells #[.slice a2 n c2, .bool sb, .bool false] 49)).alloc (.cells #[.slice none 0 0, .bool false, .bool false] 49)
  have k2' := k2.alloc (.cells #[.slice none 0 0, .bool false, .bool false] 49)
  have hb0 : Below w.heap.size w (((w.alloc (.cells #[.slice a1 m c1, .bool sa, .bool false] 49)).alloc (.cells #[.slice a2 n c2, .bool sb, .bool false] 49)).alloc (.cells #[.slice none 0 0, .bool false, .bool false] 49)) := (((Below.refl _ _).alloc (Nat.le_refl _) _).alloc (by simp) _).alloc (by simp; omega) _
  go_enter Tryz.func57, Tryz.ntmps57
  go_wp2_with fail
  generalize ((w.alloc (.cells #[.slice a1 m c1, .bool sa, .bool false] 49)).alloc (.cells #[.slice a2 n c2, .bool sb, .bool false] 49)).alloc (.cells #[.slice none 0 0, .bool false, .bool false] 49) = w0 at *
  clear k1 k2
  have hvd := hv.below hb0.drew
  have hud := hu.below hb0.drew
  have hc1 := hid (opposite_int hud (by omega))
  have hsz0 := hb0.size
  have hsz3 := k3.lt
  refine U_begin (late := fun i => decide (4 ≤ i)) (S := fun u => Blk u w.heap.size #[.slice a1 m c1, .bool sa, .bool false] 49 ∧ Blk u (w.heap.size + 1) #[.slice a2 n c2, .bool sb, .bool false] 49) (by kernel_rfl) ?_
  refine U_take (i := 0) (v := .agg #[.slice a1 m c1, .bool sa, .bool false]) rfl (by kernel_rfl) (by kernel_rfl) (by kernel_rfl) (by kernel_rfl) (by kernel_rfl) (fun _ _ _ h => h) (.inl ⟨rfl, fun u hu => (by obtain ⟨⟨h1, h2, h3⟩, _⟩ := hu.1.three; go_simp)⟩) ⟨k1'.drew, k2'.drew⟩ ?_
  refine U_take (i := 1) (v := .agg #[.slice a2 n c2, .bool sb, .bool false]) rfl (by kernel_rfl) (by kernel_rfl) (by kernel_rfl) (by kernel_rfl) (by kernel_rfl) (fun _ _ _ h => h) (.inl ⟨rfl, fun u hu => (by obtain ⟨⟨h1, h2, h3⟩, _⟩ := hu.2.three; go_simp)⟩) ⟨k1'.drew, k2'.drew⟩ ?_
  refine U_step (j := 2) (by kernel_rfl) rfl (fun K hK => ?_)
  go_simp
  (with_reducible refine hc1.out.mono ?_); rintro e w1 ⟨r, rfl, hr, hb1⟩
  have hc2 := hid (plusN_int (hvd.below hb1) hr (by omega) (by rw [Int.natAbs_neg]; omega))
  have k31 := k3.drew.later hb1
  obtain ⟨ra, rn, rc, rb, rfl⟩ := hr.shape4
  refine hK.out _ _ (.inr ⟨k1'.drew.later hb1, k2'.drew.later hb1⟩) ?_
  clear hK K
  refine U_step (j := 3) (by kernel_rfl) rfl (fun K hK => ?_)
  go_simp
  (with_reducible refine hc2.out.mono ?_); rintro e w2 ⟨s, rfl, hs, hb2⟩
  obtain ⟨sa1, sn, sc1, sb1, rfl⟩ := hs.shape4
  refine hK.out _ _ (.inr ⟨(k1'.drew.later hb1).later hb2, (k2'.drew.later hb1).later hb2⟩) ?_
  clear hK K
  obtain ⟨⟨r1, r2, r3⟩, ⟨s1, s2, s3⟩⟩ := (k31.later hb2).three
  refine U_step (j := 4) (by kernel_rfl) rfl (fun K hK => ?_)
  go_simp
  refine hK.out _ _ (.inl rfl) ?_
  clear hK K
  refine U_done (by kernel_rfl) ?_ _
  go_wp2
  have hbE : Below w.heap.size w w2 := hb0.drew.trans ((hb1.mono hsz0).trans (hb2.mono (Nat.le_trans hsz0 hb1.size)))
  have hF := (hs.mono (Nat.le_trans (show w.heap.size + 1 + 1 + 1 ≤ w0.heap.size from hsz3) hb1.size)).set3 (b := w.heap.size + 1 + 1) (Nat.lt_succ_self _) (.slice sa1 sn sc1) (.bool sb1) (.bool false)
  have hbF := ((hbE.setCell (p := ⟨w.heap.size + 1 + 1, 0, none⟩) (by simp; omega) (.slice sa1 sn sc1)).setCell (p := ⟨w.heap.size + 1 + 1, 1, none⟩) (by simp; omega) (.bool sb1)).setCell (p := ⟨w.heap.size + 1 + 1, 2, none⟩) (by simp; omega) (.bool false)
  exact bodyPost_ret (v := .agg #[.slice sa1 sn sc1, .bool sb1, .bool false]) (by simp [results, Tryz.results57, go_sem, r1, r2, r3]) rfl ⟨_, rfl, hF.int, hbF⟩
theorem add_fn (a b : List UInt8) (ha : a.length ≤ 1000000000) (hb : b.length ≤ 1000000000) (w : World) :
    Calls Tryz.prog 12 #[.string ⟨a.toArray⟩, .string ⟨b.toArray⟩] w fun e w' => e = .returned (.tuple #[.string ⟨(addRes a b).1.toArray⟩, .int .i64 (addRes a b).2]) ∧ Below w.heap.size w w' := by
  have hc := hid (two_fn a b ha hb 55 56 #[] #[] 0 (pVal a + pVal b) w (enters_of Tryz.func55 (by kernel_rfl) rfl) (enters_of Tryz.func56 (by kernel_rfl) rfl)
    (fun _ _ w1 v u _ h1 h2 => by
      obtain ⟨n, lg, h1, _⟩ := h1
      obtain ⟨m, lg', h2, _⟩ := h2
      exact neither_fn h1 h2)
    (fun _ _ _ s1 s2 w1 v u _ h1 h2 h3 h4 => (plusN_int h1 h3 (by omega) (by omega)).mono fun e w' h => IntV.fresh h (by
      have := nlen_sq _ (sum_sq _ _ s1 s2)
      have := nlen_mono (Int.natAbs_add_le (pVal a) (pVal b))
      omega)))
  go_enter Tryz.func12, Tryz.ntmps12
  go_wp2_with fail
  (with_reducible refine hc.out.mono ?_); rintro e w1 ⟨rfl, hb1⟩
  go_wp2
  go_ret2
  exact ⟨rfl, hb1⟩
theorem sub_fn (a b : List UInt8) (ha : a.length ≤ 1000000000) (hb : b.length ≤ 1000000000) (w : World) :
    Calls Tryz.prog 13 #[.string ⟨a.toArray⟩, .string ⟨b.toArray⟩] w fun e w' => e = .returned (.tuple #[.string ⟨(subRes a b).1.toArray⟩, .int .i64 (subRes a b).2]) ∧ Below w.heap.size w w' := by
  have hc := hid (two_fn a b ha hb 55 57 #[] #[] 0 (pVal a - pVal b) w (enters_of Tryz.func55 (by kernel_rfl) rfl) (enters_of Tryz.func57 (by kernel_rfl) rfl)
    (fun _ _ w1 v u _ h1 h2 => by
      obtain ⟨n, lg, h1, _⟩ := h1
      obtain ⟨m, lg', h2, _⟩ := h2
      exact neither_fn h1 h2)
    (fun _ _ _ s1 s2 w1 v u _ h1 h2 h3 h4 => by
      have hn : nlen (pVal a + -pVal b).natAbs ≤ 1000 := by
        have h5 := nlen_sq _ (sum_sq _ _ s1 s2)
        have h6 := nlen_mono (Int.natAbs_add_le (pVal a) (-pVal b))
        rw [Int.natAbs_neg] at h6
        omega
      refine (sub1 h1 h3 h2 h4 hn).mono ?_
      rintro e w' ⟨s, rfl, hs, hb⟩
      exact ⟨s, rfl, RNum.of_int hs (Nat.le_trans hn (by decide)), hb⟩))
  go_enter Tryz.func13, Tryz.ntmps13
  go_wp2_with fail
  (with_reducible refine hc.out.mono ?_); rintro e w1 ⟨rfl, hb1⟩
  go_wp2
  go_ret2
  exact ⟨rfl, hb1⟩
theorem mul_fn (a b : List UInt8) (ha : a.length ≤ 1000000000) (hb : b.length ≤ 1000000000) (w : World) :
    Calls Tryz.prog 15 #[.string ⟨a.toArray⟩, .string ⟨b.toArray⟩] w fun e w' => e = .returned (.tuple #[.string ⟨(mulRes a b).1.toArray⟩, .int .i64 (mulRes a b).2]) ∧ Below w.heap.size w w' := by
  have hc := hid (two_fn a b ha hb 55 62 #[] #[] 0 (pVal a * pVal b) w (enters_of Tryz.func55 (by kernel_rfl) rfl) (enters_of Tryz.func62 (by kernel_rfl) rfl)
    (fun _ _ w1 v u _ h1 h2 => by
      obtain ⟨n, lg, h1, _⟩ := h1
      obtain ⟨m, lg', h2, _⟩ := h2
      exact neither_fn h1 h2)
    (fun _ _ _ s1 s2 w1 v u _ h1 h2 h3 h4 => (timesN_int h1 h3 (by omega) (by omega)).mono fun e w' h => IntV.fresh h (by
      rw [Int.natAbs_mul]
      have := nlen_sq _ (Nat.mul_lt_mul'' s1 s2)
      omega)))
  go_enter Tryz.func15, Tryz.ntmps15
  go_wp2_with fail
  (with_reducible refine hc.out.mono ?_); rintro e w1 ⟨rfl, hb1⟩
  go_wp2
  go_ret2
  exact ⟨rfl, hb1⟩
theorem can_fn (a : List UInt8) (ha : a.length ≤ 1000000000) (w : World) :
    Calls Tryz.prog 14 #[.string ⟨a.toArray⟩] w fun e w' => e = .returned (.tuple #[.string ⟨(canRes a).1.toArray⟩, .int .i64 (canRes a).2]) ∧ Below w.heap.size w w' := by
  have hc := hid (one_fn a ha 60 61 #[] #[] 0 (pVal a) w w.heap.size (Nat.le_refl _) (enters_of Tryz.func60 (by kernel_rfl) rfl) (enters_of Tryz.func61 (by kernel_rfl) rfl)
    (fun _ w1 v _ h1 => by
      obtain ⟨n, lg, h1, _⟩ := h1
      exact never_fn h1)
    (fun _ _ _ w1 v hb h1 h2 => (canonical1 h1).mono fun e w' h => by
      obtain ⟨u, rfl, h3, h4⟩ := h
      exact ⟨u, rfl, RNum.of_int h3 (by omega), h4.mono hb.size⟩))
  go_enter Tryz.func14, Tryz.ntmps14
  go_wp2_with fail
  (with_reducible refine hc.out.mono ?_); rintro e w1 ⟨rfl, hb1⟩
  go_wp2
  go_ret2
  exact ⟨rfl, hb1⟩
/-- whether a text is a number that is not too long -/
def validRes (a : List UInt8) : Bool := (canRes a).2 == 0
theorem valid_fn (a : List UInt8) (ha : a.length ≤ 1000000000) (w : World) :
    Calls Tryz.prog 18 #[.string ⟨a.toArray⟩] w fun e w' => e = .returned (.bool (validRes a)) ∧ Below w.heap.size w w' := by
  have hc := hid (can_fn a ha w)
  unfold validRes
  generalize canRes a = r at hc ⊢
  obtain ⟨r1, r2⟩ := r
  have hc := hid hc.out
  go_enter Tryz.func18, Tryz.ntmps18
  go_wp2_with fail
  (with_reducible refine hc.out.mono ?_); rintro e w1 ⟨rfl, hb1⟩
  go_wp2
  go_ret
  exact ⟨rfl, hb1⟩
end Go.Proofs.YtkhgoeippamobaaGreatDoor
/-
  The operations: Div, Base.
-/
namespace Go.Proofs.YtkhgoeippamobaaGreatDoor
open Go.RowKit
theorem fmod_abs (a b : Int) (hb : b ≠ 0) : (a.fmod b).natAbs ≤ b.natAbs := by
  obtain ⟨h1, h2⟩ := fdiv_sizes a b hb
  have hlt : a.natAbs % b.natAbs < b.natAbs := Nat.mod_lt _ (by omega)
  by_cases hc : 0 < a.natAbs % b.natAbs ∧ (!(decide (a < 0) == decide (b < 0))) = true
  · rw [(h1 hc.1 hc.2).2]
    have h3 := hc.2
    generalize a.natAbs % b.natAbs = R at *
    by_cases ha : a < 0
    · by_cases hb2 : b < 0
      · rw [decide_eq_true ha, decide_eq_true hb2] at h3; cases h3
      · rw [decide_eq_true ha]; unfold sgnInt; rw [if_pos rfl]; omega
    · by_cases hb2 : b < 0
      · rw [decide_eq_false ha]; unfold sgnInt; rw [if_neg (by decide)]; omega
      · rw [decide_eq_false ha, decide_eq_false hb2] at h3; cases h3
  · rw [(h2 (by
      by_cases h0 : 0 < a.natAbs % b.natAbs
      · right
        cases hh : (!(decide (a < 0) == decide (b < 0)))
        · rfl
        · exact absurd ⟨h0, hh⟩ hc
      · left; omega)).2, sgnInt_abs]
    omega
set_option maxRecDepth 100000 in
set_option maxHeartbeats 2000000 in
theorem div1 {v u : Value} {x y : Int} {w : World} (hv : PNum w v x) (hu : PNum w u y) (pe : Int) (hpe : pe = if y = 0 then 10 else 0) : Calls Tryz.prog 74 #[v, u] w fun e w' => e = .returned (.int .i64 pe) ∧ Below w.heap.size w w' := by
  obtain ⟨n1, l1, ⟨s1, rfl, h1⟩, -⟩ := hv
  obtain ⟨n, lg, hN, e1, e2, -⟩ := hu
  have HPE := hid hpe
  clear hpe
  have hs : sgn n (decide (y < 0)) lg = 0 ↔ y = 0 := by
    have hp := big600_pos
    unfold sgn
    by_cases hy : y < 0
    · rw [decide_eq_true hy]; simp; omega
    · rw [decide_eq_false hy]
      cases lg with
      | false =>
        have h2 := e1 rfl
        by_cases h3 : 0 < n
        · simp [h3]; omega
        · simp [h3]; omega
      | true =>
        have h2 : big600 ≤ y.natAbs := of_decide_eq_true e2.symm
        simp; omega
  have HS := hid hs
  clear hs e1 e2
  have hb0 : ∀ o1 o2 : Obj, Below w.heap.size w ((w.alloc o1).alloc o2) := fun o1 o2 => ((Below.refl _ _).alloc (Nat.le_refl _) _).alloc (by simp) _
  have hc := fun o1 o2 => hid (sign_nat (hN.below (hb0 o1 o2)))
  obtain ⟨a1, c1, rfl⟩ := h1.shape
  obtain ⟨s, rfl, h⟩ := hN
  obtain ⟨a2, c2, rfl⟩ := h.shape
  generalize sgn n (decide (y < 0)) lg = S at *
  have hb1 := hb0 (.cells #[.slice a1 (nlen n1) c1, .bool (decide (x < 0)), .bool l1] 49) (.cells #[.slice a2 (nlen n) c2, .bool (decide (y < 0)), .bool lg] 49)
  clear hb0
  by_cases hS : S = 0
  · have hy := HS.out.1 hS
    have HE := hid (show pe = 10 by rw [HPE.out, if_pos hy])
    subst hS
    clear hy
    go_enter Tryz.func74, Tryz.ntmps74
    go_wp2_with fail
    (with_reducible refine (hc _ _).out.mono ?_); rintro e w1 ⟨rfl, hb2⟩
    go_wp2
    go_ret
    exact ⟨by rw [HE.out]; rfl, hb1.trans (hb2.mono hb1.size)⟩
  · have hy := fun h => hS (HS.out.2 h)
    have HE := hid (show pe = 0 by rw [HPE.out, if_neg hy])
    have hS' : (S == 0) = false := by rw [beq_eq_false_iff_ne]; exact hS
    clear hy
    go_enter Tryz.func74, Tryz.ntmps74
    go_wp2_with fail
    (with_reducible refine (hc _ _).out.mono ?_); rintro e w1 ⟨rfl, hb2⟩
    go_wp2
    go_ret
    exact ⟨by rw [HE.out]; rfl, hb1.trans (hb2.mono hb1.size)⟩
set_option maxRecDepth 100000 in
set_option maxHeartbeats 4000000 in
theorem div2 {v u : Value} {x y : Int} {w : World} (hv : IntV w v x) (hu : IntV w u y) (hx : nlen x.natAbs ≤ 1000) (hy : nlen y.natAbs ≤ 1000) (hy0 : y ≠ 0) : Calls Tryz.prog 75 #[v, u] w fun e w' => ∃ s, e = .returned s ∧ IntV w' s (x.fdiv y) ∧ Below w.heap.size w w' := by
  have hb0 : ∀ o1 o2 o3 : Obj, Below w.heap.size w (((w.alloc o1).alloc o2).alloc o3) := fun o1 o2 o3 => (((Below.refl _ _).alloc (Nat.le_refl _) _).alloc (by simp) _).alloc (by simp; omega) _
  have hc := fun o1 o2 o3 => hid (overN (hv.below (hb0 o1 o2 o3)) (hu.below (hb0 o1 o2 o3)) (by omega) (by omega) hy0)
  obtain ⟨a1, m, c1, sa, rfl⟩ := hv.shape4
  obtain ⟨a2, n, c2, sb, rfl⟩ := hu.shape4
  have k3 := Blk.new ((w.alloc (.cells #[.slice a1 m c1, .bool sa, .bool false] 49)).alloc (.cells #[.slice a2 n c2, .bool sb, .bool false] 49)) #[.slice none 0 0, .bool false, .bool false] 49
  have hbA := hb0 (.cells #[.slice a1 m c1, .bool sa, .bool false] 49) (.cells #[.slice a2 n c2, .bool sb, .bool false] 49) (.cells #[.slice none 0 0, .bool false, .bool false] 49)
  simp only [World.size_alloc] at k3
  go_enter Tryz.func75, Tryz.ntmps75
  go_wp2_with fail
  (with_reducible refine (hc _ _ _).out.mono ?_); rintro e w1 ⟨q, r, rfl, hq, hr, hb1⟩
  have hsz0 := hbA.size
  have hsz3 := k3.lt
  have hz1 := hb1.size
  obtain ⟨qa, qn, qc, qb, rfl⟩ := hq.shape4
  obtain ⟨ra, rn, rc, rb, rfl⟩ := hr.shape4
  have hbB : Below w1.heap.size w1 ((w1.alloc (.cells #[.slice qa qn qc, .bool qb, .bool false] 49)).alloc (.cells #[.slice ra rn rc, .bool rb, .bool false] 49)) := ((Below.refl _ _).alloc (Nat.le_refl _) _).alloc (by simp) _
  have kE := (k3.later hb1).later hbB
  obtain ⟨⟨r1, r2, r3⟩, ⟨s1, s2, s3⟩⟩ := kE.three
  have hqE := (hq.keep hbB).mono (Nat.le_trans (show w.heap.size + 1 + 1 + 1 ≤ _ from hsz3) (Nat.le_refl _))
  have hrE := (hr.keep hbB).mono (Nat.le_trans (show w.heap.size + 1 + 1 + 1 ≤ _ from hsz3) (Nat.le_refl _))
  have hbE := hbA.trans ((hb1.mono hsz0).trans (hbB.mono (Nat.le_trans hsz0 hz1)))
  clear hc hb0 k3
  have hF := hqE.set3 (b := w.heap.size + 1 + 1) (Nat.lt_succ_self _) (.slice qa qn qc) (.bool qb) (.bool false)
  have hbF := ((hbE.setCell (p := ⟨w.heap.size + 1 + 1, 0, none⟩) (by simp; omega) (.slice qa qn qc)).setCell (p := ⟨w.heap.size + 1 + 1, 1, none⟩) (by simp; omega) (.bool qb)).setCell (p := ⟨w.heap.size + 1 + 1, 2, none⟩) (by simp; omega) (.bool false)
  go_wp2
  exact bodyPost_ret (v := .agg #[.slice qa qn qc, .bool qb, .bool false]) (by simp [results, Tryz.results75, go_sem, r1, r2, r3]) rfl ⟨_, rfl, hF.int, hbF⟩
set_option maxRecDepth 100000 in
set_option maxHeartbeats 4000000 in
theorem div3 {v u : Value} {x y : Int} {w : World} (hv : IntV w v x) (hu : IntV w u y) (hx : nlen x.natAbs ≤ 1000) (hy : nlen y.natAbs ≤ 1000) (hy0 : y ≠ 0) : Calls Tryz.prog 77 #[v, u] w fun e w' => ∃ s, e = .returned s ∧ IntV w' s (x.fmod y) ∧ Below w.heap.size w w' := by
  have hb0 : ∀ o1 o2 o3 : Obj, Below w.heap.size w (((w.alloc o1).alloc o2).alloc o3) := fun o1 o2 o3 => (((Below.refl _ _).alloc (Nat.le_refl _) _).alloc (by simp) _).alloc (by simp; omega) _
  have hc := fun o1 o2 o3 => hid (overN (hv.below (hb0 o1 o2 o3)) (hu.below (hb0 o1 o2 o3)) (by omega) (by omega) hy0)
  obtain ⟨a1, m, c1, sa, rfl⟩ := hv.shape4
  obtain ⟨a2, n, c2, sb, rfl⟩ := hu.shape4
  have k3 := Blk.new ((w.alloc (.cells #[.slice a1 m c1, .bool sa, .bool false] 49)).alloc (.cells #[.slice a2 n c2, .bool sb, .bool false] 49)) #[.slice none 0 0, .bool false, .bool false] 49
  have hbA := hb0 (.cells #[.slice a1 m c1, .bool sa, .bool false] 49) (.cells #[.slice a2 n c2, .bool sb, .bool false] 49) (.cells #[.slice none 0 0, .bool false, .bool false] 49)
  simp only [World.size_alloc] at k3
  go_enter Tryz.func77, Tryz.ntmps77
  go_wp2_with fail
  (with_reducible refine (hc _ _ _).out.mono ?_); rintro e w1 ⟨q, r, rfl, hq, hr, hb1⟩
  have hsz0 := hbA.size
  have hsz3 := k3.lt
  have hz1 := hb1.size
  obtain ⟨qa, qn, qc, qb, rfl⟩ := hq.shape4
  obtain ⟨ra, rn, rc, rb, rfl⟩ := hr.shape4
  have hbB : Below w1.heap.size w1 ((w1.alloc (.cells #[.slice qa qn qc, .bool qb, .bool false] 49)).alloc (.cells #[.slice ra rn rc, .bool rb, .bool false] 49)) := ((Below.refl _ _).alloc (Nat.le_refl _) _).alloc (by simp) _
  have kE := (k3.later hb1).later hbB
  obtain ⟨⟨r1, r2, r3⟩, ⟨s1, s2, s3⟩⟩ := kE.three
  have hqE := (hq.keep hbB).mono (Nat.le_trans (show w.heap.size + 1 + 1 + 1 ≤ _ from hsz3) (Nat.le_refl _))
  have hrE := (hr.keep hbB).mono (Nat.le_trans (show w.heap.size + 1 + 1 + 1 ≤ _ from hsz3) (Nat.le_refl _))
  have hbE := hbA.trans ((hb1.mono hsz0).trans (hbB.mono (Nat.le_trans hsz0 hz1)))
  clear hc hb0 k3
  have hF := hrE.set3 (b := w.heap.size + 1 + 1) (Nat.lt_succ_self _) (.slice ra rn rc) (.bool rb) (.bool false)
  have hbF := ((hbE.setCell (p := ⟨w.heap.size + 1 + 1, 0, none⟩) (by simp; omega) (.slice ra rn rc)).setCell (p := ⟨w.heap.size + 1 + 1, 1, none⟩) (by simp; omega) (.bool rb)).setCell (p := ⟨w.heap.size + 1 + 1, 2, none⟩) (by simp; omega) (.bool false)
  go_wp2
  exact bodyPost_ret (v := .agg #[.slice ra rn rc, .bool rb, .bool false]) (by simp [results, Tryz.results77, go_sem, r1, r2, r3]) rfl ⟨_, rfl, hF.int, hbF⟩
/-- Div's error that comes first -/
def divPe (b : List UInt8) : Int := if pVal b = 0 then 10 else 0
def quoRes (a b : List UInt8) : List UInt8 × Int := twoRes a b (divPe b) ((pVal a).fdiv (pVal b))
def remRes (a b : List UInt8) : List UInt8 × Int := twoRes a b (divPe b) ((pVal a).fmod (pVal b))
/-- what 'Div' answers -/
def divVal (a b : List UInt8) : Value := if (quoRes a b).2 = 0 then .tuple #[.string ⟨(quoRes a b).1.toArray⟩, .string ⟨(remRes a b).1.toArray⟩, .int .i64 (remRes a b).2] else .tuple #[.string ⟨#[]⟩, .string ⟨#[]⟩, .int .i64 (quoRes a b).2]
set_option maxRecDepth 100000 in
set_option maxHeartbeats 2000000 in
theorem div_fn (a b : List UInt8) (ha : a.length ≤ 1000000000) (hb : b.length ≤ 1000000000) (w : World) :
    Calls Tryz.prog 25 #[.string ⟨a.toArray⟩, .string ⟨b.toArray⟩] w fun e w' => e = .returned (divVal a b) ∧ Below w.heap.size w w' := by
  have hne : divPe b = 0 → pVal b ≠ 0 := fun h h0 => by unfold divPe at h; rw [if_pos h0] at h; cases h
  have hq := fun w => hid (two_fn a b ha hb 74 75 #[] #[] (divPe b) ((pVal a).fdiv (pVal b)) w (enters_of Tryz.func74 (by kernel_rfl) rfl) (enters_of Tryz.func75 (by kernel_rfl) rfl)
    (fun _ _ w1 v u _ h1 h2 => div1 h1 h2 _ rfl)
    (fun _ _ h0 s1 s2 w1 v u _ h1 h2 h3 h4 => (div2 h1 h3 h2 h4 (hne h0)).mono fun e w' h => by
      obtain ⟨s, rfl, hs, hb⟩ := h
      refine ⟨s, rfl, RNum.of_int hs ?_, hb⟩
      have := nlen_mono (Int.natAbs_fdiv_le_natAbs (pVal a) (pVal b))
      omega))
  have hr := fun w => hid (two_fn a b ha hb 74 77 #[] #[] (divPe b) ((pVal a).fmod (pVal b)) w (enters_of Tryz.func74 (by kernel_rfl) rfl) (enters_of Tryz.func77 (by kernel_rfl) rfl)
    (fun _ _ w1 v u _ h1 h2 => div1 h1 h2 _ rfl)
    (fun _ _ h0 s1 s2 w1 v u _ h1 h2 h3 h4 => (div3 h1 h3 h2 h4 (hne h0)).mono fun e w' h => by
      obtain ⟨s, rfl, hs, hb⟩ := h
      refine ⟨s, rfl, RNum.of_int hs ?_, hb⟩
      have := nlen_mono (fmod_abs (pVal a) (pVal b) (hne h0))
      omega))
  have hQ : ∀ w, Hid (Calls Tryz.prog 54 #[.string ⟨a.toArray⟩, .string ⟨b.toArray⟩, .func (.func 74) #[] #[], .func (.func 75) #[] #[]] w fun e w' => e = .returned (.tuple #[.string ⟨(quoRes a b).1.toArray⟩, .int .i64 (quoRes a b).2]) ∧ Below w.heap.size w w') := hq
  have hR : ∀ w, Hid (Calls Tryz.prog 54 #[.string ⟨a.toArray⟩, .string ⟨b.toArray⟩, .func (.func 74) #[] #[], .func (.func 77) #[] #[]] w fun e w' => e = .returned (.tuple #[.string ⟨(remRes a b).1.toArray⟩, .int .i64 (remRes a b).2]) ∧ Below w.heap.size w w') := hr
  have HV := hid (show divVal a b = if (quoRes a b).2 = 0 then .tuple #[.string ⟨(quoRes a b).1.toArray⟩, .string ⟨(remRes a b).1.toArray⟩, .int .i64 (remRes a b).2] else .tuple #[.string ⟨#[]⟩, .string ⟨#[]⟩, .int .i64 (quoRes a b).2] from rfl)
  clear hq hr hne
  generalize divVal a b = V at *
  generalize quoRes a b = q at *
  generalize remRes a b = r at *
  obtain ⟨q1, q2⟩ := q
  obtain ⟨r1, r2⟩ := r
  have HQ := fun w => hid (hQ w).out
  have HR := fun w => hid (hR w).out
  clear hQ hR
  by_cases h0 : q2 = 0
  · subst h0
    go_enter Tryz.func25, Tryz.ntmps25
    go_wp2_with fail
    (with_reducible refine (HQ _).out.mono ?_); rintro e w1 ⟨rfl, hb1⟩
    go_wp2_with fail
    (with_reducible refine (HR _).out.mono ?_); rintro e w2 ⟨rfl, hb2⟩
    go_wp2
    refine bodyPost_ret (v := .tuple #[.string ⟨q1.toArray⟩, .string ⟨r1.toArray⟩, .int .i64 r2]) (by simp [results, Tryz.results25, go_sem]) rfl ⟨by rw [HV.out]; rfl, hb1.trans (hb2.mono hb1.size)⟩
  · have hq0 : (q2 == 0) = false := by rw [beq_eq_false_iff_ne]; exact h0
    have HV2 := hid (show V = .tuple #[.string ⟨#[]⟩, .string ⟨#[]⟩, .int .i64 q2] by rw [HV.out, if_neg h0])
    go_enter Tryz.func25, Tryz.ntmps25
    go_wp2_with fail
    (with_reducible refine (HQ _).out.mono ?_); rintro e w1 ⟨rfl, hb1⟩
    go_wp2
    refine bodyPost_ret (v := .tuple #[.string ⟨#[]⟩, .string ⟨#[]⟩, .int .i64 q2]) (by simp [results, Tryz.results25, go_sem]) rfl ⟨by rw [HV2.out], hb1⟩
end Go.Proofs.YtkhgoeippamobaaGreatDoor
/-
  The operation Base.
-/
namespace Go.Proofs.YtkhgoeippamobaaGreatDoor
open Go.RowKit
theorem far_fn (B : Int) (w : World) : Calls Tryz.prog 122 #[.int .i64 B] w fun e w' => e = .returned (.bool (decide (B < 2) || decide (36 < B))) ∧ w' = w := by
  by_cases h1 : B < 2
  · have HE := hid (show (decide (B < 2) || decide (36 < B)) = true by rw [decide_eq_true h1]; rfl)
    go_enter Tryz.func122, Tryz.ntmps122
    go_wp2
    go_ret
    exact ⟨by rw [HE.out]; rfl, rfl⟩
  · have HE := hid (show (decide (B < 2) || decide (36 < B)) = decide (36 < B) by rw [decide_eq_false h1]; rfl)
    go_enter Tryz.func122, Tryz.ntmps122
    go_wp2
    go_ret
    exact ⟨by rw [HE.out]; rfl, rfl⟩
/-- what 'Base' answers -/
def baseRes (a : List UInt8) (B : Int) : List UInt8 × Int :=
  if pOK a = true then if B < 2 ∨ 36 < B then ([], 7) else if big600 ≤ (pVal a).natAbs then ([], 4) else (numText B.toNat (pVal a).natAbs (decide (pVal a < 0)), 0) else ([], 2)
set_option maxRecDepth 100000 in
set_option maxHeartbeats 2000000 in
theorem base_fn (a : List UInt8) (ha : a.length ≤ 1000000000) (B : Int) (w : World) :
    Calls Tryz.prog 53 #[.string ⟨a.toArray⟩, .int .i64 B] w fun e w' => e = .returned (.tuple #[.string ⟨(baseRes a B).1.toArray⟩, .int .i64 (baseRes a B).2]) ∧ Below w.heap.size w w' := by
  have hc := hid (parse_fn a ha w)
  have hf := fun w => hid (far_fn B w)
  unfold ParseP at hc
  cases hok : pOK a with
  | false =>
    have HR := hid (show baseRes a B = ([], 2) by unfold baseRes; rw [hok]; rfl)
    rw [hok] at hc
    clear hok
    go_enter Tryz.func53, Tryz.ntmps53
    go_wp2_with fail
    (with_reducible refine hc.out.mono ?_); rintro e w1 ⟨v, rfl, hb1, hv, x1, x2, x3, g, h, rfl⟩
    go_wp2
    go_ret2
    exact ⟨by rw [HR.out]; rfl, hb1.alloc hb1.size _⟩
  | true =>
    have HR := hid (show baseRes a B = if B < 2 ∨ 36 < B then ([], 7) else if big600 ≤ (pVal a).natAbs then ([], 4) else (numText B.toNat (pVal a).natAbs (decide (pVal a < 0)), 0) by unfold baseRes; rw [if_pos hok])
    rw [hok] at hc
    clear hok
    by_cases hfar : B < 2 ∨ 36 < B
    · have HR2 := hid (show baseRes a B = ([], 7) by rw [HR.out, if_pos hfar])
      have hfb : (decide (B < 2) || decide (36 < B)) = true := by simpa using hfar
      rw [hfb] at hf
      clear hfar hfb
      go_enter Tryz.func53, Tryz.ntmps53
      go_wp2_with fail
      (with_reducible refine hc.out.mono ?_); rintro e w1 ⟨v, rfl, hb1, hv, x1, x2, x3, g, h, rfl⟩
      go_wp2_with fail
      (with_reducible refine (hf _).out.mono ?_); rintro e w' ⟨rfl, rfl⟩
      go_wp2
      go_ret2
      exact ⟨by rw [HR2.out]; rfl, hb1.alloc hb1.size _⟩
    · have hfb : (decide (B < 2) || decide (36 < B)) = false := by simpa using hfar
      rw [hfb] at hf
      have HR2 := hid (show baseRes a B = if big600 ≤ (pVal a).natAbs then ([], 4) else (numText B.toNat (pVal a).natAbs (decide (pVal a < 0)), 0) by rw [HR.out, if_neg hfar])
      have hB2 : 2 ≤ B.toNat := by omega
      have hB36 : B.toNat ≤ 36 := by omega
      have hBB : (B.toNat : Int) = B := by omega
      clear hfar hfb
      go_enter Tryz.func53, Tryz.ntmps53
      go_wp2_with fail
      (with_reducible refine hc.out.mono ?_); rintro e w1 ⟨v, rfl, hb1, hv, x1, x2, x3, g, h, rfl⟩
      have hv' := (hv (by first | rfl | trivial)).num
      obtain ⟨a0, n0, c0, he⟩ := (hv (by first | rfl | trivial)).shape
      simp only [Value.agg.injEq, Array.mk.injEq, List.cons.injEq, Value.slice.injEq, Value.bool.injEq, and_true] at he
      obtain ⟨-, hg, hh⟩ := he
      have HH := hid hh
      clear hv a0 n0 c0 hg hh
      have hbA : Below w.heap.size w (w1.alloc (.cells #[.slice x1 x2 x3, .bool g, .bool h] 49)) := hb1.alloc hb1.size _
      have hvA := hv'.below ((Below.refl _ w1).alloc (Nat.le_refl _) (.cells #[.slice x1 x2 x3, .bool g, .bool h] 49))
      go_wp2_with fail
      (with_reducible refine (hf _).out.mono ?_); rintro e w' ⟨rfl, rfl⟩
      cases h with
      | true =>
        have hbig : big600 ≤ (pVal a).natAbs := of_decide_eq_true HH.out.symm
        have HR3 := hid (show baseRes a B = ([], 4) by rw [HR2.out, if_pos hbig])
        clear hbig
        go_wp2
        go_ret2
        exact ⟨by rw [HR3.out]; rfl, hbA⟩
      | false =>
        have hsm : ¬ big600 ≤ (pVal a).natAbs := of_decide_eq_false HH.out.symm
        have HR3 := hid (show baseRes a B = (numText B.toNat (pVal a).natAbs (decide (pVal a < 0)), 0) by rw [HR2.out, if_neg hsm])
        obtain ⟨hI, hn⟩ := hvA.int (by omega)
        have ht := text_num hI (by omega) B.toNat hB2 hB36
        rw [hBB] at ht
        have ht := hid ht
        clear hsm
        go_wp2_with fail
        (with_reducible refine ht.out.mono ?_); rintro e w2 ⟨rfl, hb2⟩
        go_wp2
        go_ret2
        exact ⟨by rw [HR3.out]; rfl, hbA.trans (hb2.mono hbA.size)⟩
end Go.Proofs.YtkhgoeippamobaaGreatDoor
/-
  The reference: texts.
-/
namespace Go.Proofs.YtkhgoeippamobaaGreatDoor
open Go.RowKit
theorem within_fn (n lo hi : Int) (w : World) : Calls Tryz.prog 163 #[.int .i64 n, .int .i64 lo, .int .i64 hi] w fun e w' => e = .returned (.bool (decide (lo ≤ n) && decide (n ≤ hi))) ∧ w' = w := by
  by_cases h1 : lo ≤ n
  · have HE := hid (show (decide (lo ≤ n) && decide (n ≤ hi)) = decide (n ≤ hi) by rw [decide_eq_true h1]; rfl)
    go_enter Tryz.func163, Tryz.ntmps163
    go_wp2
    go_ret
    exact ⟨by rw [HE.out]; rfl, rfl⟩
  · have HE := hid (show (decide (lo ≤ n) && decide (n ≤ hi)) = false by rw [decide_eq_false h1]; rfl)
    go_enter Tryz.func163, Tryz.ntmps163
    go_wp2
    go_ret
    exact ⟨by rw [HE.out]; rfl, rfl⟩
/-- a letter made small -/
def smallN (x : Nat) : Nat := if 65 ≤ x ∧ x ≤ 90 then x + 32 else x
theorem small_fn (x : Nat) (hx : x < 256) (w : World) : Calls Tryz.prog 164 #[.int .u8 x] w fun e w' => e = .returned (.int .u8 (smallN x)) ∧ w' = w := by
  have hc := hid (within_fn x 65 90 w)
  by_cases h : 65 ≤ x ∧ x ≤ 90
  · have HE := hid (show smallN x = x + 32 by unfold smallN; rw [if_pos h])
    have hb : (decide ((65 : Int) ≤ (x : Int)) && decide ((x : Int) ≤ 90)) = true := by
      rw [decide_eq_true (by omega), decide_eq_true (by omega)]; rfl
    rw [hb] at hc
    have hc := hid hc.out
    obtain ⟨g1, g2⟩ := h
    go_enter Tryz.func164, Tryz.ntmps164
    go_wp2_with fail
    (with_reducible refine hc.out.mono ?_); rintro e w' ⟨rfl, rfl⟩
    go_wp2
    go_ret
    exact ⟨by rw [HE.out]; rfl, rfl⟩
  · have HE := hid (show smallN x = x by unfold smallN; rw [if_neg h])
    have hb : (decide ((65 : Int) ≤ (x : Int)) && decide ((x : Int) ≤ 90)) = false := by
      by_cases h1 : 65 ≤ x
      · rw [decide_eq_false (show ¬ (x : Int) ≤ 90 by omega), Bool.and_false]
      · rw [decide_eq_false (show ¬ (65 : Int) ≤ (x : Int) by omega), Bool.false_and]
    rw [hb] at hc
    have hc := hid hc.out
    clear h
    go_enter Tryz.func164, Tryz.ntmps164
    go_wp2_with fail
    (with_reducible refine hc.out.mono ?_); rintro e w' ⟨rfl, rfl⟩
    go_wp2
    go_ret
    exact ⟨by rw [HE.out]; rfl, rfl⟩
/-- a digit's value to a base, or -1 -/
def digR (c : UInt8) (b : Nat) : Int := if valOf c < b then (valOf c : Int) else -1
theorem digit_fn (c : UInt8) (b : Nat) (hb : b ≤ 36) (hb2 : 2 ≤ b) (w : World) : Calls Tryz.prog 154 #[.int .u8 c.toNat, .int .i64 b] w fun e w' => e = .returned (.int .i64 (digR c b)) ∧ w' = w := by
  have hw : valOf c = if 48 ≤ c.toNat ∧ c.toNat ≤ 57 then c.toNat - 48
    else if 97 ≤ c.toNat ∧ c.toNat ≤ 122 then c.toNat - 97 + 10
    else if 65 ≤ c.toNat ∧ c.toNat ≤ 90 then c.toNat - 65 + 10
    else 36 := rfl
  have hd : digR c b = if valOf c < b then (valOf c : Int) else -1 := rfl
  have hl : c.toNat < 256 := c.toNat_lt
  generalize digR c b = R at hd ⊢
  generalize valOf c = V at hw hd
  generalize c.toNat = x at hl hw ⊢
  have hc1 := hid (within_fn x 48 57 w)
  have hsm := hid (small_fn x hl w)
  have hc2 := hid (within_fn (smallN x) 97 122 w)
  have hsl : smallN x = if 65 ≤ x ∧ x ≤ 90 then x + 32 else x := rfl
  generalize smallN x = y at hsm hc2 hsl
  have hy : y < 256 := by rw [hsl]; split <;> omega
  by_cases h1 : 48 ≤ x ∧ x ≤ 57
  · have hb1 : (decide ((48 : Int) ≤ (x : Int)) && decide ((x : Int) ≤ 57)) = true := by
      rw [decide_eq_true (by omega), decide_eq_true (by omega)]; rfl
    rw [hb1] at hc1
    have hc1 := hid hc1.out
    rw [if_pos h1] at hw
    obtain ⟨g1, g2⟩ := h1
    clear hc2 hsm hsl hy
    by_cases hlt : V < b
    · have HE := hid (show R = (x : Int) - 48 by rw [hd, if_pos hlt]; omega)
      have hlt' : (x : Int) - 48 < (b : Int) := by omega
      clear hd hw
      go_enter Tryz.func154, Tryz.ntmps154
      go_wp2_with fail
      (with_reducible refine hc1.out.mono ?_); rintro e w' ⟨rfl, rfl⟩
      go_wp2
      go_ret
      exact ⟨by rw [HE.out]; rfl, rfl⟩
    · have HE := hid (show R = -1 by rw [hd, if_neg hlt])
      have hlt' : ¬ (x : Int) - 48 < (b : Int) := by omega
      clear hd hw
      go_enter Tryz.func154, Tryz.ntmps154
      go_wp2_with fail
      (with_reducible refine hc1.out.mono ?_); rintro e w' ⟨rfl, rfl⟩
      go_wp2
      go_ret
      exact ⟨by rw [HE.out]; rfl, rfl⟩
  · have hb1 : (decide ((48 : Int) ≤ (x : Int)) && decide ((x : Int) ≤ 57)) = false := by
      by_cases h2 : 48 ≤ x
      · rw [decide_eq_false (show ¬ (x : Int) ≤ 57 by omega), Bool.and_false]
      · rw [decide_eq_false (show ¬ (48 : Int) ≤ (x : Int) by omega), Bool.false_and]
    rw [hb1] at hc1
    have hc1 := hid hc1.out
    rw [if_neg h1] at hw
    by_cases h2 : 97 ≤ y ∧ y ≤ 122
    · have hb2 : (decide ((97 : Int) ≤ (y : Int)) && decide ((y : Int) ≤ 122)) = true := by
        rw [decide_eq_true (by omega), decide_eq_true (by omega)]; rfl
      rw [hb2] at hc2
      have hc2 := hid hc2.out
      have hV : V = y - 97 + 10 := by
        rw [hw]
        by_cases h3 : 65 ≤ x ∧ x ≤ 90
        · rw [if_pos h3] at hsl; rw [if_neg (by omega), if_pos h3]; omega
        · rw [if_neg h3] at hsl; rw [hsl] at h2; rw [if_pos h2]; omega
      obtain ⟨g1, g2⟩ := h2
      clear h1 hsl hw
      by_cases hlt : V < b
      · have HE := hid (show R = (y : Int) - 97 + 10 by rw [hd, if_pos hlt]; omega)
        have hlt' : (y : Int) - 97 + 10 < (b : Int) := by omega
        clear hd hV
        go_enter Tryz.func154, Tryz.ntmps154
        go_wp2_with fail
        (with_reducible refine hc1.out.mono ?_); rintro e w' ⟨rfl, rfl⟩
        go_wp2_with fail
        (with_reducible refine hsm.out.mono ?_); rintro e w' ⟨rfl, rfl⟩
        go_wp2_with fail
        (with_reducible refine hc2.out.mono ?_); rintro e w' ⟨rfl, rfl⟩
        go_wp2_with fail
        (with_reducible refine hsm.out.mono ?_); rintro e w' ⟨rfl, rfl⟩
        go_wp2
        go_ret
        exact ⟨by rw [HE.out]; rfl, rfl⟩
      · have HE := hid (show R = -1 by rw [hd, if_neg hlt])
        have hlt' : ¬ (y : Int) - 97 + 10 < (b : Int) := by omega
        clear hd hV
        go_enter Tryz.func154, Tryz.ntmps154
        go_wp2_with fail
        (with_reducible refine hc1.out.mono ?_); rintro e w' ⟨rfl, rfl⟩
        go_wp2_with fail
        (with_reducible refine hsm.out.mono ?_); rintro e w' ⟨rfl, rfl⟩
        go_wp2_with fail
        (with_reducible refine hc2.out.mono ?_); rintro e w' ⟨rfl, rfl⟩
        go_wp2_with fail
        (with_reducible refine hsm.out.mono ?_); rintro e w' ⟨rfl, rfl⟩
        go_wp2
        go_ret
        exact ⟨by rw [HE.out]; rfl, rfl⟩
    · have hb2 : (decide ((97 : Int) ≤ (y : Int)) && decide ((y : Int) ≤ 122)) = false := by
        by_cases h3 : 97 ≤ y
        · rw [decide_eq_false (show ¬ (y : Int) ≤ 122 by omega), Bool.and_false]
        · rw [decide_eq_false (show ¬ (97 : Int) ≤ (y : Int) by omega), Bool.false_and]
      rw [hb2] at hc2
      have hc2 := hid hc2.out
      have hV : V = 36 := by
        rw [hw]
        by_cases h3 : 65 ≤ x ∧ x ≤ 90
        · rw [if_pos h3] at hsl; omega
        · rw [if_neg h3] at hsl; rw [hsl] at h2; rw [if_neg h2, if_neg h3]
      have HE := hid (show R = -1 by rw [hd, if_neg (by omega)])
      clear h1 hsl hw h2 hd hV
      go_enter Tryz.func154, Tryz.ntmps154
      go_wp2_with fail
      (with_reducible refine hc1.out.mono ?_); rintro e w' ⟨rfl, rfl⟩
      go_wp2_with fail
      (with_reducible refine hsm.out.mono ?_); rintro e w' ⟨rfl, rfl⟩
      go_wp2_with fail
      (with_reducible refine hc2.out.mono ?_); rintro e w' ⟨rfl, rfl⟩
      go_wp2
      go_ret
      exact ⟨by rw [HE.out]; rfl, rfl⟩
theorem digitR_fn (c : UInt8) (b : Nat) (hb : b ≤ 36) (hb2 : 2 ≤ b) (w : World) : Calls Tryz.prog 144 #[.int .u8 c.toNat, .int .i64 b] w fun e w' => e = .returned (.int .i64 (digR c b)) ∧ w' = w := by
  have hc := hid (digit_fn c b hb hb2 w)
  go_enter Tryz.func144, Tryz.ntmps144
  go_wp2_with fail
  (with_reducible refine hc.out.mono ?_); rintro e w' ⟨rfl, rfl⟩
  go_wp2
  go_ret
  exact ⟨rfl, rfl⟩
theorem has_fn (l : List UInt8) (hl : l.length ≤ 1000000000) (c : UInt8) (w : World) : Calls Tryz.prog 153 #[.string ⟨l.toArray⟩, .int .u8 c.toNat] w fun e w' => e = .returned (.bool (l.contains c)) ∧ w' = w := by
  have hsz : (⟨l.toArray⟩ : ByteArray).size = l.length := Lib.size_mk _
  generalize hR : l.contains c = R
  have HR := hid hR
  clear hR
  go_enter Tryz.func153, Tryz.ntmps153
  go_wp2
  go_loop [8] (fun iv => ∃ i : Nat, iv = .int .i64 i ∧ i ≤ l.length ∧ (l.take i).contains c = false) (fun iv => l.length - (intOf iv).toNat)
  case atStart => exact ⟨0, rfl, Nat.zero_le _, rfl⟩
  case round =>
    obtain ⟨i, rfl, hi, hn⟩ := hrel
    have HN := hid hn
    clear hn
    by_cases hlt : i < l.length
    · have hx : ∀ h, (⟨l.toArray⟩ : ByteArray)[i]'h = l[i]'hlt := fun h => rfl
      by_cases hc : l[i]'hlt = c
      · have hE : (((l[i]'hlt).toNat : Nat) : Int) = ((c.toNat : Nat) : Int) := by rw [hc]
        have HC := hid (show R = true by rw [← HR.out, List.contains_iff_mem]; rw [← hc]; exact List.getElem_mem hlt)
        go_wp2
        go_ret
        exact ⟨by rw [HC.out]; rfl, rfl⟩
      · have hne : ((((l[i]'hlt).toNat : Nat) : Int) == ((c.toNat : Nat) : Int)) = false := by
          have : (l[i]'hlt).toNat ≠ c.toNat := fun e => hc (UInt8.toNat_inj.1 e)
          rw [beq_eq_false_iff_ne]; omega
        go_wp2
        refine ⟨⟨i + 1, by go_num, by omega, ?_⟩, ?_⟩
        · rw [List.take_add_one, List.getElem?_eq_getElem hlt]
          have h1 := HN.out
          rw [List.contains_eq_mem, decide_eq_false_iff_not] at h1 ⊢
          intro hm
          rcases List.mem_append.1 hm with h | h
          · exact h1 h
          · exact hc (List.mem_singleton.1 h).symm
        · simp [intOf] <;> omega
    · obtain rfl : i = l.length := by omega
      have HC := hid (show R = false by have := HN.out; rw [List.take_length] at this; rw [← HR.out]; exact this)
      go_wp2
      go_ret
      exact ⟨by rw [HC.out]; rfl, rfl⟩
theorem white_has (c : UInt8) : ([9, 10, 11, 12, 13, 32] : List UInt8).contains c = isWh c := by
  have key : ∀ k : UInt8, (c = k) ↔ c.toNat = k.toNat := fun k => ⟨fun h => by rw [h], fun h => UInt8.toNat_inj.1 h⟩
  unfold isWh
  rw [List.contains_eq_mem, Bool.eq_iff_iff]
  simp only [decide_eq_true_eq, Bool.or_eq_true, Bool.and_eq_true, List.mem_cons, List.not_mem_nil, or_false, key]
  have e1 : (9 : UInt8).toNat = 9 := rfl
  have e2 : (10 : UInt8).toNat = 10 := rfl
  have e3 : (11 : UInt8).toNat = 11 := rfl
  have e4 : (12 : UInt8).toNat = 12 := rfl
  have e5 : (13 : UInt8).toNat = 13 := rfl
  have e6 : (32 : UInt8).toNat = 32 := rfl
  omega
theorem has_white (c : UInt8) (w : World) : Calls Tryz.prog 153 #[.string ⟨#[9, 10, 11, 12, 13, 32]⟩, .int .u8 c.toNat] w fun e w' => e = .returned (.bool (isWh c)) ∧ w' = w := by
  have h := has_fn [9, 10, 11, 12, 13, 32] (by decide) c w
  rw [white_has] at h
  exact h
end Go.Proofs.YtkhgoeippamobaaGreatDoor
/-
  The reference: Strip.
-/
namespace Go.Proofs.YtkhgoeippamobaaGreatDoor
open Go.RowKit
set_option maxRecDepth 100000 in
set_option maxHeartbeats 4000000 in
theorem trim_fn (l : List UInt8) (hl : l.length ≤ 1000000000) (w : World) :
    Calls Tryz.prog 143 #[.string ⟨l.toArray⟩, .string ⟨#[9, 10, 11, 12, 13, 32]⟩, .bool true, .bool true] w fun e w' => e = .returned (.string ⟨(strip l).toArray⟩) ∧ w' = w := by
  go_enter Tryz.func143, Tryz.ntmps143
  go_upto_block 0 with fail
  go_cut [0] from 9 to 21 (fun v wx => v = .string ⟨(l.dropWhile isWh).toArray⟩ ∧ w = wx)
  case first =>
    go_wp2_with fail
    go_loop [0] (fun v => ∃ t : List UInt8, t.length ≤ 1000000000 ∧ v = .string ⟨t.toArray⟩ ∧ t.dropWhile isWh = l.dropWhile isWh) (fun v => Lib.strSize v)
    case atStart => exact ⟨l, hl, rfl, rfl⟩
    case round =>
      obtain ⟨t, ht, rfl, he⟩ := hrel
      have hE := hid he
      clear he
      cases t with
      | cons x t =>
        have h1 : (⟨(x :: t).toArray⟩ : ByteArray).size = t.length + 1 := by rw [Lib.size_mk]; simp
        have h2 : (⟨(x :: t).toArray⟩ : ByteArray).extract 1 (t.length + 1) = ⟨t.toArray⟩ := by
          rw [Lib.extract_mk]; simp
        have hx : ∀ h, (⟨(x :: t).toArray⟩ : ByteArray)[0]'h = x := fun h => rfl
        have hne : (x :: t == ([] : List UInt8)) = false := rfl
        have hl' : t.length ≤ 999999999 := by simpa using ht
        have hc := hid (has_white x w)
        clear ht
        go_wp2_with fail
        (with_reducible refine hc.out.mono ?_); rintro e w' ⟨rfl, rfl⟩
        cases hw : isWh x
        · have hd : (x :: t).dropWhile isWh = x :: t := by rw [List.dropWhile_cons, hw]; rfl
          go_wp2
          go_meet
          case rel => exact ⟨by rw [← hE.out, hd], rfl⟩
        · have hd : (x :: t).dropWhile isWh = t.dropWhile isWh := by rw [List.dropWhile_cons, hw]; rfl
          go_wp2
          refine ⟨⟨t, by omega, rfl, by rw [← hE.out, hd]⟩, ?_⟩
          rw [Lib.strSize_string, Lib.strSize_string, h1, Lib.size_mk]
          omega
      | nil =>
        have h1 : (⟨([] : List UInt8).toArray⟩ : ByteArray).size = 0 := rfl
        go_wp2
        go_meet
        case rel => exact ⟨by rw [← hE.out]; rfl, rfl⟩
  case rest =>
    obtain ⟨rfl, rfl⟩ := hcut
    have hL : (l.dropWhile isWh).length ≤ 1000000000 := Nat.le_trans (List.dropWhile_sublist _).length_le hl
    go_upto_block 2 with fail
    go_cut [0] from 22 to 40 (fun v wx => v = .string ⟨(strip l).toArray⟩ ∧ w = wx)
    case first =>
      go_wp2_with fail
      go_loop [0] (fun v => ∃ t : List UInt8, t.length ≤ 1000000000 ∧ v = .string ⟨t.toArray⟩ ∧ (t.reverse.dropWhile isWh).reverse = strip l) (fun v => Lib.strSize v)
      case atStart => exact ⟨_, hL, rfl, rfl⟩
      case round =>
        obtain ⟨t, ht, rfl, he⟩ := hrel
        have hE := hid he
        clear he
        rcases nil_or_snoc t with rfl | ⟨t, x, rfl⟩
        · have h1 : (⟨([] : List UInt8).toArray⟩ : ByteArray).size = 0 := rfl
          go_wp2
          go_meet
          case rel => exact ⟨by rw [← hE.out]; rfl, rfl⟩
        · have hre : (t ++ [x]).reverse = x :: t.reverse := by simp
          rw [hre] at hE
          have hE := hid hE.out
          clear hre
          have h1 : (⟨(t ++ [x]).toArray⟩ : ByteArray).size = t.length + 1 := by rw [Lib.size_mk]; simp
          have h2 : (⟨(t ++ [x]).toArray⟩ : ByteArray).extract 0 t.length = ⟨t.toArray⟩ := by
            rw [Lib.extract_mk]; simp
          have hx : ∀ h, (⟨(t ++ [x]).toArray⟩ : ByteArray)[t.length]'h = x := by
            intro h
            show (t ++ [x])[t.length] = x
            simp
          have hne : ((t ++ [x]) == ([] : List UInt8)) = false := by cases t <;> rfl
          have hl' : t.length ≤ 999999999 := by simpa using ht
          have hc := hid (has_white x w)
          clear ht
          generalize hT : t ++ [x] = T at *
          have HT := hid hT
          clear hT
          go_wp2_with fail
          (with_reducible refine hc.out.mono ?_); rintro e w' ⟨rfl, rfl⟩
          cases hw : isWh x
          · have hd : (x :: t.reverse).dropWhile isWh = x :: t.reverse := by rw [List.dropWhile_cons, hw]; rfl
            go_wp2
            go_meet
            case rel => exact ⟨by rw [← hE.out, hd]; simp [HT.out], rfl⟩
          · have hd : (x :: t.reverse).dropWhile isWh = t.reverse.dropWhile isWh := by rw [List.dropWhile_cons, hw]; rfl
            go_wp2
            refine ⟨⟨t, by omega, rfl, by rw [← hE.out, hd]⟩, ?_⟩
            rw [Lib.strSize_string, Lib.strSize_string, h1, Lib.size_mk]
            omega
    case rest =>
      obtain ⟨rfl, rfl⟩ := hcut
      go_wp2
      go_ret
      exact ⟨rfl, rfl⟩
theorem strip_fn (l : List UInt8) (hl : l.length ≤ 1000000000) (w : World) :
    Calls Tryz.prog 125 #[.string ⟨l.toArray⟩] w fun e w' => e = .returned (.string ⟨(strip l).toArray⟩) ∧ w' = w := by
  have hc := hid (trim_fn l hl w)
  go_enter Tryz.func125, Tryz.ntmps125
  go_wp2_with fail
  (with_reducible refine hc.out.mono ?_); rintro e w' ⟨rfl, rfl⟩
  go_wp2
  go_ret
  exact ⟨rfl, rfl⟩
end Go.Proofs.YtkhgoeippamobaaGreatDoor
/-
  The reference: decimal digits.
-/
namespace Go.Proofs.YtkhgoeippamobaaGreatDoor
open Go.RowKit
theorem Tryz.infoInt : (Tryz.prog.info? 3).map (fun i => (i.zero, i.size, i.bytes)) = some (some (.int .i64 0), 1, 8) := by kernel_rfl
/-- a number as the reference's nat: its decimal digits -/
def DecRep (w : World) (v : Value) (n : Nat) : Prop := Row .i64 w v (dlen 10 n) (dgt 10 n)
def OwnDec (w : World) (base : Nat) (v : Value) (n : Nat) : Prop := Own .i64 3 w base v (dlen 10 n) (dgt 10 n)
theorem DecRep.below {w w' : World} {v : Value} {n : Nat} (h : DecRep w v n) (hb : Below w.heap.size w w') : DecRep w' v n := Row.below h hb
theorem OwnDec.dec {w : World} {base : Nat} {v : Value} {n : Nat} (h : OwnDec w base v n) : DecRep w v n := Own.row h
theorem DecRep.shape {w : World} {v : Value} {n : Nat} (h : DecRep w v n) : ∃ a cap, v = .slice a (dlen 10 n) cap := by
  obtain ⟨a, cap, rfl, _⟩ := h
  exact ⟨a, cap, rfl⟩
section
variable {w : World} {ops : Array Oper} {rest : List Oper} {o : Oper} {a : Act} {Q : Exit → Act → World → Prop}
/-- 'append(s, x)', s a row of ints of the call's own -/
theorem app_i64 (hgd : o.guard = none) (s x : Operand)
    (ho : o.op = .call { callee := .builtin .append, args := #[s, x], argTypes := #[54, 54] })
    (base : Nat) (v : Value) (n : Nat) (f : Nat → Nat) (hs : a.eval s = v) (hown : Own .i64 3 w base v n f)
    (X : Int) (hx : a.eval x = .slice (some ⟨w.heap.size, 0, none⟩) 1 1) (hX : X = ((f n : Nat) : Int)) (hn : n ≤ 1000000000000) (hbase : base ≤ w.heap.size)
    (h : ∀ v' w', Own .i64 3 w' base v' (n + 1) f → Below base w w' → wpList Tryz.prog ops Q rest (a.put o.dst v') w') :
    wpList Tryz.prog ops Q (o :: rest) a (w.alloc (.cells #[.int .i64 X] 3)) := by
  subst hX
  obtain ⟨i0, hi, hz0, hz1, hz2⟩ := info_parts Tryz.infoInt
  refine wpList_append_own _ hgd s x 54 ho base 3 i0 (.int .i64 0) 1 8 Tryz.underlying54 hi hz0 hz1 hz2 rfl (by decide) v n _ hs (World.ownsRow.alloc hown _)
    ⟨w.heap.size, 0, none⟩ 1 1 [.int .i64 ((f n : Nat) : Int)] hx rfl (cell_one_new _ _ _) (by intro u hu; simp at hu; subst hu; rfl) (by unfold maxLen; omega) (by omega) (by simp; omega) ?_
  intro v' w' hown' hgrow _
  refine h v' w' (by unfold Own; rw [cellsK_succ]; exact hown') ?_
  refine (((Below.refl base w).alloc hbase _).grown hgrow (by simp; omega) ?_)
  intro k hk
  obtain ⟨hl, ⟨hv, h0⟩ | ⟨g, cap, cur, hv, hg, hr⟩⟩ := hown
  · subst hv; cases hk
  · subst hv
    simp [Value.ownBlock] at hk
    omega
end
theorem dgt_top (n j : Nat) (h : n < 10 ^ (j + 1)) (h0 : dgt 10 n j = 0) : n < 10 ^ j := by
  unfold dgt at h0
  rw [Nat.pow_succ] at h
  have hp : 0 < 10 ^ j := Nat.pow_pos (by decide)
  generalize 10 ^ j = X at *
  have h1 : n / X < 10 := by rw [Nat.div_lt_iff_lt_mul hp]; omega
  have h2 : n / X = 0 := by
    generalize n / X = e at *
    omega
  exact (Nat.div_eq_zero_iff_lt hp).1 h2
theorem dlen_of_top (n j : Nat) (h : n < 10 ^ j) (h0 : j = 0 ∨ dgt 10 n (j - 1) ≠ 0) : dlen 10 n = j := by
  have h1 := (dlen_le_iff 10 n j (by decide)).2 h
  rcases h0 with rfl | h0
  · omega
  · have h2 : ¬ dlen 10 n ≤ j - 1 := by
      intro h3
      have h4 := (dlen_le_iff 10 n (j - 1) (by decide)).1 h3
      apply h0
      unfold dgt
      rw [Nat.div_eq_of_lt h4]
    omega
set_option maxHeartbeats 1000000 in
theorem trimmedD_row {a : Option Addr} {cap n k : Nat} {w : World} (h : Row .i64 w (.slice a k cap) k (dgt 10 n)) (hk : k ≤ 1000000000) (hn : n < 10 ^ k) :
    Calls Tryz.prog 116 #[.slice a k cap] w fun e w' => e = .returned (.slice a (dlen 10 n) cap) ∧ w' = w := by
  obtain ⟨a', cap', hv, hcap, hcell⟩ := h
  simp only [Value.slice.injEq, true_and] at hv
  obtain ⟨rfl, rfl⟩ := hv
  have hl := (dlen_le_iff 10 n k (by decide)).2 hn
  clear hn
  go_enter Tryz.func116, Tryz.ntmps116
  go_wp2
  go_loop [0] (fun v => ∃ j : Nat, v = .slice a j cap ∧ dlen 10 n ≤ j ∧ j ≤ k) (fun v => lenOf v)
  case atStart => exact ⟨k, rfl, hl, Nat.le_refl _⟩
  case round =>
    obtain ⟨j, rfl, h1, h2⟩ := hrel
    by_cases hj : j = 0
    · subst hj
      go_wp2
      go_ret
      have hz : dlen 10 n = 0 := by omega
      exact ⟨by rw [hz]; rfl, rfl⟩
    · obtain ⟨b, off, rfl, hlt, hc⟩ := hcell (by omega)
      have hcj := hc (j - 1) (by omega)
      have hj' : ((j : Int) - 1) = ((j - 1 : Nat) : Int) := by omega
      by_cases hd : dgt 10 n (j - 1) = 0
      · have hd' : ((dgt 10 n (j - 1) : Nat) : Int) = 0 := by omega
        go_wp2
        go_round
        case rel =>
          refine ⟨j - 1, by go_num, ?_, by omega⟩
          exact (dlen_le_iff 10 n _ (by decide)).2 (dgt_top n (j - 1) (by rw [Nat.sub_add_cancel (by omega)]; exact (dlen_le_iff 10 n _ (by decide)).1 h1) hd)
        case measure => simp [lenOf] <;> omega
      · have hd' : (((dgt 10 n (j - 1) : Nat) : Int) == 0) = false := by rw [beq_eq_false_iff_ne]; omega
        have hz : dlen 10 n = j := dlen_of_top n j ((dlen_le_iff 10 n _ (by decide)).1 h1) (.inr hd)
        have HZ := hid hz
        clear hz
        go_wp2
        go_ret
        exact ⟨by rw [HZ.out]; rfl, rfl⟩
end Go.Proofs.YtkhgoeippamobaaGreatDoor
/-
  The reference: Num, reading decimal digits.
-/
namespace Go.Proofs.YtkhgoeippamobaaGreatDoor
open Go.RowKit
/-- an integer as the reference's Num -/
def DNum (w : World) (v : Value) (z : Int) : Prop := ∃ s, v = .agg #[.bool (decide (z < 0)), s] ∧ DecRep w s z.natAbs
def OwnDNum (w : World) (base : Nat) (v : Value) (z : Int) : Prop := ∃ s, v = .agg #[.bool (decide (z < 0)), s] ∧ OwnDec w base s z.natAbs
theorem OwnDNum.num {w : World} {base : Nat} {v : Value} {z : Int} (h : OwnDNum w base v z) : DNum w v z := by
  obtain ⟨s, rfl, h⟩ := h
  exact ⟨s, rfl, h.dec⟩
theorem DNum.below {w w' : World} {v : Value} {z : Int} (h : DNum w v z) (hb : Below w.heap.size w w') : DNum w' v z := by
  obtain ⟨s, rfl, h⟩ := h
  exact ⟨s, rfl, h.below hb⟩
theorem dlen_pos_iff (n : Nat) : 0 < dlen 10 n ↔ 0 < n := by
  have := dlen_zero_iff 10 n (by decide)
  omega
theorem num_fn {s : Value} {n : Nat} {w : World} (h : DecRep w s n) (hl : dlen 10 n ≤ 1000000000) (b : Bool) :
    Calls Tryz.prog 87 #[.bool b, s] w fun e w' => e = .returned (.agg #[.bool (b && decide (0 < n)), s]) ∧ Below w.heap.size w w' := by
  obtain ⟨a, cap, rfl⟩ := h.shape
  have hn : decide (0 < n) = decide ((0 : Int) < (dlen 10 n : Nat)) := by
    have := dlen_pos_iff n
    by_cases h0 : 0 < n
    · rw [decide_eq_true h0, decide_eq_true (by omega)]
    · rw [decide_eq_false h0, decide_eq_false (by omega)]
  rw [hn]
  clear hn
  cases b
  · go_enter Tryz.func87, Tryz.ntmps87
    go_wp2
    exact bodyPost_ret (v := .agg #[.bool false, .slice a (dlen 10 n) cap]) (by simp [results, Tryz.results87, go_sem]) rfl ⟨rfl, (Below.refl _ _).alloc (Nat.le_refl _) _⟩
  · go_enter Tryz.func87, Tryz.ntmps87
    go_wp2
    exact bodyPost_ret (v := .agg #[.bool (decide ((0 : Int) < (dlen 10 n : Nat))), .slice a (dlen 10 n) cap]) (by simp [results, Tryz.results87, go_sem]) rfl ⟨by simp, (Below.refl _ _).alloc (Nat.le_refl _) _⟩
theorem big_dlen (n : Nat) : decide ((600 : Int) < (dlen 10 n : Nat)) = decide (big600 ≤ n) := by
  have h1 := digits_600 n
  by_cases h2 : n < big600
  · have h3 := h1.2 h2
    rw [decide_eq_false (by omega), decide_eq_false (by omega)]
  · have h3 : ¬ dlen 10 n ≤ 600 := fun h => h2 (h1.1 h)
    rw [decide_eq_true (by omega), decide_eq_true (by omega)]
theorem long_fn {v : Value} {z : Int} {w : World} (h : DNum w v z) (_hl : dlen 10 z.natAbs ≤ 1000000000) :
    Calls Tryz.prog 90 #[v] w fun e w' => e = .returned (.bool (decide (big600 ≤ z.natAbs))) ∧ Below w.heap.size w w' := by
  obtain ⟨s, rfl, h⟩ := h
  obtain ⟨a, cap, rfl⟩ := h.shape
  have HB := hid (big_dlen z.natAbs)
  generalize decide (big600 ≤ z.natAbs) = R at HB ⊢
  go_enter Tryz.func90, Tryz.ntmps90
  go_wp2
  go_ret
  exact ⟨by rw [← HB.out]; rfl, (Below.refl _ _).alloc (Nat.le_refl _) _⟩
theorem snocRec {p : List UInt8 → Prop} (h0 : p []) (h1 : ∀ l c, p l → p (l ++ [c])) (l : List UInt8) : p l := by
  have key : ∀ r : List UInt8, p r.reverse := by
    intro r
    induction r with
    | nil => exact h0
    | cons c r ih => rw [List.reverse_cons]; exact h1 _ _ ih
  have := key l.reverse
  rwa [List.reverse_reverse] at this
/-- the digit number j from the end -/
def fdig (l : List UInt8) (j : Nat) : Nat := valOf (l.getD (l.length - 1 - j) 0)
theorem numOf_snoc (b : Nat) (l : List UInt8) (c : UInt8) : numOf b (l ++ [c]) = numOf b l * b + valOf c := by
  unfold numOf numFrom
  rw [List.foldl_append]
  rfl
theorem numOf_lt (b : Nat) (_hb : 2 ≤ b) (l : List UInt8) (h : ∀ c ∈ l, valOf c < b) : numOf b l < b ^ l.length := by
  revert h
  refine snocRec (p := fun l => (∀ c ∈ l, valOf c < b) → numOf b l < b ^ l.length) ?_ ?_ l
  · exact fun _ => Nat.one_pos
  · intro l c ih h
    rw [numOf_snoc, List.length_append, List.length_singleton, Nat.pow_succ]
    have h1 := ih (fun c hc => h c (List.mem_append_left _ hc))
    have h2 := h c (List.mem_append_right _ (List.mem_singleton.2 rfl))
    generalize b ^ l.length = X at *
    have h3 := Nat.mul_le_mul_right b (show numOf b l + 1 ≤ X from h1)
    rw [Nat.add_mul] at h3
    omega
theorem dgt_numOf (b : Nat) (hb : 2 ≤ b) (l : List UInt8) (h : ∀ c ∈ l, valOf c < b) (j : Nat) (hj : j < l.length) : dgt b (numOf b l) j = fdig l j := by
  revert h j
  refine snocRec (p := fun l => (∀ c ∈ l, valOf c < b) → ∀ j, j < l.length → dgt b (numOf b l) j = fdig l j) ?_ ?_ l
  · exact fun h j hj => absurd hj (Nat.not_lt_zero _)
  · intro l c ih h j hj
    have h2 := h c (List.mem_append_right _ (List.mem_singleton.2 rfl))
    rw [numOf_snoc]
    cases j with
    | zero =>
      have e : fdig (l ++ [c]) 0 = valOf c := by
        unfold fdig
        simp
      rw [e]
      unfold dgt
      rw [Nat.pow_zero, Nat.div_one, Nat.mul_comm, Nat.mul_add_mod, Nat.mod_eq_of_lt h2]
    | succ j =>
      have hj' : j < l.length := by simp at hj; omega
      have e : fdig (l ++ [c]) (j + 1) = fdig l j := by
        unfold fdig
        have e1 : (l ++ [c]).length - 1 - (j + 1) = l.length - 1 - j := by simp; omega
        rw [e1]
        simp only [List.getD_eq_getElem?_getD]
        rw [List.getElem?_append_left (by omega)]
      rw [e, ← ih (fun c hc => h c (List.mem_append_left _ hc)) j hj']
      unfold dgt
      rw [Nat.pow_succ, Nat.mul_comm (b ^ j) b, ← Nat.div_div_eq_div_mul, Nat.mul_comm (numOf b l) b, Nat.mul_add_div (by omega), Nat.div_eq_of_lt h2, Nat.add_zero]
end Go.Proofs.YtkhgoeippamobaaGreatDoor
/-
  The reference: decimal.
-/
namespace Go.Proofs.YtkhgoeippamobaaGreatDoor
open Go.RowKit
/-- what the reference's readers answer -/
def RefP (ok : Bool) (z : Int) (w : World) (e : Ending) (w' : World) : Prop :=
  ∃ v, e = .returned (.tuple #[v, .bool ok]) ∧ Below w.heap.size w w' ∧ (ok = true → OwnDNum w' w.heap.size v z) ∧ (∃ g s n c, v = .agg #[.bool g, .slice s n c])
theorem Blk.two {w : World} {b : Nat} {x y : Value} {t : TypeId} (h : Blk w b #[x, y] t) : (w.cell? ⟨b, 0, none⟩ = some x ∧ w.cell? ⟨b, 1, none⟩ = some y) ∧ (w.frozen? ⟨b, 0, none⟩ = false ∧ w.frozen? ⟨b, 1, none⟩ = false) :=
  ⟨⟨h.cell 0, h.cell 1⟩, h.free 0, h.free 1⟩
theorem own_set2 {ik : IntKind} {e : TypeId} {w : World} {base b n : Nat} {v : Value} {f : Nat → Nat} (h : Own ik e w base v n f) (x y : Value) (hb : b < base) : Own ik e ((w.setCell ⟨b, 0, none⟩ x).setCell ⟨b, 1, none⟩ y) base v n f :=
  ownsRow_setCell_below (ownsRow_setCell_below h (a := ⟨b, 0, none⟩) hb x) (a := ⟨b, 1, none⟩) hb y
set_option maxRecDepth 100000 in
set_option maxHeartbeats 4000000 in
theorem dec_fn (l : List UInt8) (hl : l.length ≤ 1000000000) (b : Bool) (w : World) :
    Calls Tryz.prog 126 #[.bool b, .string ⟨l.toArray⟩] w (RefP (rOK 10 l) (sgnInt b (numOf 10 l)) w) := by
  have hsz : (⟨l.toArray⟩ : ByteArray).size = l.length := Lib.size_mk _
  have k0 := Blk.new w #[.bool false, .slice none 0 0] 56
  have hb0 : Below w.heap.size w (w.alloc (.cells #[.bool false, .slice none 0 0] 56)) := (Below.refl _ _).alloc (Nat.le_refl _) _
  have hsz0 : (w.alloc (.cells #[.bool false, .slice none 0 0] 56)).heap.size = w.heap.size + 1 := by simp
  go_enter Tryz.func126, Tryz.ntmps126
  go_wp2
  generalize w.alloc (.cells #[.bool false, .slice none 0 0] 56) = W at *
  go_loopw [6, 7] (fun sv iv wr => ∃ k : Nat, iv = .int .i64 ((l.length : Int) - 1 - k) ∧ k ≤ l.length ∧ Own .i64 3 wr (w.heap.size + 1) sv k (fdig l) ∧ (∀ j, j < k → fdig l j < 10) ∧ Below w.heap.size w wr ∧ Blk wr w.heap.size #[.bool false, .slice none 0 0] 56) (fun _ iv _ => (intOf iv + 1).toNat)
  case atStart => exact ⟨0, by simp, Nat.zero_le _, Own.nil, fun j h => absurd h (Nat.not_lt_zero _), hb0, k0⟩
  case round =>
    obtain ⟨k, hiv, hk, hown, hall, hbr, kr⟩ := hrel
    clear k0 hb0 hsz0
    have hA := hid hall
    clear hall
    obtain ⟨a, cap, rfl⟩ := hown.shape
    have hszr := hbr.size
    have hltr := kr.lt
    by_cases hlt : k < l.length
    · obtain ⟨i, hi⟩ : ∃ i, i + k + 1 = l.length := ⟨l.length - 1 - k, by omega⟩
      have e : (l.length : Int) - 1 - k = (i : Int) := by omega
      rw [e] at hiv
      subst hiv
      have hil : i < l.length := by omega
      have hx : ∀ h, (⟨l.toArray⟩ : ByteArray)[i]'h = l[i]'hil := fun h => rfl
      have hfd : fdig l k = valOf (l[i]'hil) := by
        unfold fdig
        have e1 : l.length - 1 - k = i := by omega
        rw [e1, List.getD_eq_getElem?_getD, List.getElem?_eq_getElem hil]
        rfl
      have hc := fun w => hid (digitR_fn (l[i]'hil) 10 (by decide) (by decide) w)
      by_cases hv : valOf (l[i]'hil) < 10
      · have hd : digR (l[i]'hil) 10 = (valOf (l[i]'hil) : Int) := by unfold digR; rw [if_pos hv]
        rw [hd] at hc
        have hc' : ∀ w, Hid (Calls Tryz.prog 144 #[.int .u8 (l[i]'hil).toNat, .int .i64 10] w fun e w' => e = .returned (.int .i64 (valOf (l[i]'hil))) ∧ w' = w) := hc
        have HF := hid hfd
        clear hd hc e hfd
        go_wp2_with fail
        (with_reducible refine (hc' _).out.mono ?_); rintro e w' ⟨rfl, rfl⟩
        go_wp2_with fail
        (with_reducible refine (hc' _).out.mono ?_); rintro e w' ⟨rfl, rfl⟩
        go_wp2_with (at_builtin; refine app_i64 rfl _ _ rfl (w.heap.size + 1) _ k _ rfl hown _ rfl ?_ (by omega) (by omega) ?_; rotate_left; intro v' w2 hown2 hb2)
        · go_roundw
          case rel =>
            refine ⟨k + 1, ?_, by omega, hown2, ?_, hbr.trans (hb2.mono (by omega)), kr.below hb2 (by omega)⟩
            · congr 1; omega
            · intro j hj
              rcases Nat.lt_or_ge j k with h1 | h1
              · exact hA.out j h1
              · obtain rfl : j = k := by omega
                rw [HF.out]; exact hv
          case measure => simp [intOf] <;> omega
        · rw [HF.out]
      · have hd : digR (l[i]'hil) 10 = -1 := by unfold digR; rw [if_neg hv]
        rw [hd] at hc
        have hc' : ∀ w, Hid (Calls Tryz.prog 144 #[.int .u8 (l[i]'hil).toNat, .int .i64 10] w fun e w' => e = .returned (.int .i64 (-1)) ∧ w' = w) := hc
        have HB := hid (rOK_bad 10 l i hil hv)
        obtain ⟨⟨p1, p2⟩, q1, q2⟩ := kr.two
        clear hd hc e hfd hv
        go_wp2_with fail
        (with_reducible refine (hc' _).out.mono ?_); rintro e w' ⟨rfl, rfl⟩
        go_wp2
        refine bodyPost_ret (v := .tuple #[.agg #[.bool false, .slice none 0 0], .bool false]) (by simp [results, Tryz.results126, go_sem, p1, p2]) rfl ⟨_, by rw [HB.out], ?_, fun h => absurd h (by rw [HB.out]; decide), ⟨_, _, _, _, rfl⟩⟩
        exact (hbr.setCell (p := ⟨w.heap.size, 0, none⟩) (Nat.le_refl _) _).setCell (p := ⟨w.heap.size, 1, none⟩) (Nat.le_refl _) _
    · obtain rfl : k = l.length := by omega
      have e : (l.length : Int) - 1 - l.length = -1 := by omega
      rw [e] at hiv
      subst hiv
      have hallc : ∀ c ∈ l, valOf c < 10 := by
        intro c hc
        obtain ⟨i, hi, rfl⟩ := List.getElem_of_mem hc
        have h1 := hA.out (l.length - 1 - i) (by omega)
        unfold fdig at h1
        have e1 : l.length - 1 - (l.length - 1 - i) = i := by omega
        rw [e1, List.getD_eq_getElem?_getD, List.getElem?_eq_getElem hi] at h1
        exact h1
      have hrok : rOK 10 l = !l.isEmpty := by
        unfold rOK
        rw [List.all_eq_true.2 (fun c hc => decide_eq_true (hallc c hc)), Bool.and_true]
      have HROK := hid hrok
      have hN := numOf_lt 10 (by decide) l hallc
      have hown' := hown.congr (g := dgt 10 (numOf 10 l)) (fun j hj => (dgt_numOf 10 (by decide) l hallc j hj).symm)
      have hdl := (dlen_le_iff 10 _ _ (by decide)).2 hN
      have hcut := hown'.cut hdl
      have hct := hid (trimmedD_row hown'.row (by omega) hN)
      have HV := hid (show sgnInt b (numOf 10 l) = sgnInt b (numOf 10 l) from rfl)
      clear hallc hrok hN e hown hlt
      generalize hNN : numOf 10 l = N at *
      clear hNN
      have hrep : DecRep wr (.slice a (dlen 10 N) cap) N := Own.row hcut
      have hcn := hid (num_fn hrep (by omega) b)
      obtain ⟨⟨p1, p2⟩, q1, q2⟩ := kr.two
      go_wp2_with fail
      (with_reducible refine hct.out.mono ?_); rintro e w' ⟨rfl, rfl⟩
      go_wp2_with fail
      (with_reducible refine hcn.out.mono ?_); rintro e w1 ⟨rfl, hb1⟩
      obtain ⟨⟨r1, r2⟩, s1, s2⟩ := (kr.later hb1).two
      have hkF := own_set2 (hcut.keep hb1 (Nat.le_refl _)) (.bool (b && decide (0 < N))) (.slice a (dlen 10 N) cap) (b := w.heap.size) (by omega)
      have hbF := ((hbr.trans (hb1.mono hbr.size)).setCell (p := ⟨w.heap.size, 0, none⟩) (Nat.le_refl _) (.bool (b && decide (0 < N)))).setCell (p := ⟨w.heap.size, 1, none⟩) (Nat.le_refl _) (.slice a (dlen 10 N) cap)
      go_wp2
      refine bodyPost_ret (v := .tuple #[.agg #[.bool (b && decide (0 < N)), .slice a (dlen 10 N) cap], .bool (!l.isEmpty)]) (by simp [results, Tryz.results126, go_sem, r1, r2]) rfl ⟨_, by rw [HROK.out], hbF, fun _ => ⟨_, by rw [sgnInt_neg], ?_⟩, ⟨_, _, _, _, rfl⟩⟩
      unfold OwnDec
      rw [sgnInt_abs]
      exact hkF.mono (by omega)
end Go.Proofs.YtkhgoeippamobaaGreatDoor
/-
  The reference: a digit, the sum.
-/
namespace Go.Proofs.YtkhgoeippamobaaGreatDoor
open Go.RowKit
theorem dgt_out (n i : Nat) (h : dlen 10 n ≤ i) : dgt 10 n i = 0 := by
  unfold dgt
  rw [(dlen_div 10 n i (by decide)).2 h]
theorem dig_in (b off len cap i : Nat) (x : Int) (w : World) (hi : i < len) (_hl : len ≤ 1000000000000) (hc : w.cell? ⟨b, off + i, none⟩ = some (.int .i64 x)) :
    Calls Tryz.prog 130 #[.slice (some ⟨b, off, none⟩) len cap, .int .i64 i] w fun e w' => e = .returned (.int .i64 x) ∧ w' = w := by
  go_enter Tryz.func130, Tryz.ntmps130
  go_wp2
  go_ret
  exact ⟨rfl, rfl⟩
theorem dig_out (a : Option Addr) (len cap i : Nat) (w : World) (hi : len ≤ i) (_hl : i ≤ 1000000000000) :
    Calls Tryz.prog 130 #[.slice a len cap, .int .i64 i] w fun e w' => e = .returned (.int .i64 0) ∧ w' = w := by
  go_enter Tryz.func130, Tryz.ntmps130
  go_wp2
  go_ret
  exact ⟨rfl, rfl⟩
theorem dig_fn {v : Value} {n : Nat} {w : World} (h : DecRep w v n) (hl : dlen 10 n ≤ 1000000000) (i : Nat) (hi : i ≤ 1000000000) :
    Calls Tryz.prog 130 #[v, .int .i64 i] w fun e w' => e = .returned (.int .i64 (dgt 10 n i)) ∧ w' = w := by
  obtain ⟨a, cap, rfl, hc, h⟩ := h
  by_cases hlt : i < dlen 10 n
  · obtain ⟨b, off, rfl, _, hcell⟩ := h (by omega)
    exact dig_in b off _ cap i _ w hlt (by omega) (hcell i hlt)
  · have := dig_out a (dlen 10 n) cap i w (by omega) (by omega)
    rw [dgt_out n i (by omega)]
    exact this
/-- the carry of a sum behind i digits -/
def cy10 (m n i : Nat) : Nat := (m % 10 ^ i + n % 10 ^ i) / 10 ^ i
theorem mod10_succ (n i : Nat) : n % 10 ^ (i + 1) = dgt 10 n i * 10 ^ i + n % 10 ^ i := by
  unfold dgt
  rw [Nat.pow_succ, Nat.mod_mul, Nat.mul_comm (n / 10 ^ i % 10), Nat.add_comm]
theorem cy10_le (m n i : Nat) : cy10 m n i ≤ 1 := by
  unfold cy10
  have h1 := Nat.mod_lt m (Nat.pow_pos (n := i) (show 0 < 10 by decide))
  have h2 := Nat.mod_lt n (Nat.pow_pos (n := i) (show 0 < 10 by decide))
  have h3 : (m % 10 ^ i + n % 10 ^ i) / 10 ^ i < 2 := by
    rw [Nat.div_lt_iff_lt_mul (Nat.pow_pos (by decide))]; omega
  omega
theorem cy10_step (m n i : Nat) : (dgt 10 m i + dgt 10 n i + cy10 m n i) % 10 = dgt 10 (m + n) i ∧ (dgt 10 m i + dgt 10 n i + cy10 m n i) / 10 = cy10 m n (i + 1) := by
  have hp : 0 < 10 ^ i := Nat.pow_pos (by decide)
  have key : (m % 10 ^ (i + 1) + n % 10 ^ (i + 1)) / 10 ^ i = dgt 10 m i + dgt 10 n i + cy10 m n i := by
    rw [mod10_succ, mod10_succ]
    unfold cy10
    have e : dgt 10 m i * 10 ^ i + m % 10 ^ i + (dgt 10 n i * 10 ^ i + n % 10 ^ i) = (m % 10 ^ i + n % 10 ^ i) + 10 ^ i * (dgt 10 m i + dgt 10 n i) := by
      rw [Nat.mul_add, Nat.mul_comm (10 ^ i), Nat.mul_comm (10 ^ i)]; omega
    rw [e, Nat.add_mul_div_left _ _ hp]
    omega
  constructor
  · rw [← key]
    unfold dgt
    have h1 := Nat.div_add_mod m (10 ^ (i + 1))
    have h2 := Nat.div_add_mod n (10 ^ (i + 1))
    have e : m + n = (m % 10 ^ (i + 1) + n % 10 ^ (i + 1)) + 10 ^ i * (10 * (m / 10 ^ (i + 1) + n / 10 ^ (i + 1))) := by
      have ps : 10 ^ i * 10 = 10 ^ (i + 1) := (Nat.pow_succ 10 i).symm
      rw [← Nat.mul_assoc, ps, Nat.mul_add]
      omega
    conv => rhs; rw [e, Nat.add_mul_div_left _ _ hp, Nat.add_mul_mod_self_left]
  · rw [← key]
    unfold cy10
    rw [Nat.div_div_eq_div_mul, ← Nat.pow_succ]
theorem cy10_top (m n i : Nat) (hm : dlen 10 m ≤ i) (hn : dlen 10 n ≤ i) (h : cy10 m n i = 0) : dlen 10 (m + n) ≤ i := by
  rw [dlen_le_iff 10 _ _ (by decide)] at hm hn ⊢
  unfold cy10 at h
  rw [Nat.mod_eq_of_lt hm, Nat.mod_eq_of_lt hn] at h
  exact (Nat.div_eq_zero_iff_lt (Nat.pow_pos (by decide))).1 h
theorem cy10_grow (m n i : Nat) (h : i < dlen 10 m ∨ i < dlen 10 n ∨ 0 < cy10 m n i) : i < dlen 10 (m + n) := by
  rw [lt_dlen_iff 10 _ _ (by decide)] at *
  rw [lt_dlen_iff 10 n _ (by decide)] at h
  rcases h with h | h | h
  · omega
  · omega
  · unfold cy10 at h
    have h1 : 10 ^ i ≤ m % 10 ^ i + n % 10 ^ i := by
      rcases Nat.lt_or_ge (m % 10 ^ i + n % 10 ^ i) (10 ^ i) with h2 | h2
      · rw [Nat.div_eq_of_lt h2] at h; omega
      · exact h2
    have h3 := Nat.mod_le m (10 ^ i)
    have h4 := Nat.mod_le n (10 ^ i)
    omega
/-- a fresh number as decimal digits -/
def FreshDec (n : Nat) (w : World) (e : Ending) (w' : World) : Prop := ∃ v, e = .returned v ∧ OwnDec w' w.heap.size v n ∧ Below w.heap.size w w'
set_option maxRecDepth 100000 in
set_option maxHeartbeats 4000000 in
theorem plusD_fn {v u : Value} {m n : Nat} {w : World} (hv : DecRep w v m) (hu : DecRep w u n) (hm : dlen 10 m ≤ 100000000) (hn : dlen 10 n ≤ 100000000) :
    Calls Tryz.prog 128 #[v, u] w (FreshDec (m + n) w) := by
  obtain ⟨a1, c1, rfl⟩ := hv.shape
  obtain ⟨a2, c2, rfl⟩ := hu.shape
  go_enter Tryz.func128, Tryz.ntmps128
  go_wp2
  go_loopw [5, 6, 7] (fun sv cv iv wr => ∃ i : Nat, iv = .int .i64 i ∧ i ≤ 100000001 ∧ i ≤ dlen 10 (m + n) ∧ Own .i64 3 wr w.heap.size sv i (dgt 10 (m + n)) ∧ cv = .int .i64 (cy10 m n i) ∧ Below w.heap.size w wr) (fun _ _ iv _ => 100000001 - (intOf iv).toNat)
  case atStart => exact ⟨0, rfl, by decide, Nat.zero_le _, Own.nil, by simp [cy10], Below.refl _ _⟩
  case round =>
    obtain ⟨i, rfl, hi, hid1, hown, rfl, hbr⟩ := hrel
    obtain ⟨a3, c3, rfl⟩ := hown.shape
    have hcy := cy10_le m n i
    have hszr := hbr.size
    have hdm := dgt_lt 10 m i (by decide)
    have hdn := dgt_lt 10 n i (by decide)
    have hlim : i < dlen 10 m ∨ i < dlen 10 n ∨ 0 < cy10 m n i → i ≤ 100000000 := by
      intro h
      rcases h with h | h | h
      · omega
      · omega
      · rcases Nat.lt_or_ge i 100000001 with h2 | h2
        · omega
        · exfalso
          have h3 : dlen 10 m < i := by omega
          have h4 : dlen 10 n < i := by omega
          obtain ⟨j, rfl⟩ : ∃ j, i = j + 1 := ⟨i - 1, by omega⟩
          have h5 := (cy10_step m n j).2
          have h6 := cy10_le m n j
          rw [dgt_out m j (by omega), dgt_out n j (by omega)] at h5
          omega
    by_cases h1 : i < dlen 10 m
    · have hlim2 := hlim (.inl h1)
      clear hlim
      have hg := cy10_grow m n i (.inl h1)
      have hc1 := hid (dig_fn (hv.below hbr) (by omega) i (by omega))
      have hc2 := hid (dig_fn (hu.below hbr) (by omega) i (by omega))
      obtain ⟨hs1, hs2⟩ := cy10_step m n i
      have HS1 := hid hs1
      have HS2 := hid hs2
      clear hs1 hs2
      generalize dgt 10 m i = x at *
      generalize dgt 10 n i = y at *
      generalize cy10 m n i = z at *
      go_wp2_with fail
      (with_reducible refine hc1.out.mono ?_); rintro e w' ⟨rfl, rfl⟩
      go_wp2_with fail
      (with_reducible refine hc2.out.mono ?_); rintro e w' ⟨rfl, rfl⟩
      go_wp2_with (at_builtin; refine app_i64 rfl _ _ rfl w.heap.size _ i _ rfl hown _ rfl ?_ (by omega) (by omega) ?_; rotate_left; intro v' w2 hown2 hb2)
      · go_roundw
        case rel => exact ⟨i + 1, by go_num, by omega, by omega, hown2, by rw [← HS2.out]; rfl, hbr.trans (hb2.mono (Nat.le_refl _))⟩
        case measure => simp [intOf] <;> omega
      · rw [← HS1.out]; omega
    · by_cases h2 : i < dlen 10 n
      · have hlim2 := hlim (.inr (.inl h2))
        clear hlim
        have hg := cy10_grow m n i (.inr (.inl h2))
        have hc1 := hid (dig_fn (hv.below hbr) (by omega) i (by omega))
        have hc2 := hid (dig_fn (hu.below hbr) (by omega) i (by omega))
        obtain ⟨hs1, hs2⟩ := cy10_step m n i
        have HS1 := hid hs1
        have HS2 := hid hs2
        clear hs1 hs2
        generalize dgt 10 m i = x at *
        generalize dgt 10 n i = y at *
        generalize cy10 m n i = z at *
        go_wp2_with fail
        (with_reducible refine hc1.out.mono ?_); rintro e w' ⟨rfl, rfl⟩
        go_wp2_with fail
        (with_reducible refine hc2.out.mono ?_); rintro e w' ⟨rfl, rfl⟩
        go_wp2_with (at_builtin; refine app_i64 rfl _ _ rfl w.heap.size _ i _ rfl hown _ rfl ?_ (by omega) (by omega) ?_; rotate_left; intro v' w2 hown2 hb2)
        · go_roundw
          case rel => exact ⟨i + 1, by go_num, by omega, by omega, hown2, by rw [← HS2.out]; rfl, hbr.trans (hb2.mono (Nat.le_refl _))⟩
          case measure => simp [intOf] <;> omega
        · rw [← HS1.out]; omega
      · by_cases h3 : 0 < cy10 m n i
        · have hlim2 := hlim (.inr (.inr h3))
          clear hlim
          have hg := cy10_grow m n i (.inr (.inr h3))
          have hc1 := hid (dig_fn (hv.below hbr) (by omega) i (by omega))
          have hc2 := hid (dig_fn (hu.below hbr) (by omega) i (by omega))
          obtain ⟨hs1, hs2⟩ := cy10_step m n i
          have HS1 := hid hs1
          have HS2 := hid hs2
          clear hs1 hs2
          generalize dgt 10 m i = x at *
          generalize dgt 10 n i = y at *
          generalize cy10 m n i = z at *
          go_wp2_with fail
          (with_reducible refine hc1.out.mono ?_); rintro e w' ⟨rfl, rfl⟩
          go_wp2_with fail
          (with_reducible refine hc2.out.mono ?_); rintro e w' ⟨rfl, rfl⟩
          go_wp2_with (at_builtin; refine app_i64 rfl _ _ rfl w.heap.size _ i _ rfl hown _ rfl ?_ (by omega) (by omega) ?_; rotate_left; intro v' w2 hown2 hb2)
          · go_roundw
            case rel => exact ⟨i + 1, by go_num, by omega, by omega, hown2, by rw [← HS2.out]; rfl, hbr.trans (hb2.mono (Nat.le_refl _))⟩
            case measure => simp [intOf] <;> omega
          · rw [← HS1.out]; omega
        · have hz : cy10 m n i = 0 := by omega
          have htop := cy10_top m n i (by omega) (by omega) hz
          have hL := hid (show dlen 10 (m + n) = i by omega)
          clear hlim htop hid1
          rw [hz]
          clear h3 hcy hz
          go_wp2
          go_ret
          exact ⟨_, rfl, by unfold OwnDec; rw [hL.out]; exact hown, hbr⟩
end Go.Proofs.YtkhgoeippamobaaGreatDoor
/-
  The reference: natOf.
-/
namespace Go.Proofs.YtkhgoeippamobaaGreatDoor
open Go.RowKit
theorem dlen_small (n : Nat) (h : n ≤ 9223372036854775807) : dlen 10 n ≤ 19 := (dlen_le_iff 10 n 19 (by decide)).2 (by omega)
set_option maxRecDepth 100000 in
set_option maxHeartbeats 4000000 in
theorem natOf_fn (n : Nat) (hn : n ≤ 9223372036854775807) (w : World) :
    Calls Tryz.prog 88 #[.int .i64 n] w (FreshDec n w) := by
  have hdl := dlen_small n hn
  go_enter Tryz.func88, Tryz.ntmps88
  go_wp2
  go_loopw [0, 3] (fun nv sv wr => ∃ k : Nat, nv = .int .i64 ((n / 10 ^ k : Nat) : Int) ∧ k ≤ dlen 10 n ∧ Own .i64 3 wr w.heap.size sv k (dgt 10 n) ∧ Below w.heap.size w wr) (fun _ sv _ => dlen 10 n - lenOf sv)
  case atStart => exact ⟨0, by simp, Nat.zero_le _, Own.nil, Below.refl _ _⟩
  case round =>
    obtain ⟨k, rfl, hk, hown, hbr⟩ := hrel
    obtain ⟨a3, c3, rfl⟩ := hown.shape
    have hszr := hbr.size
    have hle : n / 10 ^ k ≤ n := Nat.div_le_self _ _
    have hz := dlen_div 10 n k (by decide)
    have HD := hid (show dgt 10 n k = n / 10 ^ k % 10 from rfl)
    have HS := hid (show n / 10 ^ (k + 1) = n / 10 ^ k / 10 by rw [Nat.pow_succ, Nat.div_div_eq_div_mul])
    generalize n / 10 ^ k = x at *
    by_cases h0 : 0 < x
    · have hlt : k < dlen 10 n := by omega
      go_wp2_with (at_builtin; refine app_i64 rfl _ _ rfl w.heap.size _ k _ rfl hown _ rfl ?_ (by omega) (by omega) ?_; rotate_left; intro v' w2 hown2 hb2)
      · go_roundw
        case rel => exact ⟨k + 1, by rw [HS.out]; rfl, by omega, hown2, hbr.trans (hb2.mono (Nat.le_refl _))⟩
        case measure =>
          have e2 := hown2.lenOf
          have e1 := hown.lenOf
          omega
      · rw [HD.out]; omega
    · have hx : x = 0 := by omega
      have hL := hid (show dlen 10 n = k by omega)
      subst hx
      clear hz hle
      go_wp2
      go_ret
      exact ⟨_, rfl, by unfold OwnDec; rw [hL.out]; exact hown, hbr⟩
end Go.Proofs.YtkhgoeippamobaaGreatDoor
/-
  Products digit by digit, to the base 10 (no program in sight).
-/
namespace Go.Proofs.YtkhgoeippamobaaGreatDoor
theorem pow10_pos (i : Nat) : 0 < 10 ^ i := Nat.pow_pos (by decide)
theorem mod_split10 (n i : Nat) : n % 10 ^ (i + 1) = n % 10 ^ i + 10 ^ i * dgt 10 n i := by
  rw [mod10_succ, Nat.mul_comm, Nat.add_comm]
theorem dgt_congr (x y t : Nat) (h : x % 10 ^ (t + 1) = y % 10 ^ (t + 1)) : dgt 10 x t = dgt 10 y t := by
  have e : ∀ z, dgt 10 z t = z % 10 ^ (t + 1) / 10 ^ t := by
    intro z
    rw [mod_split10, Nat.add_mul_div_left _ _ (pow10_pos t), Nat.div_eq_of_lt (Nat.mod_lt _ (pow10_pos t)), Nat.zero_add]
  rw [e, e, h]
/-- behind i rounds: the low digits of m times n -/
def sX (m n i : Nat) : Nat := m % 10 ^ i * n
/-- within round i, behind k digits of n -/
def tX (m n i k : Nat) : Nat := sX m n i % 10 ^ (i + k) + dgt 10 m i * (10 ^ i * (n % 10 ^ k))
def cX (m n i k : Nat) : Nat := tX m n i k / 10 ^ (i + k)
/-- the sum of a step -/
def uX (m n i k : Nat) : Nat := dgt 10 (sX m n i) (i + k) + dgt 10 m i * dgt 10 n k + cX m n i k
theorem tX_zero (m n i : Nat) : tX m n i 0 = sX m n i % 10 ^ i := by simp [tX, Nat.mod_one]
theorem cX_zero (m n i : Nat) : cX m n i 0 = 0 := by
  unfold cX; rw [tX_zero, Nat.add_zero]; exact Nat.div_eq_of_lt (Nat.mod_lt _ (pow10_pos i))
theorem tX_succ (m n i k : Nat) : tX m n i (k + 1) = tX m n i k + 10 ^ (i + k) * (dgt 10 (sX m n i) (i + k) + dgt 10 m i * dgt 10 n k) := by
  unfold tX
  rw [show i + (k + 1) = (i + k) + 1 by omega, mod_split10 (sX m n i) (i + k), mod_split10 n k]
  have e : dgt 10 m i * (10 ^ i * (n % 10 ^ k + 10 ^ k * dgt 10 n k)) = dgt 10 m i * (10 ^ i * (n % 10 ^ k)) + 10 ^ (i + k) * (dgt 10 m i * dgt 10 n k) := by
    rw [Nat.pow_add, Nat.mul_add (10 ^ i), Nat.mul_add (dgt 10 m i)]
    congr 1
    ac_rfl
  rw [e, Nat.mul_add (10 ^ (i + k))]
  omega
theorem uX_eq (m n i k : Nat) : uX m n i k = tX m n i (k + 1) / 10 ^ (i + k) := by
  rw [tX_succ, Nat.add_mul_div_left _ _ (pow10_pos _)]
  unfold uX cX
  omega
theorem uX_div (m n i k : Nat) : uX m n i k / 10 = cX m n i (k + 1) := by
  rw [uX_eq, Nat.div_div_eq_div_mul]
  unfold cX
  rw [show i + (k + 1) = (i + k) + 1 by omega, Nat.pow_succ]
theorem uX_mod (m n i k : Nat) : uX m n i k % 10 = dgt 10 (tX m n i (k + 1)) (i + k) := by
  rw [uX_eq]; rfl
theorem tX_low (m n i k t : Nat) (h : t < i + k) : dgt 10 (tX m n i k) t = dgt 10 (tX m n i (k + 1)) t := by
  apply dgt_congr
  rw [tX_succ]
  have e : 10 ^ (i + k) = 10 ^ (t + 1) * 10 ^ (i + k - (t + 1)) := by rw [← Nat.pow_add]; congr 1; omega
  rw [e, Nat.mul_assoc, Nat.add_mul_mod_self_left]
theorem cX_lt (m n i k : Nat) : cX m n i k < 10 := by
  induction k with
  | zero => rw [cX_zero]; decide
  | succ k ih =>
    rw [← uX_div]
    unfold uX
    have h1 := dgt_lt 10 (sX m n i) (i + k) (by decide)
    have h2 := dgt_lt 10 m i (by decide)
    have h3 := dgt_lt 10 n k (by decide)
    have h4 : dgt 10 m i * dgt 10 n k ≤ 9 * 9 := Nat.mul_le_mul (by omega) (by omega)
    omega
theorem sX_lt (m n i : Nat) : sX m n i < 10 ^ (i + dlen 10 n) := by
  unfold sX
  rw [Nat.pow_add]
  exact Nat.mul_lt_mul'' (Nat.mod_lt _ (pow10_pos i)) (dlen_lt 10 n (by decide))
theorem sX_succ (m n i : Nat) : sX m n (i + 1) = sX m n i + dgt 10 m i * (10 ^ i * n) := by
  unfold sX
  rw [mod_split10 m i, Nat.add_mul, Nat.mul_assoc, Nat.mul_left_comm]
theorem sX_zero (m n : Nat) : sX m n 0 = 0 := by simp [sX, Nat.mod_one]
theorem sX_all (m n : Nat) : sX m n (dlen 10 m) = m * n := by
  unfold sX; rw [Nat.mod_eq_of_lt (dlen_lt 10 m (by decide))]
theorem tX_end (m n i k : Nat) (hk : dlen 10 n ≤ k) : tX m n i k = sX m n (i + 1) := by
  have h1 := (dlen_le_iff 10 n k (by decide)).1 hk
  have h2 : sX m n i < 10 ^ (i + k) := Nat.lt_of_lt_of_le (sX_lt m n i) (Nat.pow_le_pow_right (by decide) (by omega))
  unfold tX
  rw [Nat.mod_eq_of_lt h1, Nat.mod_eq_of_lt h2, sX_succ]
theorem cX_in (m n i k : Nat) (hk : dlen 10 n ≤ k) (h : 0 < cX m n i k) : i + k < i + 1 + dlen 10 n := by
  unfold cX at h
  rw [tX_end m n i k hk] at h
  have h1 := sX_lt m n (i + 1)
  rcases Nat.lt_or_ge (i + k) (i + 1 + dlen 10 n) with h2 | h2
  · exact h2
  · rw [Nat.div_eq_of_lt (Nat.lt_of_lt_of_le h1 (Nat.pow_le_pow_right (by decide) h2))] at h
    omega
theorem dgt_high (x k t : Nat) (h : x < 10 ^ k) (ht : k ≤ t) : dgt 10 x t = 0 := dgt_out x t (Nat.le_trans ((dlen_le_iff 10 x k (by decide)).2 h) ht)
/-- the round's end: what is left of the row is as it shall be -/
theorem tX_rest (m n i k t : Nat) (hk : dlen 10 n ≤ k) (h : cX m n i k = 0) (ht : i + k ≤ t) : dgt 10 (sX m n i) t = dgt 10 (sX m n (i + 1)) t := by
  have h1 : sX m n (i + 1) < 10 ^ (i + k) := by
    unfold cX at h
    rw [tX_end m n i k hk] at h
    exact (Nat.div_eq_zero_iff_lt (pow10_pos _)).1 h
  rw [dgt_high _ _ _ h1 ht, dgt_high _ _ _ (Nat.lt_of_lt_of_le (sX_lt m n i) (Nat.pow_le_pow_right (by decide) (show i + dlen 10 n ≤ i + k by omega))) ht]
theorem tX_start (m n i t : Nat) (h : t < i) : dgt 10 (tX m n i 0) t = dgt 10 (sX m n i) t := by
  rw [tX_zero]
  apply dgt_congr
  have e : 10 ^ i = 10 ^ (t + 1) * 10 ^ (i - (t + 1)) := by rw [← Nat.pow_add]; congr 1; omega
  rw [e, Nat.mod_mul_right_mod]
theorem mulX_lt (m n : Nat) : m * n < 10 ^ (dlen 10 m + dlen 10 n) := by rw [← sX_all]; exact sX_lt m n _
end Go.Proofs.YtkhgoeippamobaaGreatDoor
/-
  The reference: the product.
-/
namespace Go.Proofs.YtkhgoeippamobaaGreatDoor
open Go.RowKit
theorem wrap_i64_nat (x : Nat) (h : x < 9223372036854775808) : IntKind.i64.wrap (x : Int) = x := by
  simp [IntKind.wrap, IntKind.bits, IntKind.signed]
  omega
section
variable {ops : Array Oper} {rest : List Oper} {o : Oper} {a : Act} {Q : Exit → Act → World → Prop}
/-- 'make(nat, n)' of the reference -/
theorem mk_i64 (w : World) (hgd : o.guard = none) (l c : Operand) (ho : o.op = Op.makeSlice 54 l c) (base n : Nat) (L C : Int) (hl : a.eval l = .int .i64 L) (hc : a.eval c = .int .i64 C) (hL : L = (n : Int)) (hC : C = (n : Int)) (hn : n ≤ 1000000000000) (hbase : base ≤ w.heap.size)
    (h : ∀ w', Own .i64 3 w' base (.slice (some ⟨w.heap.size, 0, none⟩) n n) n (fun _ => 0) → Below base w w' → w'.heap.size = w.heap.size + 1 → Below w.heap.size w w' → wpList Tryz.prog ops Q rest (a.put o.dst (.slice (some ⟨w.heap.size, 0, none⟩) n n)) w') :
    wpList Tryz.prog ops Q (o :: rest) a w := by
  obtain ⟨i0, hi, hz0, hz1, hz2⟩ := info_parts Tryz.infoInt
  subst hL
  subst hC
  have hm := run_make (P := Tryz.prog) w 54 3 i0 (.int .i64 0) Tryz.underlying54 hi hz0 .i64 .i64 n n (by omega) (by omega) (by rw [hz2]; omega) (by omega)
  refine wpList_plain hgd fun K hK' => ?_
  unfold Oper.wp
  simp only [Int.toNat_natCast] at hm
  simp [execOp, ho, hl, hc, hm, Result.andThen]
  refine hK' _ _ (h _ ?_ ?_ ?_ ?_)
  · have := World.ownsRow_lit (e := 3) (size := 1) w (madeCells (Value.int IntKind.i64 0).cells (n * 1)) n hbase (by unfold maxLen; omega) (size_madeCells _ _)
    unfold Own
    rw [← cellsK_make]
    rw [hz1]
    exact this
  · exact (Below.refl base w).alloc hbase _
  · simp
  · exact (Below.refl _ w).alloc (Nat.le_refl _) _
end
set_option maxRecDepth 100000 in
set_option maxHeartbeats 4000000 in
theorem timesD_fn {v u : Value} {m n : Nat} {w : World} (hv : DecRep w v m) (hu : DecRep w u n) (hm : dlen 10 m ≤ 10000000) (hn : dlen 10 n ≤ 10000000) :
    Calls Tryz.prog 115 #[v, u] w (FreshDec (m * n) w) := by
  obtain ⟨a, cap, rfl⟩ := hv.shape
  obtain ⟨a', cap', rfl⟩ := hu.shape
  go_enter Tryz.func115, Tryz.ntmps115
  go_wp2_with (at_make; refine mk_i64 _ rfl _ _ rfl w.heap.size (dlen 10 m + dlen 10 n) _ _ rfl rfl (by simp) (by simp) (by omega) (Nat.le_refl _) ?_; intro w1 hown hb hz hb1)
  go_loopw [18] (fun i wr => ∃ j : Nat, i = .int .i64 j ∧ j ≤ dlen 10 m ∧ Own .i64 3 wr w.heap.size (.slice (some ⟨w.heap.size, 0, none⟩) (dlen 10 m + dlen 10 n) (dlen 10 m + dlen 10 n)) (dlen 10 m + dlen 10 n) (dgt 10 (sX m n j)) ∧ Below w.heap.size w wr)
    (fun i _ => dlen 10 m - (intOf i).toNat)
  case atStart => exact ⟨0, rfl, Nat.zero_le _, hown.congr (fun t _ => by rw [sX_zero]; simp [dgt]), hb⟩
  case round =>
    obtain ⟨i, rfl, hi, hown1, hbr⟩ := hrel
    by_cases hlt : i < dlen 10 m
    · obtain ⟨a1, cap1, hv1, _, hcell⟩ := hv.below hbr
      simp only [Value.slice.injEq, true_and] at hv1
      obtain ⟨rfl, rfl⟩ := hv1
      obtain ⟨b, off, rfl, _, hc0⟩ := hcell (by omega)
      have hcj := hc0 i hlt
      have hd := dgt_lt 10 m i (by decide)
      clear hown hb hz hb1
      obtain ⟨wo, rfl⟩ : ∃ wo : World, wo = wr := ⟨_, rfl⟩
      go_wp2
      go_loopw [7, 8] (fun carry kv wr => ∃ k : Nat, kv = .int .i64 k ∧ i + k ≤ dlen 10 m + dlen 10 n ∧ carry = .int .i64 (cX m n i k) ∧ Own .i64 3 wr w.heap.size (.slice (some ⟨w.heap.size, 0, none⟩) (dlen 10 m + dlen 10 n) (dlen 10 m + dlen 10 n)) (dlen 10 m + dlen 10 n) (fun t => if t < i + k then dgt 10 (tX m n i k) t else dgt 10 (sX m n i) t) ∧ Below w.heap.size w wr)
        (fun _ k _ => dlen 10 m + dlen 10 n + 1 - (intOf k).toNat)
      case atStart =>
        refine ⟨0, rfl, by omega, by rw [cX_zero]; rfl, hown1.congr (fun t _ => ?_), hbr⟩
        by_cases e : t < i
        · rw [if_pos (by omega), tX_start m n i t e]
        · rw [if_neg (by omega)]
      case round =>
        obtain ⟨k, rfl, hk, rfl, hown2, hbr2⟩ := hrel
        have hsz2 := hbr2.size
        by_cases hlt2 : k < dlen 10 n
        · skip
          have hoc := hown2.cell (i + k) (by omega)
          rw [if_neg (by omega)] at hoc
          have hof := hown2.free (i + k)
          have hdn := dgt_lt 10 n k (by decide)
          have hds := dgt_lt 10 (sX m n i) (i + k) (by decide)
          have hcx := cX_lt m n i k
          have hpp : dgt 10 m i * dgt 10 n k ≤ 9 * 9 := Nat.mul_le_mul (by omega) (by omega)
          have hpc : ((dgt 10 m i : Nat) : Int) * ((dgt 10 n k : Nat) : Int) = ((dgt 10 m i * dgt 10 n k : Nat) : Int) := by rw [Int.natCast_mul]
          have HU1 := hid (uX_mod m n i k)
          have HU2 := hid (uX_div m n i k)
          have HU := hid (show uX m n i k = dgt 10 (sX m n i) (i + k) + dgt 10 m i * dgt 10 n k + cX m n i k from rfl)
          have hcd := hid (fun (q : Nat) => dig_fn (hu.below (hbr2.trans (below_drewN (Below.refl w.heap.size wr) q))) (by omega) k (by omega))
          have hwik : IntKind.i64.wrap ((i : Int) + (k : Int)) = ((i + k : Nat) : Int) := by rw [← Int.natCast_add]; exact wrap_i64_nat _ (by omega)
          have hw2 : IntKind.i64.wrap (((dgt 10 m i : Nat) : Int) * ((dgt 10 n k : Nat) : Int)) = ((dgt 10 m i * dgt 10 n k : Nat) : Int) := by rw [hpc]; exact wrap_i64_nat _ (by omega)
          have hw3 : IntKind.i64.wrap (((dgt 10 (sX m n i) (i + k) : Nat) : Int) + ((dgt 10 m i * dgt 10 n k : Nat) : Int)) = ((dgt 10 (sX m n i) (i + k) + dgt 10 m i * dgt 10 n k : Nat) : Int) := by rw [← Int.natCast_add]; exact wrap_i64_nat _ (by omega)
          have hw4 : IntKind.i64.wrap (((dgt 10 (sX m n i) (i + k) + dgt 10 m i * dgt 10 n k : Nat) : Int) + ((cX m n i k : Nat) : Int)) = ((uX m n i k : Nat) : Int) := by rw [← Int.natCast_add, HU.out]; exact wrap_i64_nat _ (by omega)
          have hul : uX m n i k < 1000 := by rw [HU.out]; omega
          have hix1 : 0 ≤ (i : Int) + (k : Int) := by omega
          have hix2 : (i : Int) + (k : Int) < (dlen 10 m : Int) + (dlen 10 n : Int) := by omega
          have hix3 : ((i : Int) + (k : Int)).toNat = i + k := by omega
          have hix4 : (0 ≤ (i : Int) + (k : Int) ∧ (i : Int) + (k : Int) < (dlen 10 m : Int) + (dlen 10 n : Int)) = True := by simp [hix1, hix2]
          have hik : i + k < dlen 10 m + dlen 10 n := by omega
          clear hcell hc0 hcj hpc
          obtain ⟨a2, cap2, hv2, _, hcell2⟩ := hv.below hbr2
          simp only [Value.slice.injEq, true_and] at hv2
          obtain ⟨rfl, rfl⟩ := hv2
          obtain ⟨b2, off2, hbo, _, hc2⟩ := hcell2 (by omega)
          simp only [Option.some.injEq, Addr.mk.injEq, and_true] at hbo
          obtain ⟨rfl, rfl⟩ := hbo
          have hcj := hc2 i hlt
          clear hc2 hcell2
          go_wp2_with fail
          go_quiet ((go_at_call 130; exact Calls.quiet_of_same (hcd.out _)))
          have hX : ((uX m n i k : Nat) : Int) = ((dgt 10 (sX m n i) (i + k) : Nat) : Int) + ((dgt 10 m i : Nat) : Int) * ((dgt 10 n k : Nat) : Int) + ((cX m n i k : Nat) : Int) := by rw [HU.out]; simp
          have HX := hid hX
          clear hX
          go_wp2
          go_roundw
          case rel =>
            refine ⟨k + 1, by go_num, by omega, ?_, ?_, (below_drewN hbr2 nq).setCell (Nat.le_refl _) _⟩
            · rw [← HU2.out, ← HX.out]; rfl
            · rw [← HX.out, show ((uX m n i k : Nat) : Int) % 10 = ((uX m n i k % 10 : Nat) : Int) by omega, HU1.out]
              have hown3 : Own .i64 3 (wr.drewN nq) w.heap.size (.slice (some ⟨w.heap.size, 0, none⟩) (dlen 10 m + dlen 10 n) (dlen 10 m + dlen 10 n)) (dlen 10 m + dlen 10 n) (fun t => if t < i + k then dgt 10 (tX m n i k) t else dgt 10 (sX m n i) t) := hown2
              refine (hown3.store (i + k) _).congr ?_
              intro t ht
              show (if t = i + k then _ else if t < i + k then _ else _) = _
              by_cases e : t = i + k
              · rw [if_pos e, if_pos (by omega), e]
              · rw [if_neg e]
                by_cases e2 : t < i + k
                · rw [if_pos e2, if_pos (by omega), tX_low m n i k t e2]
                · rw [if_neg e2, if_neg (by omega)]
          case measure => simp [intOf] <;> omega
        · by_cases hc0' : 0 < cX m n i k
          · have hin := cX_in m n i k (by omega) hc0'
            have hoc := hown2.cell (i + k) (by omega)
            rw [if_neg (by omega)] at hoc
            have hof := hown2.free (i + k)
            have hdn := dgt_lt 10 n k (by decide)
            have hds := dgt_lt 10 (sX m n i) (i + k) (by decide)
            have hcx := cX_lt m n i k
            have hpp : dgt 10 m i * dgt 10 n k ≤ 9 * 9 := Nat.mul_le_mul (by omega) (by omega)
            have hpc : ((dgt 10 m i : Nat) : Int) * ((dgt 10 n k : Nat) : Int) = ((dgt 10 m i * dgt 10 n k : Nat) : Int) := by rw [Int.natCast_mul]
            have HU1 := hid (uX_mod m n i k)
            have HU2 := hid (uX_div m n i k)
            have HU := hid (show uX m n i k = dgt 10 (sX m n i) (i + k) + dgt 10 m i * dgt 10 n k + cX m n i k from rfl)
            have hcd := hid (fun (q : Nat) => dig_fn (hu.below (hbr2.trans (below_drewN (Below.refl w.heap.size wr) q))) (by omega) k (by omega))
            have hwik : IntKind.i64.wrap ((i : Int) + (k : Int)) = ((i + k : Nat) : Int) := by rw [← Int.natCast_add]; exact wrap_i64_nat _ (by omega)
            have hw2 : IntKind.i64.wrap (((dgt 10 m i : Nat) : Int) * ((dgt 10 n k : Nat) : Int)) = ((dgt 10 m i * dgt 10 n k : Nat) : Int) := by rw [hpc]; exact wrap_i64_nat _ (by omega)
            have hw3 : IntKind.i64.wrap (((dgt 10 (sX m n i) (i + k) : Nat) : Int) + ((dgt 10 m i * dgt 10 n k : Nat) : Int)) = ((dgt 10 (sX m n i) (i + k) + dgt 10 m i * dgt 10 n k : Nat) : Int) := by rw [← Int.natCast_add]; exact wrap_i64_nat _ (by omega)
            have hw4 : IntKind.i64.wrap (((dgt 10 (sX m n i) (i + k) + dgt 10 m i * dgt 10 n k : Nat) : Int) + ((cX m n i k : Nat) : Int)) = ((uX m n i k : Nat) : Int) := by rw [← Int.natCast_add, HU.out]; exact wrap_i64_nat _ (by omega)
            have hul : uX m n i k < 1000 := by rw [HU.out]; omega
            have hix1 : 0 ≤ (i : Int) + (k : Int) := by omega
            have hix2 : (i : Int) + (k : Int) < (dlen 10 m : Int) + (dlen 10 n : Int) := by omega
            have hix3 : ((i : Int) + (k : Int)).toNat = i + k := by omega
            have hix4 : (0 ≤ (i : Int) + (k : Int) ∧ (i : Int) + (k : Int) < (dlen 10 m : Int) + (dlen 10 n : Int)) = True := by simp [hix1, hix2]
            have hik : i + k < dlen 10 m + dlen 10 n := by omega
            clear hcell hc0 hcj hpc
            obtain ⟨a2, cap2, hv2, _, hcell2⟩ := hv.below hbr2
            simp only [Value.slice.injEq, true_and] at hv2
            obtain ⟨rfl, rfl⟩ := hv2
            obtain ⟨b2, off2, hbo, _, hc2⟩ := hcell2 (by omega)
            simp only [Option.some.injEq, Addr.mk.injEq, and_true] at hbo
            obtain ⟨rfl, rfl⟩ := hbo
            have hcj := hc2 i hlt
            clear hc2 hcell2
            go_wp2_with fail
            go_quiet ((go_at_call 130; exact Calls.quiet_of_same (hcd.out _)))
            have hX : ((uX m n i k : Nat) : Int) = ((dgt 10 (sX m n i) (i + k) : Nat) : Int) + ((dgt 10 m i : Nat) : Int) * ((dgt 10 n k : Nat) : Int) + ((cX m n i k : Nat) : Int) := by rw [HU.out]; simp
            have HX := hid hX
            clear hX
            go_wp2
            go_roundw
            case rel =>
              refine ⟨k + 1, by go_num, by omega, ?_, ?_, (below_drewN hbr2 nq).setCell (Nat.le_refl _) _⟩
              · rw [← HU2.out, ← HX.out]; rfl
              · rw [← HX.out, show ((uX m n i k : Nat) : Int) % 10 = ((uX m n i k % 10 : Nat) : Int) by omega, HU1.out]
                have hown3 : Own .i64 3 (wr.drewN nq) w.heap.size (.slice (some ⟨w.heap.size, 0, none⟩) (dlen 10 m + dlen 10 n) (dlen 10 m + dlen 10 n)) (dlen 10 m + dlen 10 n) (fun t => if t < i + k then dgt 10 (tX m n i k) t else dgt 10 (sX m n i) t) := hown2
                refine (hown3.store (i + k) _).congr ?_
                intro t ht
                show (if t = i + k then _ else if t < i + k then _ else _) = _
                by_cases e : t = i + k
                · rw [if_pos e, if_pos (by omega), e]
                · rw [if_neg e]
                  by_cases e2 : t < i + k
                  · rw [if_pos e2, if_pos (by omega), tX_low m n i k t e2]
                  · rw [if_neg e2, if_neg (by omega)]
            case measure => simp [intOf] <;> omega
          · have hz : cX m n i k = 0 := by omega
            have hE := hown2.congr (g := dgt 10 (sX m n (i + 1))) (fun t ht => by
              show (if t < i + k then _ else _) = _
              by_cases e : t < i + k
              · rw [if_pos e, tX_end m n i k (by omega)]
              · rw [if_neg e, tX_rest m n i k t (by omega) hz (by omega)])
            clear hown2
            go_wp2
            go_roundw
            case rel => exact ⟨i + 1, by go_num, by omega, hE, hbr2⟩
            case measure => simp [intOf] <;> omega
    · obtain rfl : i = dlen 10 m := by omega
      rw [sX_all] at hown1
      have hN := mulX_lt m n
      have hdl := (dlen_le_iff 10 _ _ (by decide)).2 hN
      have hct := hid (trimmedD_row hown1.row (by omega) hN)
      go_wp2_with fail
      (with_reducible refine hct.out.mono ?_); rintro e w' ⟨rfl, rfl⟩
      go_wp2
      go_ret
      exact ⟨_, rfl, hown1.cut hdl, hbr⟩
end Go.Proofs.YtkhgoeippamobaaGreatDoor
/-
  The reference: digits of a base.
-/
namespace Go.Proofs.YtkhgoeippamobaaGreatDoor
open Go.RowKit
/-- what the reference reads: a number too long may be cut -/
def Near (n N : Nat) : Prop := n = N ∨ (big600 ≤ n ∧ big600 ≤ N)
theorem big_1200 (n : Nat) (h : 1200 < dlen 10 n) : big600 ≤ n := by
  have h1 := digits_600 n
  rcases Nat.lt_or_ge n big600 with h2 | h2
  · have := h1.2 h2; omega
  · exact h2
theorem dlen_mono (m n : Nat) (h : m ≤ n) : dlen 10 m ≤ dlen 10 n := (dlen_le_iff 10 m _ (by decide)).2 (Nat.lt_of_le_of_lt h (dlen_lt 10 n (by decide)))
theorem dlen_step (n b c : Nat) (hb : b ≤ 36) (hc : c ≤ 36) : dlen 10 (n * b + c) ≤ dlen 10 n + 2 := by
  rw [dlen_le_iff 10 _ _ (by decide)]
  have h1 := dlen_lt 10 n (by decide)
  have h2 := Nat.mul_le_mul_left n hb
  rw [Nat.pow_add]
  generalize 10 ^ dlen 10 n = X at h1 ⊢
  omega
/-- what 'digits' answers -/
def DigP (b : Nat) (l : List UInt8) (w : World) (e : Ending) (w' : World) : Prop :=
  ∃ v n, e = .returned (.tuple #[v, .bool (rOK b l)]) ∧ Below w.heap.size w w' ∧ OwnDec w' w.heap.size v n ∧ dlen 10 n ≤ 2000 ∧ (rOK b l = true → Near n (numOf b l))
theorem near_step (n N b c : Nat) (hb : 2 ≤ b) (h : Near n N) : Near (n * b + c) (N * b + c) := by
  rcases h with rfl | ⟨h1, h2⟩
  · exact .inl rfl
  · right
    have h3 := Nat.le_mul_of_pos_right n (show 0 < b by omega)
    have h4 := Nat.le_mul_of_pos_right N (show 0 < b by omega)
    omega
theorem near_keep (n N b c : Nat) (hb : 2 ≤ b) (h : Near n N) (hn : big600 ≤ n) : Near n (N * b + c) := by
  right
  have h4 := Nat.le_mul_of_pos_right N (show 0 < b by omega)
  rcases h with rfl | ⟨h1, h2⟩ <;> omega
set_option maxRecDepth 100000 in
set_option maxHeartbeats 4000000 in
theorem digits_fn (l : List UInt8) (hl : l.length ≤ 1000000000) (b : Nat) (hb2 : 2 ≤ b) (hb36 : b ≤ 36) (w : World) :
    Calls Tryz.prog 127 #[.string ⟨l.toArray⟩, .int .i64 b] w (DigP b l w) := by
  have hsz : (⟨l.toArray⟩ : ByteArray).size = l.length := Lib.size_mk _
  go_enter Tryz.func127, Tryz.ntmps127
  go_wp2
  go_loopw [6, 7, 12] (fun sv zv iv wr => ∃ (i n : Nat) (z : Bool), iv = .int .i64 i ∧ i ≤ l.length ∧ OwnDec wr w.heap.size sv n ∧ zv = .bool z ∧ (z = true → n = 0 ∧ numOf b (l.take i) = 0) ∧ Near n (numOf b (l.take i)) ∧ dlen 10 n ≤ 1202 ∧ (∀ j (h : j < l.length), j < i → valOf (l[j]'h) < b) ∧ Below w.heap.size w wr) (fun _ _ iv _ => l.length - (intOf iv).toNat)
  case atStart => exact ⟨0, 0, true, rfl, Nat.zero_le _, Own.nil, rfl, fun _ => ⟨rfl, rfl⟩, .inl rfl, by decide, fun j _ h => absurd h (Nat.not_lt_zero _), Below.refl _ _⟩
  case round =>
    obtain ⟨i, n, z, rfl, hi, hown, rfl, hz, hnear, hdl, hall, hbr⟩ := hrel
    obtain ⟨a, cap, hv⟩ := hown.dec.shape
    subst hv
    have HZ := hid hz
    have HN := hid hnear
    have HA := hid hall
    have hszr := hbr.size
    clear hz hnear hall
    by_cases hlt : i < l.length
    · have hx : ∀ h, (⟨l.toArray⟩ : ByteArray)[i]'h = l[i]'hlt := fun h => rfl
      have hc := hid (digitR_fn (l[i]'hlt) b hb36 hb2 wr)
      have HT := hid (numOf_take_succ b l i hlt)
      have hv36 := valOf_le (l[i]'hlt)
      by_cases hv : valOf (l[i]'hlt) < b
      · have hd : digR (l[i]'hlt) b = (valOf (l[i]'hlt) : Int) := by unfold digR; rw [if_pos hv]
        rw [hd] at hc
        have hc := hid hc.out
        have HA2 := hid (show ∀ j (h : j < l.length), j < i + 1 → valOf (l[j]'h) < b from fun j h hj => by
          rcases Nat.lt_or_ge j i with h1 | h1
          · exact HA.out j h h1
          · obtain rfl : j = i := by omega
            exact hv)
        clear hd
        generalize valOf (l[i]'hlt) = c at *
        by_cases hskip : z = true ∧ c = 0
        · obtain ⟨rfl, rfl⟩ := hskip
          go_wp2_with fail
          (with_reducible refine hc.out.mono ?_); rintro e w' ⟨rfl, rfl⟩
          go_wp2
          go_roundw
          case rel =>
            obtain ⟨h1, h2⟩ := HZ.out (by first | rfl | trivial)
            refine ⟨i + 1, n, true, by go_num, by omega, hown, rfl, fun _ => ⟨h1, by rw [HT.out, h2]; simp⟩, ?_, hdl, HA2.out, hbr⟩
            rw [HT.out, h2, h1]
            left; simp
          case measure => simp [intOf] <;> omega
        · cases z with
          | false =>
            have HB := hid (big_1200 n)
            by_cases hlong : dlen 10 n ≤ 1200
            · have hn1 := hid (natOf_fn b (by omega) wr)
              have hdlb := dlen_step n b c hb36 hv36
              have hdb : dlen 10 b ≤ 19 := dlen_small b (by omega)
              have hdc : dlen 10 c ≤ 19 := dlen_small c (by omega)
              have hdnb : dlen 10 (n * b) ≤ 1300 := by have := dlen_step n b 0 hb36 (by omega); simp at this; omega
              go_wp2_with fail
              (with_reducible refine hc.out.mono ?_); rintro e w' ⟨rfl, rfl⟩
              go_wp2_with fail
              (with_reducible refine hn1.out.mono ?_); rintro e w1 ⟨v1, rfl, ho1, hb1⟩
              have ht := hid (timesD_fn (hown.dec.below hb1) ho1.dec (by omega) (by omega))
              obtain ⟨a1, p1, rfl⟩ := ho1.dec.shape
              go_wp2_with fail
              (with_reducible refine ht.out.mono ?_); rintro e w2 ⟨v2, rfl, ho2, hb2'⟩
              have hn2 := hid (natOf_fn c (by omega) w2)
              obtain ⟨a2, p2, rfl⟩ := ho2.dec.shape
              go_wp2_with fail
              (with_reducible refine hn2.out.mono ?_); rintro e w3 ⟨v3, rfl, ho3, hb3⟩
              have hp := hid (plusD_fn (ho2.dec.below hb3) ho3.dec (by omega) (by omega))
              obtain ⟨a3, p3, rfl⟩ := ho3.dec.shape
              go_wp2_with fail
              (with_reducible refine hp.out.mono ?_); rintro e w4 ⟨v4, rfl, ho4, hb4⟩
              obtain ⟨a4, p4, rfl⟩ := ho4.dec.shape
              have e1 := hb1.size
              have e2 := hb2'.size
              have e3 := hb3.size
              go_wp2
              go_roundw
              case rel =>
                refine ⟨i + 1, n * b + c, false, by go_num, by omega, Own.mono ho4 (by omega), rfl, fun h => (by first | exact absurd h (by decide) | cases h), ?_, by omega, HA2.out, hbr.trans ((hb1.mono hszr).trans ((hb2'.mono (by omega)).trans ((hb3.mono (by omega)).trans (hb4.mono (by omega)))))⟩
                rw [HT.out]
                exact near_step n _ b c hb2 HN.out
              case measure => simp [intOf] <;> omega
            · go_wp2_with fail
              (with_reducible refine hc.out.mono ?_); rintro e w' ⟨rfl, rfl⟩
              go_wp2
              go_roundw
              case rel =>
                refine ⟨i + 1, n, false, by go_num, by omega, hown, rfl, fun h => (by first | exact absurd h (by decide) | cases h), ?_, hdl, HA2.out, hbr⟩
                rw [HT.out]
                exact near_keep n _ b c hb2 HN.out (HB.out (by omega))
              case measure => simp [intOf] <;> omega
          | true =>
            have hc0 : c ≠ 0 := fun h => hskip ⟨rfl, h⟩
            have hcb : ((c : Int) == 0) = false := by rw [beq_eq_false_iff_ne]; omega
            clear hskip
            have HB := hid (big_1200 n)
            by_cases hlong : dlen 10 n ≤ 1200
            · have hn1 := hid (natOf_fn b (by omega) wr)
              have hdlb := dlen_step n b c hb36 hv36
              have hdb : dlen 10 b ≤ 19 := dlen_small b (by omega)
              have hdc : dlen 10 c ≤ 19 := dlen_small c (by omega)
              have hdnb : dlen 10 (n * b) ≤ 1300 := by have := dlen_step n b 0 hb36 (by omega); simp at this; omega
              go_wp2_with fail
              (with_reducible refine hc.out.mono ?_); rintro e w' ⟨rfl, rfl⟩
              go_wp2_with fail
              (with_reducible refine hn1.out.mono ?_); rintro e w1 ⟨v1, rfl, ho1, hb1⟩
              have ht := hid (timesD_fn (hown.dec.below hb1) ho1.dec (by omega) (by omega))
              obtain ⟨a1, p1, rfl⟩ := ho1.dec.shape
              go_wp2_with fail
              (with_reducible refine ht.out.mono ?_); rintro e w2 ⟨v2, rfl, ho2, hb2'⟩
              have hn2 := hid (natOf_fn c (by omega) w2)
              obtain ⟨a2, p2, rfl⟩ := ho2.dec.shape
              go_wp2_with fail
              (with_reducible refine hn2.out.mono ?_); rintro e w3 ⟨v3, rfl, ho3, hb3⟩
              have hp := hid (plusD_fn (ho2.dec.below hb3) ho3.dec (by omega) (by omega))
              obtain ⟨a3, p3, rfl⟩ := ho3.dec.shape
              go_wp2_with fail
              (with_reducible refine hp.out.mono ?_); rintro e w4 ⟨v4, rfl, ho4, hb4⟩
              obtain ⟨a4, p4, rfl⟩ := ho4.dec.shape
              have e1 := hb1.size
              have e2 := hb2'.size
              have e3 := hb3.size
              go_wp2
              go_roundw
              case rel =>
                refine ⟨i + 1, n * b + c, false, by go_num, by omega, Own.mono ho4 (by omega), rfl, fun h => (by first | exact absurd h (by decide) | cases h), ?_, by omega, HA2.out, hbr.trans ((hb1.mono hszr).trans ((hb2'.mono (by omega)).trans ((hb3.mono (by omega)).trans (hb4.mono (by omega)))))⟩
                rw [HT.out]
                exact near_step n _ b c hb2 HN.out
              case measure => simp [intOf] <;> omega
            · go_wp2_with fail
              (with_reducible refine hc.out.mono ?_); rintro e w' ⟨rfl, rfl⟩
              go_wp2
              go_roundw
              case rel =>
                refine ⟨i + 1, n, false, by go_num, by omega, hown, rfl, fun h => (by first | exact absurd h (by decide) | cases h), ?_, hdl, HA2.out, hbr⟩
                rw [HT.out]
                exact near_keep n _ b c hb2 HN.out (HB.out (by omega))
              case measure => simp [intOf] <;> omega
      · have hd : digR (l[i]'hlt) b = -1 := by unfold digR; rw [if_neg hv]
        rw [hd] at hc
        have hc := hid hc.out
        have HB := hid (rOK_bad b l i hlt hv)
        clear hd hv
        go_wp2_with fail
        (with_reducible refine hc.out.mono ?_); rintro e w' ⟨rfl, rfl⟩
        go_wp2
        refine bodyPost_ret (v := .tuple #[.slice none 0 0, .bool false]) (by simp [results, Tryz.results127, go_sem]) rfl ⟨_, 0, by rw [HB.out], hbr, Own.nil, by decide, fun h => absurd h (by rw [HB.out]; decide)⟩
    · obtain rfl : i = l.length := by omega
      have HR := hid (show rOK b l = !l.isEmpty by
        unfold rOK
        rw [List.all_eq_true.2 (fun c hc => by
          obtain ⟨j, hj, rfl⟩ := List.getElem_of_mem hc
          exact decide_eq_true (HA.out j hj hj)), Bool.and_true])
      have hnn := HN.out
      rw [List.take_length] at hnn
      have HNN := hid hnn
      clear hnn HN HZ
      go_wp2
      refine bodyPost_ret (v := .tuple #[.slice a (dlen 10 n) cap, .bool (!l.isEmpty)]) (by simp [results, Tryz.results127, go_sem]) rfl ⟨_, n, by rw [HR.out], hbr, hown, by omega, fun _ => HNN.out⟩
end Go.Proofs.YtkhgoeippamobaaGreatDoor
/-
  The reference: Number.
-/
namespace Go.Proofs.YtkhgoeippamobaaGreatDoor
open Go.RowKit
/-- a number that the reference read: too long ones may be cut -/
def PRef (w : World) (base : Nat) (v : Value) (z : Int) : Prop := ∃ z', OwnDNum w base v z' ∧ dlen 10 z'.natAbs ≤ 2002000 ∧ (z' = z ∨ (big600 ≤ z'.natAbs ∧ big600 ≤ z.natAbs ∧ decide (z' < 0) = decide (z < 0)))
/-- what 'Number' answers -/
def NumP (l : List UInt8) (w : World) (e : Ending) (w' : World) : Prop :=
  ∃ v, e = .returned (.tuple #[v, .bool (pOK l)]) ∧ Below w.heap.size w w' ∧ (pOK l = true → PRef w' w.heap.size v (pVal l)) ∧ (∃ g s n c, v = .agg #[.bool g, .slice s n c])
/-- the first byte, 0 for none -/
def b0 (S : List UInt8) : Nat := (S.headD 0).toNat
set_option maxRecDepth 100000 in
set_option maxHeartbeats 4000000 in
theorem number_fn (l : List UInt8) (hl : l.length ≤ 2000000) (w : World) :
    Calls Tryz.prog 63 #[.string ⟨l.toArray⟩] w (NumP l w) := by
  have k0 := Blk.new w #[.bool false, .slice none 0 0] 56
  have hb0 : Below w.heap.size w (w.alloc (.cells #[.bool false, .slice none 0 0] 56)) := (Below.refl _ _).alloc (Nat.le_refl _) _
  have hsz0 : (w.alloc (.cells #[.bool false, .slice none 0 0] 56)).heap.size = w.heap.size + 1 := by simp
  have hc := fun w => hid (strip_fn l (by omega) w)
  have hS : (strip l).length ≤ 2000000 := Nat.le_trans (strip_len l) hl
  go_enter Tryz.func63, Tryz.ntmps63
  go_upto_region 3 with (first | fail | (with_reducible refine (hc _).out.mono ?_); rintro e w' ⟨rfl, rfl⟩)
  generalize w.alloc (.cells #[.bool false, .slice none 0 0] 56) = W at *
  clear hc
  generalize hSS : strip l = S at *
  have hSS := hid hSS
  go_cut [21] from 10 to 21 (fun v wx => v = .bool (([45] : List UInt8).isPrefixOf S || ([43] : List UInt8).isPrefixOf S) ∧ W = wx)
  case first =>
    cases S with
    | nil =>
      go_wp2
      go_meet
      case rel => exact ⟨rfl, rfl⟩
    | cons x T =>
      have h1 : (⟨(x :: T).toArray⟩ : ByteArray).size = T.length + 1 := by rw [Lib.size_mk]; simp
      have hx : ∀ h, (⟨(x :: T).toArray⟩ : ByteArray)[0]'h = x := fun h => rfl
      have hne : (x :: T == ([] : List UInt8)) = false := rfl
      have hT : T.length ≤ 1999999 := by simpa using hS
      have hpre : (([45] : List UInt8).isPrefixOf (x :: T) || ([43] : List UInt8).isPrefixOf (x :: T)) = ((45 == x) || (43 == x)) := by simp [List.isPrefixOf]
      have HP := hid hpre
      clear hS hpre
      by_cases e1 : x = 45
      · subst e1
        go_wp2
        go_meet
        case rel => exact ⟨by rw [HP.out]; rfl, rfl⟩
      · have n1 : (((x.toNat : Nat) : Int) == 45) = false := by
          rw [beq_eq_false_iff_ne]
          intro h
          exact e1 (UInt8.toNat_inj.1 (show x.toNat = 45 by omega))
        have m1 : ((45 : UInt8) == x) = false := by rw [beq_eq_false_iff_ne]; exact fun h => e1 h.symm
        by_cases e2 : x = 43
        · subst e2
          go_wp2
          go_meet
          case rel => exact ⟨by rw [HP.out]; rfl, rfl⟩
        · have n2 : (((x.toNat : Nat) : Int) == 43) = false := by
            rw [beq_eq_false_iff_ne]
            intro h
            exact e2 (UInt8.toNat_inj.1 (show x.toNat = 43 by omega))
          have m2 : ((43 : UInt8) == x) = false := by rw [beq_eq_false_iff_ne]; exact fun h => e2 h.symm
          go_wp2
          go_meet
          case rel => exact ⟨by rw [HP.out, m1, m2]; rfl, rfl⟩
  case rest =>
    obtain ⟨rfl, rfl⟩ := hcut
    generalize hBB : (([45] : List UInt8).isPrefixOf S || ([43] : List UInt8).isPrefixOf S) = B
    have HB0 := hid hBB
    clear hBB
    go_upto_if 21 with fail
    go_cut [0, 4] from 22 to 26 (fun s0 s4 wx => s0 = .string ⟨(pRest S).toArray⟩ ∧ s4 = .bool (pNeg S) ∧ W = wx)
    case first =>
      obtain ⟨T, hT, hcase⟩ := sign_cases S
      have HT := hid hT
      clear hT
      rcases hcase with ⟨rfl, hn⟩ | ⟨rfl, hn, hm, hp⟩ | ⟨hST, hn, hm, hp⟩
      · have HN := hid hn
        have h1 : (⟨(45 :: T).toArray⟩ : ByteArray).size = T.length + 1 := by rw [Lib.size_mk]; simp
        have h2 : (⟨(45 :: T).toArray⟩ : ByteArray).extract 1 (T.length + 1) = ⟨T.toArray⟩ := by rw [Lib.extract_mk]; simp
        have hx : ∀ h, (⟨(45 :: T).toArray⟩ : ByteArray)[0]'h = 45 := fun h => rfl
        have hb : B = true := by rw [← HB0.out]; simp [List.isPrefixOf]
        have hT' : T.length ≤ 1999999 := by simpa using hS
        subst hb
        clear hn hS
        go_wp2
        go_meet
        case rel => exact ⟨by rw [HT.out], by rw [HN.out], rfl⟩
      · have HN := hid hn
        have h1 : (⟨(43 :: T).toArray⟩ : ByteArray).size = T.length + 1 := by rw [Lib.size_mk]; simp
        have h2 : (⟨(43 :: T).toArray⟩ : ByteArray).extract 1 (T.length + 1) = ⟨T.toArray⟩ := by rw [Lib.extract_mk]; simp
        have hx : ∀ h, (⟨(43 :: T).toArray⟩ : ByteArray)[0]'h = 43 := fun h => rfl
        have hb : B = true := by rw [← HB0.out]; simp [List.isPrefixOf]
        have hT' : T.length ≤ 1999999 := by simpa using hS
        subst hb
        clear hn hm hp hS
        go_wp2
        go_meet
        case rel => exact ⟨by rw [HT.out], by rw [HN.out], rfl⟩
      · have HN := hid hn
        have hST' := hid hST
        have hb : B = false := by rw [← HB0.out, hm, hp]; rfl
        subst hb
        clear hn hm hp hST
        go_wp2
        go_meet
        case rel => exact ⟨by rw [HT.out, ← hST'.out], by rw [HN.out], rfl⟩
    case rest =>
      obtain ⟨rfl, rfl, rfl⟩ := hcut
      have hT : (pRest S).length ≤ 2000000 := by
        refine Nat.le_trans ?_ hS
        unfold pRest
        split
        · rw [List.length_tail]; omega
        · exact Nat.le_refl _
      have hok : pOK l = rOK (pBase (pRest (strip l))) (pBody (pRest (strip l))) := rfl
      have hval : pVal l = sgnInt (pNeg (strip l)) (numOf (pBase (pRest (strip l))) (pBody (pRest (strip l)))) := rfl
      rw [hSS.out] at hok hval
      have HOK := hid hok
      have HVAL := hid hval
      clear hok hval hS hSS
      generalize pRest S = T at *
      generalize pNeg S = ng at *
      go_upto_region 7 with fail
      go_cut [34] from 27 to 34 (fun v wx => v = .bool (decide (1 < T.length) && ((48 : UInt8) == T.headD 0)) ∧ W = wx)
      case first =>
        cases T with
        | nil =>
          have h1 : (⟨([] : List UInt8).toArray⟩ : ByteArray).size = 0 := rfl
          go_wp2
          go_meet
          case rel => exact ⟨rfl, rfl⟩
        | cons x R =>
          have h1 : (⟨(x :: R).toArray⟩ : ByteArray).size = R.length + 1 := by rw [Lib.size_mk]; simp
          have hx : ∀ h, (⟨(x :: R).toArray⟩ : ByteArray)[0]'h = x := fun h => rfl
          have hR : R.length ≤ 1999999 := by simpa using hT
          have HL := hid (show decide (1 < (x :: R).length) = decide (1 < R.length + 1) by simp)
          clear hT
          by_cases hr : 0 < R.length
          · by_cases e1 : x = 48
            · subst e1
              have hr2 : 1 < R.length + 1 := by omega
              go_wp2
              go_meet
              case rel => exact ⟨by rw [HL.out, decide_eq_true (by omega)]; rfl, rfl⟩
            · have n1 : (((x.toNat : Nat) : Int) == 48) = false := by
                rw [beq_eq_false_iff_ne]
                intro h
                exact e1 (UInt8.toNat_inj.1 (show x.toNat = 48 by omega))
              have m1 : ((48 : UInt8) == x) = false := by rw [beq_eq_false_iff_ne]; exact fun h => e1 h.symm
              have hr2 : 1 < R.length + 1 := by omega
              go_wp2
              go_meet
              case rel => exact ⟨by rw [List.headD_cons, m1, Bool.and_false], rfl⟩
          · have hr2 : ¬ 1 < R.length + 1 := by omega
            go_wp2
            go_meet
            case rel => exact ⟨by rw [HL.out, decide_eq_false (by omega)]; rfl, rfl⟩
      case rest =>
        obtain ⟨rfl, rfl⟩ := hcut
        generalize hBB : (decide (1 < T.length) && ((48 : UInt8) == T.headD 0)) = B2
        have HB2 := hid hBB
        clear hBB
        go_upto_if 34 with fail
        go_cut [0, 5] from 35 to 46 (fun s0 s5 wx => s0 = .string ⟨(pBody T).toArray⟩ ∧ s5 = .int .i64 (pBase T) ∧ W = wx)
        case first =>
          have three : ∀ (x : UInt8) (R : List UInt8) (W : World), T = 48 :: x :: R → B2 = true := fun x R _ h => by rw [← HB2.out, h]; simp
          cases B2 with
          | false =>
            have hpre : ∀ p : UInt8, ([48, p] : List UInt8).isPrefixOf T = false := by
              intro p
              cases T with
              | nil => rfl
              | cons y T =>
                cases T with
                | nil => simp [List.isPrefixOf]
                | cons z R =>
                  have h := HB2.out
                  have h2 : ((48 : UInt8) == y) = false := by simpa using h
                  simp [List.isPrefixOf, h2]
            have HB := hid (show pBase T = 10 by unfold pBase; rw [hpre, hpre, hpre]; rfl)
            have HD := hid (show pBody T = T by unfold pBody; rw [hpre, hpre, hpre]; rfl)
            clear three hpre
            go_wp2
            go_meet
            case rel => exact ⟨by rw [HD.out], by rw [HB.out]; rfl, rfl⟩
          | true =>
            obtain ⟨x, R, hTT⟩ : ∃ x R, T = 48 :: x :: R := by
              have h := HB2.out
              cases T with
              | nil => simp at h
              | cons y T =>
                cases T with
                | nil => simp at h
                | cons z R =>
                  have h2 : y = 48 := by
                    have : (48 : UInt8) == y := by simpa using h
                    exact (by simpa using this : (48 : UInt8) = y).symm
                  subst h2
                  exact ⟨z, R, rfl⟩
            subst hTT
            clear three HB2
            have h1 : (⟨(48 :: x :: R).toArray⟩ : ByteArray).size = R.length + 2 := by rw [Lib.size_mk]; simp
            have h2 : (⟨(48 :: x :: R).toArray⟩ : ByteArray).extract 2 (R.length + 2) = ⟨R.toArray⟩ := by rw [Lib.extract_mk]; simp
            have hx : ∀ h, (⟨(48 :: x :: R).toArray⟩ : ByteArray)[1]'h = x := fun h => rfl
            have hR : R.length ≤ 2000000 := by simp at hT; omega
            clear hT
            have key : ∀ k : UInt8, x ≠ k → (((x.toNat : Nat) : Int) == ((k.toNat : Nat) : Int)) = false ∧ ((k == x) = false) := fun k hk => ⟨by
              rw [beq_eq_false_iff_ne]
              intro h
              exact hk (UInt8.toNat_inj.1 (by omega)), by rw [beq_eq_false_iff_ne]; exact fun h => hk h.symm⟩
            by_cases e1 : x = 120
            · subst e1
              have HB := hid (show pBase (48 :: 120 :: R) = 16 by simp [pBase, List.isPrefixOf])
              have HD := hid (show pBody (48 :: 120 :: R) = R by simp [pBody, List.isPrefixOf])
              clear key
              go_wp2
              go_meet
              case rel => exact ⟨by rw [HD.out], by rw [HB.out]; rfl, rfl⟩
            · obtain ⟨n1, m1⟩ := key 120 e1
              have n1 : (((x.toNat : Nat) : Int) == 120) = false := n1
              by_cases e2 : x = 111
              · subst e2
                have HB := hid (show pBase (48 :: 111 :: R) = 8 by simp [pBase, List.isPrefixOf])
                have HD := hid (show pBody (48 :: 111 :: R) = R by simp [pBody, List.isPrefixOf])
                clear key
                go_wp2
                go_meet
                case rel => exact ⟨by rw [HD.out], by rw [HB.out]; rfl, rfl⟩
              · obtain ⟨n2, m2⟩ := key 111 e2
                have n2 : (((x.toNat : Nat) : Int) == 111) = false := n2
                by_cases e3 : x = 98
                · subst e3
                  have HB := hid (show pBase (48 :: 98 :: R) = 2 by simp [pBase, List.isPrefixOf])
                  have HD := hid (show pBody (48 :: 98 :: R) = R by simp [pBody, List.isPrefixOf])
                  clear key
                  go_wp2
                  go_meet
                  case rel => exact ⟨by rw [HD.out], by rw [HB.out]; rfl, rfl⟩
                · obtain ⟨n3, m3⟩ := key 98 e3
                  have n3 : (((x.toNat : Nat) : Int) == 98) = false := n3
                  have HB := hid (show pBase (48 :: x :: R) = 10 by simp [pBase, List.isPrefixOf, m1, m2, m3])
                  have HD := hid (show pBody (48 :: x :: R) = 48 :: x :: R by simp [pBody, List.isPrefixOf, m1, m2, m3])
                  clear key e1 e2 e3 m1 m2 m3
                  go_wp2
                  go_meet
                  case rel => exact ⟨by rw [HD.out], by rw [HB.out]; rfl, rfl⟩
        case rest =>
          obtain ⟨rfl, rfl, rfl⟩ := hcut
          have hU : (pBody T).length ≤ 2000000 := by
            refine Nat.le_trans ?_ hT
            unfold pBody
            split
            · rw [List.length_drop]; omega
            · exact Nat.le_refl _
          have hb16 : 2 ≤ pBase T ∧ pBase T ≤ 16 := by
            unfold pBase
            repeat' split
            all_goals decide
          obtain ⟨hb2, hb16⟩ := hb16
          generalize pBody T = U at *
          generalize pBase T = b at *
          clear HB2
          by_cases hten : b = 10
          · subst hten
            have HC := hid (dec_fn U (by omega) ng W)
            go_wp2_with fail
            (with_reducible refine HC.out.mono ?_); rintro e w1 ⟨v, rfl, hb1, hv, g, s, n, c, rfl⟩
            obtain ⟨⟨r1, r2⟩, s1, s2⟩ := (k0.later hb1).two
            have HV2 := hid hv
            clear hv
            have hsz1 := hb1.size
            have hbF := ((hb0.trans (hb1.mono (by omega))).setCell (p := ⟨w.heap.size, 0, none⟩) (Nat.le_refl _) (.bool g)).setCell (p := ⟨w.heap.size, 1, none⟩) (Nat.le_refl _) (.slice s n c)
            go_wp2
            refine bodyPost_ret (v := .tuple #[.agg #[.bool g, .slice s n c], .bool (rOK 10 U)]) (by simp [results, Tryz.results63, go_sem, r1, r2]) rfl ⟨_, by rw [HOK.out], hbF, fun h => ?_, ⟨_, _, _, _, rfl⟩⟩
            have hok : rOK 10 U = true := by rw [← HOK.out]; exact h
            obtain ⟨sv, he, hown⟩ := HV2.out hok
            rw [HVAL.out]
            refine ⟨sgnInt ng (numOf 10 U), ⟨sv, he, ?_⟩, ?_, .inl rfl⟩
            · unfold OwnDec
              exact (own_set2 (show Own .i64 3 w1 W.heap.size sv _ _ from hown) _ _ (by omega)).mono (by omega)
            · rw [sgnInt_abs]
              have hall : ∀ c ∈ U, valOf c < 10 := by
                unfold rOK at hok
                intro c hc
                exact of_decide_eq_true (List.all_eq_true.1 (Bool.and_eq_true_iff.1 hok).2 c hc)
              have h1 := numOf_lt 10 (by decide) U hall
              have h2 := (dlen_le_iff 10 _ _ (by decide)).2 h1
              omega
          · have hne : ((b : Int) == 10) = false := by rw [beq_eq_false_iff_ne]; omega
            have HC := hid (digits_fn U (by omega) b hb2 (by omega) W)
            clear hten
            go_wp2_with fail
            (with_reducible refine HC.out.mono ?_); rintro e w1 ⟨v, n, rfl, hb1, hown, hdl, hnear⟩
            obtain ⟨a, cap, rfl⟩ := hown.dec.shape
            have HN := hid hnear
            clear hnear
            have HC2 := hid (num_fn hown.dec (by omega) ng)
            go_wp2_with fail
            (with_reducible refine HC2.out.mono ?_); rintro e w2 ⟨rfl, hb2'⟩
            obtain ⟨⟨r1, r2⟩, s1, s2⟩ := ((k0.later hb1).later hb2').two
            have hsz1 := hb1.size
            have hsz2 := hb2'.size
            have hbF := ((hb0.trans ((hb1.mono (by omega)).trans (hb2'.mono (by omega)))).setCell (p := ⟨w.heap.size, 0, none⟩) (Nat.le_refl _) (.bool (ng && decide (0 < n)))).setCell (p := ⟨w.heap.size, 1, none⟩) (Nat.le_refl _) (.slice a (dlen 10 n) cap)
            go_wp2
            refine bodyPost_ret (v := .tuple #[.agg #[.bool (ng && decide (0 < n)), .slice a (dlen 10 n) cap], .bool (rOK b U)]) (by simp [results, Tryz.results63, go_sem, r1, r2]) rfl ⟨_, by rw [HOK.out], hbF, fun h => ?_, ⟨_, _, _, _, rfl⟩⟩
            have hok : rOK b U = true := by rw [← HOK.out]; exact h
            have hnear := HN.out hok
            rw [HVAL.out]
            refine ⟨sgnInt ng n, ⟨_, by rw [sgnInt_neg], ?_⟩, by rw [sgnInt_abs]; omega, ?_⟩
            · unfold OwnDec
              rw [sgnInt_abs]
              exact (own_set2 (Own.keep hown hb2' (Nat.le_refl _)) _ _ (by omega)).mono (by omega)
            · rcases hnear with rfl | ⟨h1, h2⟩
              · exact .inl rfl
              · right
                have h3 := big600_pos
                rw [sgnInt_abs, sgnInt_abs, sgnInt_neg, sgnInt_neg, decide_eq_true (by omega), decide_eq_true (by omega)]
                exact ⟨h1, h2, rfl⟩
end Go.Proofs.YtkhgoeippamobaaGreatDoor
/-
  The reference: Itoa of a digit, Text, told, Canonical, Valid.
-/
namespace Go.Proofs.YtkhgoeippamobaaGreatDoor
open Go.RowKit
/-- the text of a digit -/
def digS (d : Nat) : List UInt8 := [UInt8.ofNat (chN d)]
theorem lit_dig (d : Nat) (h : d < 10) : ∀ s : ByteArray, s = ⟨#[48, 49, 50, 51, 52, 53, 54, 55, 56, 57, 97, 98, 99, 100, 101, 102, 103, 104, 105, 106, 107, 108, 109, 110, 111, 112, 113, 114, 115, 116, 117, 118, 119, 120, 121, 122]⟩ → s.extract d (d + 1) = ⟨(digS d).toArray⟩ := by
  rintro s rfl
  have : d = 0 ∨ d = 1 ∨ d = 2 ∨ d = 3 ∨ d = 4 ∨ d = 5 ∨ d = 6 ∨ d = 7 ∨ d = 8 ∨ d = 9 := by omega
  rcases this with rfl | rfl | rfl | rfl | rfl | rfl | rfl | rfl | rfl | rfl <;> decide
theorem smallI_fn (d : Nat) (hd : d < 10) (w : World) :
    Calls Tryz.prog 159 #[.int .i64 d] w fun e w' => e = .returned (.string ⟨(digS d).toArray⟩) ∧ w' = w := by
  have HL := hid (lit_dig d hd)
  go_enter Tryz.func159, Tryz.ntmps159
  go_wp2
  go_ret
  exact ⟨by rw [← HL.out _ rfl]; rfl, rfl⟩
theorem fmtI_fn (d : Nat) (hd : d < 10) (w : World) :
    Calls Tryz.prog 152 #[.int .i64 d, .int .i64 10] w fun e w' => e = .returned (.string ⟨(digS d).toArray⟩) ∧ w' = w := by
  have hc := hid (smallI_fn d hd w)
  go_enter Tryz.func152, Tryz.ntmps152
  go_wp2_with fail
  (with_reducible refine hc.out.mono ?_); rintro e w' ⟨rfl, rfl⟩
  go_wp2
  go_ret
  exact ⟨rfl, rfl⟩
theorem itoaI_fn (d : Nat) (hd : d < 10) (w : World) :
    Calls Tryz.prog 141 #[.int .i64 d] w fun e w' => e = .returned (.string ⟨(digS d).toArray⟩) ∧ w' = w := by
  have hc := hid (fmtI_fn d hd w)
  go_enter Tryz.func141, Tryz.ntmps141
  go_wp2_with fail
  (with_reducible refine hc.out.mono ?_); rintro e w' ⟨rfl, rfl⟩
  go_wp2
  go_ret
  exact ⟨rfl, rfl⟩
theorem itoa_fn (d : Nat) (hd : d < 10) (w : World) :
    Calls Tryz.prog 121 #[.int .i64 d] w fun e w' => e = .returned (.string ⟨(digS d).toArray⟩) ∧ w' = w := by
  have hc := hid (itoaI_fn d hd w)
  go_enter Tryz.func121, Tryz.ntmps121
  go_wp2_with fail
  (with_reducible refine hc.out.mono ?_); rintro e w' ⟨rfl, rfl⟩
  go_wp2
  go_ret
  exact ⟨rfl, rfl⟩
/-- the text of the lowest digits -/
def lowS (n k : Nat) : List UInt8 := (List.range k).map fun t => UInt8.ofNat (chN (dgt 10 n (k - 1 - t)))
theorem lowS_zero (n : Nat) : lowS n 0 = [] := rfl
theorem lowS_length (n k : Nat) : (lowS n k).length = k := by simp [lowS]
theorem lowS_succ (n k : Nat) : lowS n (k + 1) = digS (dgt 10 n k) ++ lowS n k := by
  unfold lowS digS
  rw [List.range_succ_eq_map]
  simp only [List.map_cons, List.map_map, List.singleton_append, List.cons.injEq]
  refine ⟨by simp, ?_⟩
  apply List.map_congr_left
  intro t ht
  have := List.mem_range.1 ht
  show UInt8.ofNat (chN (dgt 10 n (k + 1 - 1 - (t + 1)))) = _
  rw [show k + 1 - 1 - (t + 1) = k - 1 - t from by omega]
theorem lowS_all (n : Nat) : lowS n (dlen 10 n) = strOf 10 n := rfl
set_option maxRecDepth 100000 in
set_option maxHeartbeats 4000000 in
theorem textR_fn {v : Value} {z : Int} {w : World} (h : DNum w v z) (hl : dlen 10 z.natAbs ≤ 1000000) :
    Calls Tryz.prog 79 #[v] w fun e w' => e = .returned (.string ⟨(numText 10 z.natAbs (decide (z < 0))).toArray⟩) ∧ Below w.heap.size w w' := by
  obtain ⟨s, rfl, h⟩ := h
  generalize hneg : decide (z < 0) = neg
  clear hneg
  generalize z.natAbs = n at *
  obtain ⟨a, cap, rfl⟩ := h.shape
  have k0 := Blk.new w #[.bool neg, .slice a (dlen 10 n) cap] 56
  have hb0 : Below w.heap.size w (w.alloc (.cells #[.bool neg, .slice a (dlen 10 n) cap] 56)) := (Below.refl _ _).alloc (Nat.le_refl _) _
  have hrep := h.below hb0
  have hem := strOf_isEmpty 10 n (by decide)
  go_enter Tryz.func79, Tryz.ntmps79
  go_wp2
  generalize w.alloc (.cells #[.bool neg, .slice a (dlen 10 n) cap] 56) = W at *
  obtain ⟨⟨p1, p2⟩, q1, q2⟩ := k0.two
  have hcell := hrep
  obtain ⟨a', cap', hv, hcap, hcell⟩ := hcell
  simp only [Value.slice.injEq, true_and] at hv
  obtain ⟨rfl, rfl⟩ := hv
  go_loop [3, 9] (fun sv iv => ∃ k : Nat, iv = .int .i64 k ∧ k ≤ dlen 10 n ∧ sv = .string ⟨(lowS n k).toArray⟩) (fun _ iv => dlen 10 n - (intOf iv).toNat)
  case atStart => exact ⟨0, rfl, Nat.zero_le _, rfl⟩
  case round =>
    obtain ⟨k, rfl, hk, rfl⟩ := hrel
    by_cases hlt : k < dlen 10 n
    · obtain ⟨b, off, rfl, hbl, hc⟩ := hcell (by omega)
      have hck := hc k hlt
      have HC := hid (itoa_fn (dgt 10 n k) (dgt_lt 10 n k (by decide)) W)
      have HS := hid (lowS_succ n k)
      have hlen := lowS_length n k
      have h1 : (⟨(lowS n k).toArray⟩ : ByteArray).size = k := by rw [Lib.size_mk]; exact hlen
      have h2 : (⟨(digS (dgt 10 n k)).toArray⟩ : ByteArray).size = 1 := rfl
      clear hlen
      go_wp2_with fail
      (with_reducible refine HC.out.mono ?_); rintro e w' ⟨rfl, rfl⟩
      go_wp2
      go_round
      case rel => exact ⟨k + 1, by go_num, by omega, by rw [HS.out]; exact congrArg Value.string (by apply ByteArray.ext; simp [ByteArray.data_append])⟩
      case measure => simp [intOf] <;> omega
    · obtain rfl : k = dlen 10 n := by omega
      rw [lowS_all]
      have HE := hem
      by_cases h0 : n = 0
      · rw [decide_eq_true h0] at hem
        have hn : numText 10 n neg = [48] := by rw [numText, if_pos h0]
        have HN := hid hn
        clear h0 hn HE
        go_wp2
        go_ret
        exact ⟨by rw [HN.out]; rfl, hb0⟩
      · rw [decide_eq_false h0] at hem
        have hlen := strOf_length 10 n
        have hsz : (strOf 10 n).length ≤ 32000000 := by omega
        clear hlen HE
        cases neg
        · have hn : numText 10 n false = strOf 10 n := by rw [numText, if_neg h0]; rfl
          have HN := hid hn
          clear h0 hn
          go_wp2
          go_ret
          exact ⟨by rw [HN.out]; rfl, hb0⟩
        · have hn : numText 10 n true = 45 :: strOf 10 n := by rw [numText, if_neg h0]; rfl
          have HN := hid hn
          clear h0 hn
          go_wp2
          go_ret
          exact ⟨by rw [HN.out]; rfl, hb0⟩
end Go.Proofs.YtkhgoeippamobaaGreatDoor
/-
  The reference: told.
-/
namespace Go.Proofs.YtkhgoeippamobaaGreatDoor
open Go.RowKit
/-- a slice of numbers -/
def Nums (w : World) (v : Value) (zs : List Int) : Prop :=
  ∃ (a : Option Addr) (cap : Nat), v = .slice a zs.length cap ∧ zs.length ≤ cap ∧ (0 < zs.length → ∃ b, a = some ⟨b, 0, none⟩ ∧ b < w.heap.size ∧ ∀ i, i < zs.length → ∃ s c, w.cell? ⟨b, i * 2, none⟩ = some (.bool (decide (zs.getD i 0 < 0))) ∧ w.cell? ⟨b, i * 2 + 1, none⟩ = some (.slice s (dlen 10 (zs.getD i 0).natAbs) c) ∧ DecRep w (.slice s (dlen 10 (zs.getD i 0).natAbs) c) (zs.getD i 0).natAbs)
theorem Nums.nil (w : World) : Nums w (.slice none 0 0) [] := ⟨none, 0, rfl, Nat.le_refl _, fun h => absurd h (Nat.lt_irrefl 0)⟩
theorem Nums.below {w w' : World} {v : Value} {zs : List Int} (h : Nums w v zs) (hb : Below w.heap.size w w') : Nums w' v zs := by
  obtain ⟨a, cap, rfl, hc, h⟩ := h
  refine ⟨a, cap, rfl, hc, fun h0 => ?_⟩
  obtain ⟨b, rfl, hlt, hcell⟩ := h h0
  refine ⟨b, rfl, Nat.lt_of_lt_of_le hlt hb.size, fun i hi => ?_⟩
  obtain ⟨s, c, h1, h2, h3⟩ := hcell i hi
  exact ⟨s, c, (hb.cell (p := ⟨b, i * 2, none⟩) hlt).trans h1, (hb.cell (p := ⟨b, i * 2 + 1, none⟩) hlt).trans h2, h3.below hb⟩
/-- whether one of the numbers is too long -/
def anyBig (zs : List Int) : Bool := zs.any fun z => decide (big600 ≤ z.natAbs)
def toldRes (z : Int) (zs : List Int) : List UInt8 × Int := if anyBig zs then ([], 4) else resOf z
theorem DNum.shape {w : World} {v : Value} {z : Int} (h : DNum w v z) : ∃ a c, v = .agg #[.bool (decide (z < 0)), .slice a (dlen 10 z.natAbs) c] ∧ DecRep w (.slice a (dlen 10 z.natAbs) c) z.natAbs := by
  obtain ⟨s, rfl, h⟩ := h
  obtain ⟨a, c, rfl⟩ := h.shape
  exact ⟨a, c, rfl, h⟩
set_option maxRecDepth 100000 in
set_option maxHeartbeats 4000000 in
theorem told_fn {v u : Value} {z : Int} {zs : List Int} {w : World} (h : DNum w v z) (hl : dlen 10 z.natAbs ≤ 10000000) (hs : Nums w u zs) (hz : ∀ x ∈ zs, dlen 10 x.natAbs ≤ 10000000) (hn : zs.length ≤ 100) :
    Calls Tryz.prog 64 #[v, u] w fun e w' => e = .returned (.tuple #[.string ⟨(toldRes z zs).1.toArray⟩, .int .i64 (toldRes z zs).2]) ∧ Below w.heap.size w w' := by
  obtain ⟨a, cap, rfl, hd⟩ := h.shape
  have hs0 := hs
  obtain ⟨su, cu, rfl, hcu, hcell⟩ := hs0
  have k0 := Blk.new w #[.bool (decide (z < 0)), .slice a (dlen 10 z.natAbs) cap] 56
  have hb0 : Below w.heap.size w (w.alloc (.cells #[.bool (decide (z < 0)), .slice a (dlen 10 z.natAbs) cap] 56)) := (Below.refl _ _).alloc (Nat.le_refl _) _
  have hsz0 : (w.alloc (.cells #[.bool (decide (z < 0)), .slice a (dlen 10 z.natAbs) cap] 56)).heap.size = w.heap.size + 1 := by simp
  have HZ := hid hz
  have HC := hid hcell
  clear hz hcell
  go_enter Tryz.func64, Tryz.ntmps64
  go_wp2
  generalize w.alloc (.cells #[.bool (decide (z < 0)), .slice a (dlen 10 z.natAbs) cap] 56) = W at *
  go_loopw [10] (fun iv wr => ∃ k : Nat, iv = .int .i64 k ∧ k ≤ zs.length ∧ anyBig (zs.take k) = false ∧ Below w.heap.size w wr ∧ Blk wr w.heap.size #[.bool (decide (z < 0)), .slice a (dlen 10 z.natAbs) cap] 56) (fun iv _ => zs.length - (intOf iv).toNat)
  case atStart => exact ⟨0, rfl, Nat.zero_le _, rfl, hb0, k0⟩
  case round =>
    obtain ⟨k, rfl, hk, hany, hbr, kr⟩ := hrel
    have HA := hid hany
    clear hany
    by_cases hlt : k < zs.length
    · obtain ⟨b, rfl, hbl, hc⟩ := HC.out (by omega)
      obtain ⟨s, c, c1, c2, c3⟩ := hc k hlt
      have c1 := (hbr.cell (p := ⟨b, k * 2, none⟩) hbl).trans c1
      have c2 := (hbr.cell (p := ⟨b, k * 2 + 1, none⟩) hbl).trans c2
      have e : zs.getD k 0 = zs[k] := by rw [List.getD_eq_getElem?_getD, List.getElem?_eq_getElem hlt]; rfl
      have hdl := HZ.out (zs[k]) (List.getElem_mem hlt)
      rw [e] at c1 c2 c3
      have HT := hid (show anyBig (zs.take (k + 1)) = decide (big600 ≤ (zs[k]).natAbs) by
        have h1 := HA.out
        unfold anyBig at h1 ⊢
        rw [List.take_add_one, List.getElem?_eq_getElem hlt, List.any_append, h1]
        simp)
      have hmono : anyBig (zs.take (k + 1)) = true → anyBig zs = true := by
        unfold anyBig
        intro h
        rw [List.any_eq_true] at h ⊢
        obtain ⟨x, h1, h2⟩ := h
        exact ⟨x, List.mem_of_mem_take h1, h2⟩
      have HM := hid hmono
      clear hmono e hc
      generalize zs[k] = y at *
      have k1 := Blk.new wr #[.bool (decide (y < 0)), .slice s (dlen 10 y.natAbs) c] 56
      have hb1 : Below wr.heap.size wr (wr.alloc (.cells #[.bool (decide (y < 0)), .slice s (dlen 10 y.natAbs) c] 56)) := (Below.refl _ _).alloc (Nat.le_refl _) _
      have hD : DNum (wr.alloc (.cells #[.bool (decide (y < 0)), .slice s (dlen 10 y.natAbs) c] 56)) (.agg #[.bool (decide (y < 0)), .slice s (dlen 10 y.natAbs) c]) y := ⟨_, rfl, (c3.below hbr).below hb1⟩
      have HLC := hid (long_fn hD (by omega))
      have hszr := hbr.size
      go_wp2_with fail
      (with_reducible refine HLC.out.mono ?_); rintro e w2 ⟨rfl, hb2⟩
      have hb3 := hbr.trans ((hb1.mono hszr).trans (hb2.mono (Nat.le_trans hszr hb1.size)))
      by_cases hbig : big600 ≤ y.natAbs
      · have HR := hid (show toldRes z zs = ([], 4) by unfold toldRes; rw [HM.out (by rw [HT.out]; exact decide_eq_true hbig)]; rfl)
        rw [decide_eq_true hbig]
        clear hbig
        go_wp2
        go_ret2
        exact ⟨by rw [HR.out]; rfl, hb3⟩
      · have HF := hid (show anyBig (zs.take (k + 1)) = false by rw [HT.out]; exact decide_eq_false hbig)
        rw [decide_eq_false hbig]
        clear hbig
        have kr2 := (kr.later hb1).later hb2
        go_wp2
        go_roundw
        case rel => exact ⟨k + 1, by go_num, by omega, HF.out, hb3, kr2⟩
        case measure => simp [intOf] <;> omega
    · obtain rfl : k = zs.length := by omega
      have hany := HA.out
      rw [List.take_length] at hany
      have HR := hid (show toldRes z zs = resOf z by unfold toldRes; rw [hany]; rfl)
      clear hany
      have hD : DNum wr (.agg #[.bool (decide (z < 0)), .slice a (dlen 10 z.natAbs) cap]) z := ⟨_, rfl, hd.below hbr⟩
      have HLC := hid (long_fn hD (by omega))
      have hszr := hbr.size
      obtain ⟨⟨p1, p2⟩, q1, q2⟩ := kr.two
      go_wp2_with fail
      (with_reducible refine HLC.out.mono ?_); rintro e w2 ⟨rfl, hb2⟩
      have hb3 := hbr.trans (hb2.mono hszr)
      clear p1 p2 q1 q2
      obtain ⟨⟨p1, p2⟩, q1, q2⟩ := (kr.later hb2).two
      by_cases hbig : big600 ≤ z.natAbs
      · have HR2 := hid (show resOf z = ([], 4) by unfold resOf; rw [if_neg (by omega)])
        rw [decide_eq_true hbig]
        clear hbig
        go_wp2
        go_ret2
        exact ⟨by rw [HR.out, HR2.out]; rfl, hb3⟩
      · have HR2 := hid (show resOf z = (numText 10 z.natAbs (decide (z < 0)), 0) by unfold resOf; rw [if_pos (by omega)])
        have HTC := hid (textR_fn (hD.below hb2) (by have := (digits_600 z.natAbs).2 (by omega); omega))
        rw [decide_eq_false hbig]
        clear hbig
        go_wp2_with fail
        (with_reducible refine HTC.out.mono ?_); rintro e w3 ⟨rfl, hb4⟩
        go_wp2
        go_ret2
        exact ⟨by rw [HR.out, HR2.out]; rfl, hb3.trans (hb4.mono (Nat.le_trans hszr hb2.size))⟩
/-- a number that was read, told -/
theorem toldRes_nil (z : Int) : toldRes z [] = resOf z := rfl
end Go.Proofs.YtkhgoeippamobaaGreatDoor
/-
  The reference: Canonical, Valid. The laws' helpers: right, awake, long.
-/
namespace Go.Proofs.YtkhgoeippamobaaGreatDoor
open Go.RowKit
theorem resOf_big (z : Int) (h : big600 ≤ z.natAbs) : resOf z = ([], 4) := by unfold resOf; rw [if_neg (by omega)]
/-- too long ones may be cut -/
def Cut (z' z : Int) : Prop := z' = z ∨ (big600 ≤ z'.natAbs ∧ big600 ≤ z.natAbs ∧ decide (z' < 0) = decide (z < 0))
theorem Cut.res {z' z : Int} (h : Cut z' z) : resOf z' = resOf z := by
  rcases h with rfl | ⟨h1, h2, _⟩
  · rfl
  · rw [resOf_big _ h1, resOf_big _ h2]
theorem Cut.big {z' z : Int} (h : Cut z' z) : decide (big600 ≤ z'.natAbs) = decide (big600 ≤ z.natAbs) := by
  rcases h with rfl | ⟨h1, h2, _⟩
  · rfl
  · rw [decide_eq_true h1, decide_eq_true h2]
theorem Cut.small {z' z : Int} (h : Cut z' z) (hs : z.natAbs < big600) : z' = z := by
  rcases h with rfl | ⟨h1, h2, _⟩
  · rfl
  · omega
theorem canRes_eq (a : List UInt8) : canRes a = if pOK a = true then resOf (pVal a) else ([], 2) := by
  unfold canRes oneRes
  by_cases h : pOK a = true
  · rw [if_pos h, if_pos h, if_neg (by simp)]
    by_cases hb : big600 ≤ (pVal a).natAbs
    · rw [if_pos hb, resOf_big _ hb]
    · rw [if_neg hb]
  · rw [if_neg h, if_neg h]
set_option maxRecDepth 100000 in
set_option maxHeartbeats 4000000 in
theorem canR_fn (a : List UInt8) (ha : a.length ≤ 2000000) (w : World) :
    Calls Tryz.prog 17 #[.string ⟨a.toArray⟩] w fun e w' => e = .returned (.tuple #[.string ⟨(canRes a).1.toArray⟩, .int .i64 (canRes a).2]) ∧ Below w.heap.size w w' := by
  have hc := hid (number_fn a ha w)
  unfold NumP at hc
  cases hok : pOK a with
  | false =>
    have HR := hid (show canRes a = ([], 2) by rw [canRes_eq, hok]; rfl)
    rw [hok] at hc
    clear hok
    go_enter Tryz.func17, Tryz.ntmps17
    go_wp2_with fail
    (with_reducible refine hc.out.mono ?_); rintro e w1 ⟨v, rfl, hb1, hv, g, s, n, c, rfl⟩
    go_wp2
    go_ret2
    exact ⟨by rw [HR.out]; rfl, hb1.alloc hb1.size _⟩
  | true =>
    have HR := hid (show canRes a = resOf (pVal a) by rw [canRes_eq, hok]; rfl)
    rw [hok] at hc
    clear hok
    go_enter Tryz.func17, Tryz.ntmps17
    go_wp2_with fail
    (with_reducible refine hc.out.mono ?_); rintro e w1 ⟨v, rfl, hb1, hv, g, s, n, c, rfl⟩
    obtain ⟨z', hz, hdl, hcut⟩ := hv (by first | rfl | trivial)
    have HC := hid (Cut.res hcut)
    have hbA : Below w.heap.size w (w1.alloc (.cells #[.bool g, .slice s n c] 56)) := hb1.alloc hb1.size _
    have kA := Blk.new w1 #[.bool g, .slice s n c] 56
    have hD := hz.num.below ((Below.refl _ w1).alloc (Nat.le_refl _) (.cells #[.bool g, .slice s n c] 56))
    have HT := hid (told_fn hD (by omega) (Nums.nil _) (fun x h => by cases h) (by decide))
    rw [toldRes_nil, HC.out] at HT
    clear hcut hv
    have hsz1 := hb1.size
    go_wp2_with fail
    (with_reducible refine HT.out.mono ?_); rintro e w2 ⟨rfl, hb2⟩
    go_wp2
    go_ret2
    exact ⟨by rw [HR.out]; rfl, hbA.trans (hb2.mono hbA.size)⟩
theorem validR_fn (a : List UInt8) (ha : a.length ≤ 2000000) (w : World) :
    Calls Tryz.prog 19 #[.string ⟨a.toArray⟩] w fun e w' => e = .returned (.bool (validRes a)) ∧ Below w.heap.size w w' := by
  have hc := hid (canR_fn a ha w)
  unfold validRes
  generalize canRes a = r at hc ⊢
  obtain ⟨r1, r2⟩ := r
  have hc := hid hc.out
  go_enter Tryz.func19, Tryz.ntmps19
  go_wp2_with fail
  (with_reducible refine hc.out.mono ?_); rintro e w1 ⟨rfl, hb1⟩
  go_wp2
  go_ret
  exact ⟨rfl, hb1⟩
theorem awake_div : divVal [45, 55] [50] = .tuple #[.string ⟨#[45, 52]⟩, .string ⟨#[49]⟩, .int .i64 0] := by
  have h1 : quoRes [45, 55] [50] = ([45, 52], 0) := by decide +kernel
  have h2 : remRes [45, 55] [50] = ([49], 0) := by decide +kernel
  unfold divVal
  rw [h1, h2]
  rfl
theorem awake_base : baseRes [50, 53, 53] 16 = ([102, 102], 0) := by decide +kernel
theorem awake_fn (w : World) : Calls Tryz.prog 11 #[] w fun e w' => e = .returned (.bool true) ∧ Below w.heap.size w w' := by
  have h1 := hid (div_fn [45, 55] [50] (by decide) (by decide) w)
  rw [awake_div] at h1
  have h2 := fun w => hid (base_fn [50, 53, 53] (by decide) 16 w)
  rw [awake_base] at h2
  have h1 := hid h1.out
  go_enter Tryz.func11, Tryz.ntmps11
  go_wp2_with fail
  (with_reducible refine h1.out.mono ?_); rintro e w1 ⟨rfl, hb1⟩
  go_wp2_with fail
  (with_reducible refine (h2 _).out.mono ?_); rintro e w2 ⟨rfl, hb2⟩
  go_wp2
  go_ret
  exact ⟨rfl, hb1.trans (hb2.mono hb1.size)⟩
end Go.Proofs.YtkhgoeippamobaaGreatDoor
/-
  What is written is read back (plain facts on texts).
-/
namespace Go.Proofs.YtkhgoeippamobaaGreatDoor
open Go.RowKit
theorem valOf_ch (d : Nat) (h : d < 36) : valOf (UInt8.ofNat (chN d)) = d := by
  have : ∀ d, d < 36 → valOf (UInt8.ofNat (chN d)) = d := by decide +kernel
  exact this d h
theorem numOf_strOf (b n : Nat) (hb2 : 2 ≤ b) (hb : b ≤ 36) : numOf b (strOf b n) = n := by
  have key : ∀ L, n < b ^ L → ∀ k, k ≤ L → numOf b ((List.range k).map fun t => UInt8.ofNat (chN (dgt b n (L - 1 - t)))) = n / b ^ (L - k) := by
    intro L hL k
    induction k with
    | zero => intro _; rw [Nat.sub_zero, Nat.div_eq_of_lt hL]; rfl
    | succ k ih =>
      intro hk
      rw [List.range_succ, List.map_append, List.map_singleton, numOf_snoc, ih (by omega), valOf_ch _ (Nat.lt_of_lt_of_le (dgt_lt b n _ hb2) hb)]
      have e1 : L - 1 - k = L - (k + 1) := by omega
      have e2 : L - k = L - (k + 1) + 1 := by omega
      unfold dgt
      rw [e1, e2, Nat.pow_succ, ← Nat.div_div_eq_div_mul]
      generalize n / b ^ (L - (k + 1)) = x
      have := Nat.div_add_mod x b
      rw [Nat.mul_comm] at this
      exact this
  have h := key (dlen b n) (dlen_lt b n hb2) (dlen b n) (Nat.le_refl _)
  rw [Nat.sub_self, Nat.pow_zero, Nat.div_one] at h
  exact h
theorem strOf_digits (b n : Nat) (hb2 : 2 ≤ b) (hb : b ≤ 36) : ∀ c ∈ strOf b n, valOf c < b := by
  intro c hc
  unfold strOf at hc
  obtain ⟨t, _, rfl⟩ := List.mem_map.1 hc
  rw [valOf_ch _ (Nat.lt_of_lt_of_le (dgt_lt b n _ hb2) hb)]
  exact dgt_lt b n _ hb2
theorem rOK_of (b : Nat) (l : List UInt8) (h : ∀ c ∈ l, valOf c < b) (h0 : l ≠ []) : rOK b l = true := by
  unfold rOK
  rw [List.all_eq_true.2 (fun c hc => decide_eq_true (h c hc)), Bool.and_true]
  cases l with
  | nil => exact absurd rfl h0
  | cons _ _ => rfl
theorem wh_digit (c : UInt8) (h : valOf c < 36) : isWh c = false := by
  have hv : valOf c = if 48 ≤ c.toNat ∧ c.toNat ≤ 57 then c.toNat - 48
    else if 97 ≤ c.toNat ∧ c.toNat ≤ 122 then c.toNat - 97 + 10
    else if 65 ≤ c.toNat ∧ c.toNat ≤ 90 then c.toNat - 65 + 10
    else 36 := rfl
  have key : ∀ k : UInt8, (c = k) ↔ c.toNat = k.toNat := fun k => ⟨fun h => by rw [h], fun h => UInt8.toNat_inj.1 h⟩
  cases hw : isWh c with
  | false => rfl
  | true =>
    exfalso
    unfold isWh at hw
    simp only [Bool.or_eq_true, Bool.and_eq_true, decide_eq_true_eq] at hw
    rw [hv] at h
    revert h
    have h9 : (9 : UInt8).toNat = 9 := rfl
    have h13 : (13 : UInt8).toNat = 13 := rfl
    have h32 : (32 : UInt8).toNat = 32 := rfl
    split
    · omega
    · split
      · omega
      · split <;> omega
theorem dropWhile_none (l : List UInt8) (h : ∀ c ∈ l, isWh c = false) : l.dropWhile isWh = l := by
  cases l with
  | nil => rfl
  | cons c l => rw [List.dropWhile_cons, h c (List.mem_cons_self ..)]; rfl
theorem strip_none (l : List UInt8) (h : ∀ c ∈ l, isWh c = false) : strip l = l := by
  unfold strip
  rw [dropWhile_none l h, dropWhile_none _ (fun c hc => h c (List.mem_reverse.1 hc)), List.reverse_reverse]
theorem head_digit (b : Nat) (_hb : b ≤ 36) (p : UInt8) (hp : b ≤ valOf p) (l : List UInt8) (h : ∀ c ∈ l, valOf c < b) : ([p] : List UInt8).isPrefixOf l = false := by
  cases l with
  | nil => rfl
  | cons c l =>
    have h1 := h c (List.mem_cons_self ..)
    have : (p == c) = false := by
      rw [beq_eq_false_iff_ne]
      rintro rfl
      omega
    simp [List.isPrefixOf, this]
theorem second_digit (p : UInt8) (hp : 10 ≤ valOf p) (l : List UInt8) (h : ∀ c ∈ l, valOf c < 10) : ([48, p] : List UInt8).isPrefixOf l = false := by
  cases l with
  | nil => rfl
  | cons c l =>
    cases l with
    | nil => simp [List.isPrefixOf]
    | cons d l =>
      have h1 := h d (List.mem_cons_of_mem _ (List.mem_cons_self ..))
      have : (p == d) = false := by
        rw [beq_eq_false_iff_ne]
        rintro rfl
        omega
      simp [List.isPrefixOf, this]
theorem pBase_dec (l : List UInt8) (h : ∀ c ∈ l, valOf c < 10) : pBase l = 10 ∧ pBody l = l := by
  have h1 := second_digit 120 (by decide) l h
  have h2 := second_digit 111 (by decide) l h
  have h3 := second_digit 98 (by decide) l h
  unfold pBase pBody
  rw [h1, h2, h3]
  exact ⟨rfl, rfl⟩
theorem dec_read (l : List UInt8) (h : ∀ c ∈ l, valOf c < 10) (h0 : l ≠ []) : (pOK l = true ∧ pVal l = (numOf 10 l : Nat)) ∧ (pOK (45 :: l) = true ∧ pVal (45 :: l) = -((numOf 10 l : Nat) : Int)) := by
  have hw : ∀ c ∈ l, isWh c = false := fun c hc => wh_digit c (by have := h c hc; omega)
  have s1 := strip_none l hw
  have s2 := strip_none (45 :: l) (fun c hc => by
    rcases List.mem_cons.1 hc with rfl | hc
    · decide
    · exact hw c hc)
  have p1 := head_digit 10 (by decide) 45 (by decide) l h
  have p2 := head_digit 10 (by decide) 43 (by decide) l h
  have r1 : pRest l = l := by unfold pRest; rw [p1, p2]; rfl
  have r2 : pRest (45 :: l) = l := by simp [pRest, List.isPrefixOf]
  have n1 : pNeg l = false := p1
  have n2 : pNeg (45 :: l) = true := by simp [pNeg, List.isPrefixOf]
  obtain ⟨b1, b2⟩ := pBase_dec l h
  have ho := rOK_of 10 l h h0
  unfold pOK pVal
  rw [s1, s2, r1, r2, b1, b2, n1, n2]
  exact ⟨⟨ho, rfl⟩, ho, rfl⟩
/-- the canonical text of an integer -/
def txt (z : Int) : List UInt8 := numText 10 z.natAbs (decide (z < 0))
theorem txt_read (z : Int) : pOK (txt z) = true ∧ pVal (txt z) = z := by
  unfold txt numText
  by_cases h0 : z.natAbs = 0
  · rw [if_pos h0]
    have hz : z = 0 := by omega
    subst hz
    have := (dec_read [48] (by decide) (by decide)).1
    exact ⟨this.1, this.2⟩
  · rw [if_neg h0]
    have hd := strOf_digits 10 z.natAbs (by decide) (by decide)
    have hne : strOf 10 z.natAbs ≠ [] := by
      intro h
      have h1 := strOf_length 10 z.natAbs
      rw [h] at h1
      have h2 := dlen_zero_iff 10 z.natAbs (by decide)
      simp at h1
      omega
    have hr := dec_read _ hd hne
    rw [numOf_strOf 10 _ (by decide) (by decide)] at hr
    by_cases hn : z < 0
    · rw [decide_eq_true hn, if_pos rfl]
      exact ⟨hr.2.1, by rw [hr.2.2]; omega⟩
    · rw [decide_eq_false hn, if_neg (by decide)]
      exact ⟨hr.1.1, by rw [hr.1.2]; omega⟩
theorem txt_len (z : Int) (h : z.natAbs < big600) : (txt z).length ≤ 601 := by
  unfold txt numText
  have h1 := strOf_length 10 z.natAbs
  have h2 := (digits_600 z.natAbs).2 h
  split
  · simp
  · split
    · simp; omega
    · omega
theorem resOf_small (z : Int) (h : z.natAbs < big600) : resOf z = (txt z, 0) := by
  unfold resOf txt; rw [if_pos h]
theorem txt_inj (x y : Int) (h : txt x = txt y) : x = y := by
  rw [← (txt_read x).2, ← (txt_read y).2, h]
/-- a number of few letters is small -/
theorem pVal_small (l : List UInt8) (h : l.length ≤ 60) (hok : pOK l = true) : (pVal l).natAbs < 2 ^ 240 := by
  unfold pVal
  rw [sgnInt_abs]
  unfold pOK at hok
  have hb : 2 ≤ pBase (pRest (strip l)) ∧ pBase (pRest (strip l)) ≤ 16 := by
    unfold pBase
    repeat' split
    all_goals decide
  have hl : (pBody (pRest (strip l))).length ≤ 60 := by
    have h1 := strip_len l
    have h2 : (pRest (strip l)).length ≤ (strip l).length := by
      unfold pRest
      split
      · rw [List.length_tail]; omega
      · exact Nat.le_refl _
    have h3 : (pBody (pRest (strip l))).length ≤ (pRest (strip l)).length := by
      unfold pBody
      split
      · rw [List.length_drop]; omega
      · exact Nat.le_refl _
    omega
  generalize pBody (pRest (strip l)) = T at *
  generalize pBase (pRest (strip l)) = b at *
  have hall : ∀ c ∈ T, valOf c < b := by
    unfold rOK at hok
    intro c hc
    exact of_decide_eq_true (List.all_eq_true.1 (Bool.and_eq_true_iff.1 hok).2 c hc)
  have h1 := numOf_lt b hb.1 T hall
  have h2 : b ^ T.length ≤ 16 ^ 60 := Nat.le_trans (Nat.pow_le_pow_left hb.2 _) (Nat.pow_le_pow_right (by decide) hl)
  have h3 : (16 : Nat) ^ 60 = 2 ^ 240 := by decide +kernel
  omega
theorem big600_ge : 2 ^ 500 ≤ big600 := by decide +kernel
end Go.Proofs.YtkhgoeippamobaaGreatDoor
/-
  The laws' helper: right.
-/
namespace Go.Proofs.YtkhgoeippamobaaGreatDoor
open Go.RowKit
/-- a slice of texts -/
def Strs (w : World) (v : Value) (ls : List (List UInt8)) : Prop :=
  ∃ (b cap : Nat), v = .slice (some ⟨b, 0, none⟩) ls.length cap ∧ ls.length ≤ cap ∧ b < w.heap.size ∧ ∀ i, i < ls.length → w.cell? ⟨b, i, none⟩ = some (.string ⟨(ls.getD i []).toArray⟩)
def rightB (ls : List (List UInt8)) : Bool := ls.all fun l => validRes l && decide (l.length ≤ 60)
set_option maxRecDepth 100000 in
set_option maxHeartbeats 4000000 in
theorem right_fn {v : Value} {ls : List (List UInt8)} {w : World} (h : Strs w v ls) (hn : ls.length ≤ 100) (hz : ∀ l ∈ ls, l.length ≤ 2000000) :
    Calls Tryz.prog 10 #[v] w fun e w' => e = .returned (.bool (rightB ls)) ∧ Below w.heap.size w w' := by
  obtain ⟨b, cap, rfl, hcap, hbl, hc⟩ := h
  have HZ := hid hz
  have HC := hid hc
  clear hz hc
  go_enter Tryz.func10, Tryz.ntmps10
  go_wp2
  go_loopw [7] (fun iv wr => ∃ k : Nat, iv = .int .i64 k ∧ k ≤ ls.length ∧ rightB (ls.take k) = true ∧ Below w.heap.size w wr) (fun iv _ => ls.length - (intOf iv).toNat)
  case atStart => exact ⟨0, rfl, Nat.zero_le _, rfl, Below.refl _ _⟩
  case round =>
    obtain ⟨k, rfl, hk, hall, hbr⟩ := hrel
    have HA := hid hall
    clear hall
    by_cases hlt : k < ls.length
    · have hck := (hbr.cell (p := ⟨b, k, none⟩) hbl).trans (HC.out k hlt)
      have e : ls.getD k [] = ls[k] := by rw [List.getD_eq_getElem?_getD, List.getElem?_eq_getElem hlt]; rfl
      have hlen := HZ.out (ls[k]) (List.getElem_mem hlt)
      rw [e] at hck
      have HT := hid (show rightB (ls.take (k + 1)) = (validRes (ls[k]) && decide ((ls[k]).length ≤ 60)) by
        have h1 := HA.out
        unfold rightB at h1 ⊢
        rw [List.take_add_one, List.getElem?_eq_getElem hlt, List.all_append, h1]
        simp)
      have hmono : rightB (ls.take (k + 1)) = false → rightB ls = false := by
        unfold rightB
        intro h
        rw [List.all_eq_false] at h ⊢
        obtain ⟨x, h1, h2⟩ := h
        exact ⟨x, List.mem_of_mem_take h1, h2⟩
      have HM := hid hmono
      clear hmono e
      generalize ls[k] = l at *
      have HV := hid (validR_fn l hlen wr)
      have h1 : (⟨l.toArray⟩ : ByteArray).size = l.length := Lib.size_mk _
      have hszr := hbr.size
      cases hval : validRes l with
      | false =>
        rw [hval] at HV HT
        have HV := hid HV.out
        have HR := hid (HM.out (by rw [HT.out]; rfl))
        clear hval
        go_wp2_with fail
        (with_reducible refine HV.out.mono ?_); rintro e w2 ⟨rfl, hb2⟩
        go_wp2
        go_ret
        exact ⟨by rw [HR.out]; rfl, hbr.trans (hb2.mono hszr)⟩
      | true =>
        rw [hval] at HV HT
        have HV := hid HV.out
        clear hval
        by_cases h60 : l.length ≤ 60
        · have HR := hid (show rightB (ls.take (k + 1)) = true by rw [HT.out, decide_eq_true h60]; rfl)
          go_wp2_with fail
          (with_reducible refine HV.out.mono ?_); rintro e w2 ⟨rfl, hb2⟩
          go_wp2
          go_roundw
          case rel => exact ⟨k + 1, by go_num, by omega, HR.out, hbr.trans (hb2.mono hszr)⟩
          case measure => simp [intOf] <;> omega
        · have HR := hid (HM.out (by rw [HT.out, decide_eq_false h60]; rfl))
          go_wp2_with fail
          (with_reducible refine HV.out.mono ?_); rintro e w2 ⟨rfl, hb2⟩
          go_wp2
          go_ret
          exact ⟨by rw [HR.out]; rfl, hbr.trans (hb2.mono hszr)⟩
    · obtain rfl : k = ls.length := by omega
      have hall := HA.out
      rw [List.take_length] at hall
      have HR := hid hall
      clear hall
      go_wp2
      go_ret
      exact ⟨by rw [HR.out]; rfl, hbr⟩
theorem rightB_mem (ls : List (List UInt8)) (h : rightB ls = true) (l : List UInt8) (hl : l ∈ ls) : pOK l = true ∧ (pVal l).natAbs < 2 ^ 240 ∧ l.length ≤ 60 := by
  unfold rightB at h
  have h1 := List.all_eq_true.1 h l hl
  rw [Bool.and_eq_true, decide_eq_true_eq] at h1
  obtain ⟨h1, h2⟩ := h1
  have hok : pOK l = true := by
    unfold validRes at h1
    rw [canRes_eq] at h1
    cases hp : pOK l with
    | true => rfl
    | false => rw [hp, if_neg (by decide)] at h1; exact absurd h1 (by decide)
  exact ⟨hok, pVal_small l h2 hok, h2⟩
theorem lt_big (z : Int) (h : z.natAbs < 2 ^ 500) : z.natAbs < big600 := Nat.lt_of_lt_of_le h big600_ge
theorem two_small (a b : List UInt8) (z : Int) (oa : pOK a = true) (ob : pOK b = true) (ha : (pVal a).natAbs < big600) (hb : (pVal b).natAbs < big600) (hz : z.natAbs < big600) : twoRes a b 0 z = (txt z, 0) := by
  unfold twoRes
  rw [if_pos ⟨oa, ob⟩, if_neg (by simp), if_neg (by omega), resOf_small z hz]
theorem one_small (a : List UInt8) (z : Int) (oa : pOK a = true) (ha : (pVal a).natAbs < big600) (hz : z.natAbs < big600) : oneRes a 0 z = (txt z, 0) := by
  unfold oneRes
  rw [if_pos oa, if_neg (by simp), if_neg (by omega), resOf_small z hz]
end Go.Proofs.YtkhgoeippamobaaGreatDoor
/-
  The laws' helper: long.
-/
namespace Go.Proofs.YtkhgoeippamobaaGreatDoor
open Go.RowKit
def longB (most : Nat) (ls : List (List UInt8)) : Bool := ls.any fun l => decide (most < l.length)
set_option maxRecDepth 100000 in
set_option maxHeartbeats 4000000 in
theorem long_any {v : Value} {ls : List (List UInt8)} {w : World} (most : Nat) (_hmost : most ≤ 1000000) (h : Strs w v ls) (hn : ls.length ≤ 100) (hz : ∀ l ∈ ls, l.length ≤ 9223372036854775807) :
    Calls Tryz.prog 16 #[.int .i64 most, v] w fun e w' => e = .returned (.bool (longB most ls)) ∧ w' = w := by
  obtain ⟨b, cap, rfl, hcap, hbl, hc⟩ := h
  have HZ := hid hz
  have HC := hid hc
  clear hz hc
  go_enter Tryz.func16, Tryz.ntmps16
  go_wp2
  go_loop [9] (fun iv => ∃ k : Nat, iv = .int .i64 k ∧ k ≤ ls.length ∧ longB most (ls.take k) = false) (fun iv => ls.length - (intOf iv).toNat)
  case atStart => exact ⟨0, rfl, Nat.zero_le _, rfl⟩
  case round =>
    obtain ⟨k, rfl, hk, hall⟩ := hrel
    have HA := hid hall
    clear hall
    by_cases hlt : k < ls.length
    · have hck := HC.out k hlt
      have e : ls.getD k [] = ls[k] := by rw [List.getD_eq_getElem?_getD, List.getElem?_eq_getElem hlt]; rfl
      have hlen := HZ.out (ls[k]) (List.getElem_mem hlt)
      rw [e] at hck
      have HT := hid (show longB most (ls.take (k + 1)) = decide (most < (ls[k]).length) by
        have h1 := HA.out
        unfold longB at h1 ⊢
        rw [List.take_add_one, List.getElem?_eq_getElem hlt, List.any_append, h1]
        simp)
      have hmono : longB most (ls.take (k + 1)) = true → longB most ls = true := by
        unfold longB
        intro h
        rw [List.any_eq_true] at h ⊢
        obtain ⟨x, h1, h2⟩ := h
        exact ⟨x, List.mem_of_mem_take h1, h2⟩
      have HM := hid hmono
      clear hmono e
      generalize ls[k] = l at *
      have h1 : (⟨l.toArray⟩ : ByteArray).size = l.length := Lib.size_mk _
      by_cases hm : most < l.length
      · have HR := hid (HM.out (by rw [HT.out]; exact decide_eq_true hm))
        go_wp2
        go_ret
        exact ⟨by rw [HR.out]; rfl, rfl⟩
      · have HF := hid (show longB most (ls.take (k + 1)) = false by rw [HT.out]; exact decide_eq_false hm)
        go_wp2
        go_round
        case rel => exact ⟨k + 1, by go_num, by omega, HF.out⟩
        case measure => simp [intOf] <;> omega
    · obtain rfl : k = ls.length := by omega
      have hall := HA.out
      rw [List.take_length] at hall
      have HR := hid hall
      clear hall
      go_wp2
      go_ret
      exact ⟨by rw [HR.out]; rfl, rfl⟩
theorem Strs.two {w : World} {b : Nat} {x y : List UInt8} {t : TypeId} (h : Blk w b #[.string ⟨x.toArray⟩, .string ⟨y.toArray⟩] t) : Strs w (.slice (some ⟨b, 0, none⟩) 2 2) [x, y] :=
  ⟨b, 2, rfl, Nat.le_refl _, h.lt, fun i hi => by
    have : i = 0 ∨ i = 1 := by simp at hi; omega
    rcases this with rfl | rfl
    · exact h.cell 0
    · exact h.cell 1⟩
theorem Strs.one {w : World} {b : Nat} {x : List UInt8} {t : TypeId} (h : Blk w b #[.string ⟨x.toArray⟩] t) : Strs w (.slice (some ⟨b, 0, none⟩) 1 1) [x] :=
  ⟨b, 1, rfl, Nat.le_refl _, h.lt, fun i hi => by
    have : i = 0 := by simp at hi; omega
    subst this
    exact h.cell 0⟩
theorem longB_two (most : Nat) (a b : List UInt8) : longB most [a, b] = (decide (most < a.length) || decide (most < b.length)) := by simp [longB]
theorem longB_one (most : Nat) (a : List UInt8) : longB most [a] = decide (most < a.length) := by simp [longB]
end Go.Proofs.YtkhgoeippamobaaGreatDoor
