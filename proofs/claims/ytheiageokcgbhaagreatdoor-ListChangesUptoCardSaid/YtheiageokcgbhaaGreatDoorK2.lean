/-
  Part K2 of the proofs of this seat: contracts of functions and plain facts, merged from 13 texts.
-/
import Derived.Shelf.Strings.Search3
import Derived.Shelf.Strings.Prefix
import Derived.Ground.Names2Prog
import Derived.Ground.SlgnProg
import Derived.Shelf.LaysM
import Derived.Test.YtheiageokcgbhaaGreatDoorProg
import Derived.Below
import Derived.Maps.AppendAt
import Derived.Laws.AppendOwnNone
import Derived.Maps.OwnIn
import Derived.BigQuiet
import Derived.Test.YtheiageokcgbhaaGreatDoorK0
import Derived.Test.YtheiageokcgbhaaGreatDoorK1
/-
  Contracts of the library, laid at this program by the kit's shelf tools.
-/
namespace Go.Proofs.YtheiageokcgbhaaGreatDoor.Pz
open Go.Shelf
def Tryz.lays144_ren : Go.Shelf.Ren := ⟨fun | 144 => 118 | 143 => 159 | 219 => 182 | 217 => 158 | 225 => 195 | 224 => 196 | 267 => 197 | 266 => 181 | 314 => 203 | n => n, fun | 9 => 9 | 4 => 4 | 3 => 3 | 5 => 5 | 46 => 124 | 146 => 151 | 51 => 150 | n => n, fun | 1 => 2 | n => n⟩
theorem Tryz.lays144 : Go.Proofs.Lays.n144 Tryz.prog Tryz.lays144_ren := {
  mixed := by kernel_rfl
  f143 := Tryz.func159.trans (congrArg some (by kernel_rfl))
  f144 := Tryz.func118.trans (congrArg some (by kernel_rfl))
  f217 := Tryz.func158.trans (congrArg some (by kernel_rfl))
  f219 := Tryz.func182.trans (congrArg some (by kernel_rfl))
  f224 := Tryz.func196.trans (congrArg some (by kernel_rfl))
  f225 := Tryz.func195.trans (congrArg some (by kernel_rfl))
  f266 := Tryz.func181.trans (congrArg some (by kernel_rfl))
  f267 := Tryz.func197.trans (congrArg some (by kernel_rfl))
  f314 := Tryz.func203.trans (congrArg some (by kernel_rfl))
  t3 := Tryz.underlying3
  a3 := Tryz.isAgg3
  z3 := Tryz.sizeOf3
  v3 := Tryz.zeroValue3
  t4 := Tryz.underlying4
  a4 := Tryz.isAgg4
  z4 := Tryz.sizeOf4
  v4 := Tryz.zeroValue4
  t5 := Tryz.underlying5
  a5 := Tryz.isAgg5
  z5 := Tryz.sizeOf5
  v5 := Tryz.zeroValue5
  t9 := Tryz.underlying9
  a9 := Tryz.isAgg9
  z9 := Tryz.sizeOf9
  v9 := Tryz.zeroValue9
  t46 := Tryz.underlying124
  a46 := Tryz.isAgg124
  z46 := Tryz.sizeOf124
  v46 := Tryz.zeroValue124
  t51 := Tryz.underlying150
  a51 := Tryz.isAgg150
  z51 := Tryz.sizeOf150
  v51 := Tryz.zeroValue150
  t146 := Tryz.underlying151
  a146 := Tryz.isAgg151
  z146 := Tryz.sizeOf151
  v146 := Tryz.zeroValue151
  g1 := by kernel_rfl }
open Go.RowKit Go.Lib in
theorem Tryz.strings_Contains (s sub : ByteArray) (m : Int) (w : World) (hs : s.size < 4294967281) (hm : w.cell? ⟨2, 0, none⟩ = some (.int .i64 m)) :
    Calls Tryz.prog 118 #[.string s, .string sub] w fun e w' => e = .returned (.bool (Lib.contains s.data.toList sub.data.toList)) ∧ w' = w := Any.strings_Contains Tryz.lays144 s sub m w hs hm
def Tryz.lays101_ren : Go.Shelf.Ren := ⟨fun | 101 => 100 | 208 => 135 | 206 => 167 | n => n, fun | 9 => 9 | 4 => 4 | 3 => 3 | n => n, fun | n => n⟩
theorem Tryz.lays101 : Go.Proofs.Lays.n101 Tryz.prog Tryz.lays101_ren := {
  mixed := by kernel_rfl
  f101 := Tryz.func100.trans (congrArg some (by kernel_rfl))
  f206 := Tryz.func167.trans (congrArg some (by kernel_rfl))
  f208 := Tryz.func135.trans (congrArg some (by kernel_rfl))
  t3 := Tryz.underlying3
  a3 := Tryz.isAgg3
  z3 := Tryz.sizeOf3
  v3 := Tryz.zeroValue3
  t4 := Tryz.underlying4
  a4 := Tryz.isAgg4
  z4 := Tryz.sizeOf4
  v4 := Tryz.zeroValue4
  t9 := Tryz.underlying9
  a9 := Tryz.isAgg9
  z9 := Tryz.sizeOf9
  v9 := Tryz.zeroValue9 }
open Go.RowKit Go.Lib in
theorem Tryz.strings_TrimPrefix (s p : ByteArray) (w : World) :
    Calls Tryz.prog 100 #[.string s, .string p] w fun e w' => e = .returned (.string ⟨(Lib.trimPrefix s.data.toList p.data.toList).toArray⟩) ∧ w' = w := Any.strings_TrimPrefix Tryz.lays101 s p w
end Go.Proofs.YtheiageokcgbhaaGreatDoor.Pz
/-
  list.isSpecial, list.balanced: what they answer. Condition of balanced: the library's variable internal/bytealg.MaxLen holds some int.
-/
namespace Go.Proofs.YtheiageokcgbhaaGreatDoor.Pz
open Go.RowKit
/-- the library's variable holds some int -/
def ML (w : World) : Prop := ∃ m, w.cell? ⟨2, 0, none⟩ = some (.int .i64 m)
theorem ML.below {w w' : World} (h : ML w) (hb : Below w.heap.size w w') : ML w' := by
  obtain ⟨m, hm⟩ := h
  refine ⟨m, ?_⟩
  have hlt : 2 < w.heap.size := by
    unfold World.cell? at hm
    rcases Nat.lt_or_ge 2 w.heap.size with h | h
    · exact h
    · rw [Array.getElem?_eq_none h] at hm; cases hm
  rw [hb.cell hlt]
  exact hm
theorem has_idx : ∀ (l : List UInt8) (c : UInt8), l.contains c = decide (0 ≤ Lib.indexByte l c)
  | [], _ => rfl
  | b :: l, c => by
    have ih := has_idx l c
    have hg := Lib.indexByte_ge l c
    rw [List.contains_cons, ih, Lib.indexByte]
    by_cases h : b = c
    · subst h
      simp
    · have e1 : (c == b) = false := by simpa using fun h' => h h'.symm
      have e2 : ¬ (b == c) = true := by simpa using h
      rw [e1, Bool.false_or, if_neg e2]
      by_cases h2 : (Lib.indexByte l c == -1) = true
      · rw [if_pos h2]
        have h2 : Lib.indexByte l c = -1 := by simpa using h2
        rw [h2]
      · rw [if_neg h2]
        have h2 : Lib.indexByte l c ≠ -1 := by simpa using h2
        rw [decide_eq_decide]
        omega
theorem special_idx (c : UInt8) : [34, 92, 123, 125, 36, 91, 93, 59].contains c = decide (0 ≤ Lib.indexByte [34, 92, 123, 125, 36, 91, 93, 59] c) := has_idx _ _
set_option maxRecDepth 100000 in
theorem special_fn (c : UInt8) (w : World) : Calls Tryz.prog 65 #[.int .u8 (c.toNat : Nat)] w fun e w' => e = .returned (.bool (special c)) ∧ w' = w := by
  obtain ⟨I, hI⟩ : ∃ I, I = Lib.indexByte [34, 92, 123, 125, 36, 91, 93, 59] c := ⟨_, rfl⟩
  have hc : Calls Tryz.prog 117 #[.string ⟨#[34, 92, 123, 125, 36, 91, 93, 59]⟩, .int .u8 c.toNat] w fun e w' => e = .returned (.int .i64 I) ∧ w' = w := by
    have h := Tryz.strings_IndexByte ⟨#[34, 92, 123, 125, 36, 91, 93, 59]⟩ (c.toNat : Int) w
    have e1 : ((c.toNat : Int)).toNat.toUInt8 = c := by simp
    rw [e1] at h
    rw [hI]
    exact h
  obtain ⟨W, hW⟩ : ∃ W, W = white c := ⟨_, rfl⟩
  obtain ⟨S, hS⟩ : ∃ S, S = special c := ⟨_, rfl⟩
  have hwc := white_fn c w
  have hS2 : S = (W || decide (0 ≤ I)) := by rw [hS, special, special_idx, hW, hI]
  rw [← hW] at hwc
  rw [← hS]
  have HC := hid hc
  have HW := hid hwc
  have HS := hid hS2
  clear hc hwc hS hS2 hW hI
  cases W with
  | true =>
    go_enter Tryz.func65, Tryz.ntmps65
    go_wp2_with fail
    (with_reducible refine HW.out.mono ?_); rintro e w1 ⟨rfl, hw⟩; subst w1
    go_wp2
    go_ret
    exact ⟨by rw [HS.out]; rfl, rfl⟩
  | false =>
    go_enter Tryz.func65, Tryz.ntmps65
    go_wp2_with fail
    (with_reducible refine HW.out.mono ?_); rintro e w1 ⟨rfl, hw⟩; subst w1
    go_wp2_with fail
    (with_reducible refine HC.out.mono ?_); rintro e w1 ⟨rfl, hw⟩; subst w1
    go_wp2
    go_ret
    exact ⟨by rw [HS.out]; rfl, rfl⟩
theorem pre_bn (c : UInt8) (t : Str) : ([92, 10] : Str).isPrefixOf (c :: t) = (c == 92 && t.head? == some 10) := by
  cases t with
  | nil => simp [List.isPrefixOf]
  | cons d t =>
    simp only [List.isPrefixOf, List.head?_cons, Bool.and_true]
    by_cases h1 : c = 92
    · subst h1
      by_cases h2 : d = 10
      · subst h2; rfl
      · have e1 : ((10 : UInt8) == d) = false := by simpa using fun h => h2 h.symm
        have e2 : (some d == some (10 : UInt8)) = false := by simpa using h2
        rw [e1, e2]
    · have e1 : ((92 : UInt8) == c) = false := by simpa using fun h => h1 h.symm
      have e2 : (c == 92) = false := by simpa using h1
      rw [e1, e2]
      rfl
theorem contains_bn : ∀ (s : Str), Lib.contains s [92, 10] = hasBN s
  | [] => rfl
  | c :: t => by
    have ih := contains_bn t
    unfold Lib.contains at *
    rw [hasBN, ← ih, Lib.index]
    have hg := Lib.index_ge t [92, 10]
    have hp := pre_bn c t
    rw [hp]
    by_cases h : (c == 92 && t.head? == some 10) = true
    · rw [if_pos h, h]; rfl
    · rw [if_neg h]
      rw [Bool.not_eq_true] at h
      rw [h, Bool.false_or]
      by_cases h2 : (Lib.index t [92, 10] == -1) = true
      · rw [if_pos h2]
        have h2 : Lib.index t [92, 10] = -1 := by simpa using h2
        rw [h2]
      · rw [if_neg h2]
        have h2 : Lib.index t [92, 10] ≠ -1 := by simpa using h2
        rw [decide_eq_decide]
        omega
theorem contains_fn (s : Str) (hs : s.length ≤ 1000000) (w : World) (hm : ML w) :
    Calls Tryz.prog 118 #[.string ⟨s.toArray⟩, .string ⟨#[92, 10]⟩] w fun e w' => e = .returned (.bool (hasBN s)) ∧ w' = w := by
  obtain ⟨m, hm⟩ := hm
  have h := Tryz.strings_Contains ⟨s.toArray⟩ ⟨#[92, 10]⟩ m w (by rw [Lib.size_mk]; omega) hm
  rw [show (⟨s.toArray⟩ : ByteArray).data.toList = s by simp, show (⟨#[92, 10]⟩ : ByteArray).data.toList = [92, 10] from rfl, contains_bn] at h
  exact h
theorem bal_cons (d : Nat) (c : UInt8) (t : Str) : bal d (c :: t) =
    if c == 92 then (match t with | [] => false | _ :: t' => bal d t')
    else if c == 123 then bal (d + 1) t
    else if c == 125 then (match d with | 0 => false | d' + 1 => bal d' t)
    else bal d t := bal.eq_def ..
set_option maxRecDepth 100000 in
set_option maxHeartbeats 2000000 in
theorem balanced_fn (s : Str) (hs : s.length ≤ 1000000) (w : World) (hm : ML w) :
    Calls Tryz.prog 66 #[.string ⟨s.toArray⟩] w fun e w' => e = .returned (.bool (balanced s)) ∧ w' = w := by
  have hsz : (⟨s.toArray⟩ : ByteArray).size = s.length := Lib.size_mk _
  obtain ⟨H, hH⟩ : ∃ H, H = hasBN s := ⟨_, rfl⟩
  obtain ⟨B, hB⟩ : ∃ B, B = bal 0 s := ⟨_, rfl⟩
  obtain ⟨R, hR⟩ : ∃ R, R = balanced s := ⟨_, rfl⟩
  have hc := contains_fn s hs w hm
  have hR2 : R = (B && !H) := by rw [hR, hB, hH]; rfl
  rw [← hH] at hc
  rw [← hR]
  have HC := hid hc
  have HB := hid hB
  have HR := hid hR2
  clear hc hB hR2 hR hH hm
  go_enter Tryz.func66, Tryz.ntmps66
  go_wp2_with fail
  go_loopg [3, 4] s.length (fun k dv iv wr => ∃ (i d : Nat) (rest : Str), dv = .int .i64 (d : Nat) ∧ iv = .int .i64 (i : Nat) ∧ At s rest i ∧ B = bal d rest ∧ wr = w ∧ k = rest.length ∧ d ≤ i)
  case atStart => exact ⟨0, 0, s, rfl, rfl, At.start s, HB.out, rfl, rfl, Nat.le_refl _⟩
  case round =>
    obtain ⟨i, d, rest, rfl, rfl, ha, hb, hw, rfl, hd⟩ := hrel
    subst hw
    have HB2 := hid hb
    clear hb HB
    have hle : i ≤ s.length := by have := ha.len; omega
    cases rest with
    | nil =>
      have hge : s.length ≤ i := ha.nil_iff.1 rfl
      have HB3 : B = (d == 0) := by rw [HB2.out]; rfl
      have HB4 := hid HB3
      clear HB3 HB2
      by_cases h0 : d = 0
      · subst h0
        go_wp2_with fail
        (with_reducible refine HC.out.mono ?_); rintro e w1 ⟨rfl, hw⟩; subst w1
        go_wp2
        go_ret
        exact ⟨by rw [HR.out, HB4.out]; rfl, rfl⟩
      · have hne : ((d : Int) == 0) = false := by rw [beq_eq_false_iff_ne]; omega
        go_wp2
        go_ret
        refine ⟨?_, rfl⟩
        rw [HR.out, HB4.out, show (d == 0) = false by simpa using h0]
        rfl
    | cons c t =>
      have hlt := ha.lt
      have hx := ha.byte
      have hlen := ha.len
      simp only [List.length_cons] at hlen
      by_cases h92 : c = 92
      · subst h92
        cases t with
        | nil =>
          have he : ((i : Int) + 1 == (s.length : Int)) = true := by rw [beq_iff_eq]; simp at hlen; omega
          go_wp2
          go_ret
          exact ⟨by rw [HR.out, HB2.out, bal_cons]; rfl, rfl⟩
        | cons e t =>
          simp only [List.length_cons] at hlen
          have he : ((i : Int) + 1 == (s.length : Int)) = false := by rw [beq_eq_false_iff_ne]; omega
          go_wp2
          go_roundg t.length
          case measure => simp; omega
          case rel => exact ⟨i + 2, d, t, rfl, by rw [Value.int.injEq]; exact ⟨rfl, by omega⟩, ha.tail.tail, by rw [HB2.out, bal_cons]; rfl, rfl, rfl, by omega⟩
      · have n92 := byte_ne 92 h92 rfl
        by_cases h123 : c = 123
        · subst h123
          go_wp2
          go_roundg t.length
          case measure => simp
          case rel => exact ⟨i + 1, d + 1, t, by go_num, by go_num, ha.tail, by rw [HB2.out, bal_cons]; rfl, rfl, rfl, by omega⟩
        · have n123 := byte_ne 123 h123 rfl
          by_cases h125 : c = 125
          · subst h125
            cases d with
            | zero =>
              go_wp2
              go_ret
              exact ⟨by rw [HR.out, HB2.out, bal_cons]; rfl, rfl⟩
            | succ d =>
              have hnn : ¬ (((d + 1 : Nat) : Int) - 1 < 0) := by omega
              go_wp2
              go_roundg t.length
              case measure => simp
              case rel => exact ⟨i + 1, d, t, by rw [Value.int.injEq]; exact ⟨rfl, by omega⟩, by go_num, ha.tail, by rw [HB2.out, bal_cons]; rfl, rfl, rfl, by omega⟩
          · have n125 := byte_ne 125 h125 rfl
            go_wp2
            go_roundg t.length
            case measure => simp
            case rel => exact ⟨i + 1, d, t, rfl, by go_num, ha.tail, by rw [HB2.out, bal_cons, if_neg (by simpa using h92), if_neg (by simpa using h123), if_neg (by simpa using h125)], rfl, rfl, by omega⟩
end Go.Proofs.YtheiageokcgbhaaGreatDoor.Pz
/-
  list.Quote: what it answers. Condition: the library's variable internal/bytealg.MaxLen holds some int.
-/
namespace Go.Proofs.YtheiageokcgbhaaGreatDoor.Pz
open Go.RowKit
theorem slash_yes {c : UInt8} {b : Bool} (t : Str) (h : special c = true ∨ (b = true ∧ c = 35)) : slash b (c :: t) = 92 :: slash1 c :: slash false t := by
  rw [slash, if_pos]
  rcases h with h | ⟨h1, h2⟩
  · rw [h]; rfl
  · rw [h1, h2]; rfl
theorem slash_no {c : UInt8} {b : Bool} (t : Str) (h : special c = false) (h2 : b = true → c ≠ 35) : slash b (c :: t) = c :: slash false t := by
  rw [slash, if_neg]
  rw [h, Bool.false_or, Bool.and_eq_true, beq_iff_eq]
  exact fun ⟨h3, h4⟩ => h2 h3 h4
theorem slash1_same {c : UInt8} (h : 14 ≤ c.toNat) : slash1 c = c := by
  unfold slash1
  have hn : ∀ k : UInt8, k.toNat < 14 → (c == k) = false := by
    intro k hk
    rw [beq_eq_false_iff_ne]
    rintro rfl
    omega
  rw [if_neg (by rw [hn 9 (by decide)]; simp), if_neg (by rw [hn 10 (by decide)]; simp), if_neg (by rw [hn 11 (by decide)]; simp), if_neg (by rw [hn 12 (by decide)]; simp), if_neg (by rw [hn 13 (by decide)]; simp)]
theorem special_split {c : UInt8} (h : special c = true) : c = 9 ∨ c = 10 ∨ c = 11 ∨ c = 12 ∨ c = 13 ∨ 14 ≤ c.toNat := by
  rcases slashy (.inl h) with rfl | rfl | rfl | rfl | rfl | rfl | rfl | rfl | rfl | rfl | rfl | rfl | rfl | rfl | rfl <;> simp
theorem slash_len : ∀ (s : Str) (b : Bool), (slash b s).length ≤ 2 * s.length
  | [], _ => Nat.le_refl _
  | c :: t, b => by
    have := slash_len t false
    rw [slash]
    split
    · simp only [List.length_cons]; omega
    · simp only [List.length_cons]; omega
theorem quote_len (s : Str) : (quote s).length ≤ 2 * s.length + 2 := by
  unfold quote
  split
  · simp
  · split
    · omega
    · split
      · simp; omega
      · have := slash_len s true; omega
theorem cat3 (s : Str) : (⟨#[123]⟩ : ByteArray) ++ ⟨s.toArray⟩ ++ ⟨#[125]⟩ = ⟨(123 :: (s ++ [125])).toArray⟩ := by
  rw [ByteArray.ext_iff]
  simp [ByteArray.data_append]
set_option maxRecDepth 100000 in
set_option maxHeartbeats 20000000 in
theorem quote_plain_fn (c0 : UInt8) (t0 : Str) (hs : (c0 :: t0).length ≤ 1000000) (hp : plainW (c0 :: t0) = true) (w : World) (hm : ML w) :
    Calls Tryz.prog 28 #[.string ⟨(c0 :: t0).toArray⟩] w fun e w' => e = .returned (.string ⟨(c0 :: t0).toArray⟩) ∧ Below w.heap.size w w' := by
  have hsz : (⟨(c0 :: t0).toArray⟩ : ByteArray).size = (c0 :: t0).length := Lib.size_mk _
  have hx0 : ∀ h, (⟨(c0 :: t0).toArray⟩ : ByteArray)[0]'h = c0 := fun h => rfl
  have hemp : (c0 :: t0).isEmpty = false := rfl
  have hpos : 0 < (c0 :: t0).length := by simp
  have hb := balanced_fn (c0 :: t0) hs w hm
  have hp2 : plainW (c0 :: t0) = ((c0 != 35) && (c0 :: t0).all fun c => !special c) := rfl
  rw [hp] at hp2
  clear hp
  have hst : At (c0 :: t0) (c0 :: t0) 0 := At.start _
  generalize c0 :: t0 = s at *
  have HB := hid hb
  have HP := hid hp2
  clear hb hp2
  have h35 : (c0 != 35) = ((c0.toNat : Int) != 35) := by
    by_cases h : c0 = 35
    · subst h; rfl
    · rw [byte_ne' 35 h rfl]; simpa using h
  have HP2 := hid (show true = (((c0.toNat : Int) != 35) && s.all fun c => !special c) by rw [HP.out, h35])
  replace HP := HP2
  clear HP2 h35
  go_enter Tryz.func28, Tryz.ntmps28
  go_wp2_with fail
  go_loopg [3, 4] s.length (fun k bv iv wr => ∃ (i : Nat) (b : Bool) (rest : Str), bv = .bool b ∧ iv = .int .i64 (i : Nat) ∧ At s rest i ∧ true = (b && rest.all fun c => !special c) ∧ wr = w ∧ k = rest.length)
  case atStart => exact ⟨0, ((c0.toNat : Int) != 35), s, rfl, rfl, hst, HP.out, rfl, rfl⟩
  case round =>
    obtain ⟨i, b, rest, rfl, rfl, ha, hb, hw, rfl⟩ := hrel
    replace hw := hw.symm
    subst hw
    have HB2 := hid hb
    clear hb HP
    have hle : i ≤ s.length := by have := ha.len; omega
    cases rest with
    | nil =>
      have hge : s.length ≤ i := ha.nil_iff.1 rfl
      cases b with
      | true =>
        go_wp2
        go_ret
        exact ⟨rfl, Below.refl _ _⟩
      | false =>
        exact absurd HB2.out (by simp)
    | cons c t =>
      have hlt := ha.lt
      have hx := ha.byte
      have hlen := ha.len
      cases b with
      | false =>
        exact absurd HB2.out (by simp)
      | true =>
        have hsp := special_fn c w
        have hq := HB2.out
        rw [List.all_cons, Bool.true_and] at hq
        obtain ⟨S, hS⟩ : ∃ S, S = special c := ⟨_, rfl⟩
        rw [← hS] at hsp hq
        have HS := hid hsp
        have HQ := hid hq
        clear hS hsp hq HB2
        go_wp2_with fail
        (with_reducible refine HS.out.mono ?_); rintro e w1 ⟨rfl, hw⟩; subst w1
        go_wp2
        go_roundg t.length
        case measure => simp
        case rel => exact ⟨i + 1, !S, t, rfl, by go_num, ha.tail, HQ.out, rfl, rfl⟩
set_option maxRecDepth 100000 in
set_option maxHeartbeats 20000000 in
theorem quote_brace_fn (c0 : UInt8) (t0 : Str) (hs : (c0 :: t0).length ≤ 1000000) (hp : plainW (c0 :: t0) = false) (hbal : balanced (c0 :: t0) = true) (w : World) (hm : ML w) :
    Calls Tryz.prog 28 #[.string ⟨(c0 :: t0).toArray⟩] w fun e w' => e = .returned (.string ⟨(123 :: (c0 :: t0 ++ [125])).toArray⟩) ∧ Below w.heap.size w w' := by
  have hsz : (⟨(c0 :: t0).toArray⟩ : ByteArray).size = (c0 :: t0).length := Lib.size_mk _
  have hx0 : ∀ h, (⟨(c0 :: t0).toArray⟩ : ByteArray)[0]'h = c0 := fun h => rfl
  have hemp : (c0 :: t0).isEmpty = false := rfl
  have hpos : 0 < (c0 :: t0).length := by simp
  have hb := balanced_fn (c0 :: t0) hs w hm
  rw [hbal] at hb
  have hcat : (⟨#[123]⟩ : ByteArray) ++ ⟨(c0 :: t0).toArray⟩ ++ ⟨#[125]⟩ = ⟨(123 :: (c0 :: t0 ++ [125])).toArray⟩ := cat3 _
  have hp2 : plainW (c0 :: t0) = ((c0 != 35) && (c0 :: t0).all fun c => !special c) := rfl
  rw [hp] at hp2
  clear hp
  have hst : At (c0 :: t0) (c0 :: t0) 0 := At.start _
  generalize c0 :: t0 = s at *
  have HB := hid hb
  have HP := hid hp2
  have HJ := hid hcat
  clear hcat
  clear hb hp2
  have h35 : (c0 != 35) = ((c0.toNat : Int) != 35) := by
    by_cases h : c0 = 35
    · subst h; rfl
    · rw [byte_ne' 35 h rfl]; simpa using h
  have HP2 := hid (show false = (((c0.toNat : Int) != 35) && s.all fun c => !special c) by rw [HP.out, h35])
  replace HP := HP2
  clear HP2 h35
  go_enter Tryz.func28, Tryz.ntmps28
  go_wp2_with fail
  go_loopg [3, 4] s.length (fun k bv iv wr => ∃ (i : Nat) (b : Bool) (rest : Str), bv = .bool b ∧ iv = .int .i64 (i : Nat) ∧ At s rest i ∧ false = (b && rest.all fun c => !special c) ∧ wr = w ∧ k = rest.length)
  case atStart => exact ⟨0, ((c0.toNat : Int) != 35), s, rfl, rfl, hst, HP.out, rfl, rfl⟩
  case round =>
    obtain ⟨i, b, rest, rfl, rfl, ha, hb, hw, rfl⟩ := hrel
    replace hw := hw.symm
    subst hw
    have HB2 := hid hb
    clear hb HP
    have hle : i ≤ s.length := by have := ha.len; omega
    cases rest with
    | nil =>
      have hge : s.length ≤ i := ha.nil_iff.1 rfl
      cases b with
      | true =>
        exact absurd HB2.out (by simp)
      | false =>
        go_wp2_with fail
        (with_reducible refine HB.out.mono ?_); rintro e w1 ⟨rfl, hw⟩; subst w1
        go_wp2
        go_ret
        exact ⟨rfl, Below.refl _ _⟩
    | cons c t =>
      have hlt := ha.lt
      have hx := ha.byte
      have hlen := ha.len
      cases b with
      | false =>
        go_wp2_with fail
        (with_reducible refine HB.out.mono ?_); rintro e w1 ⟨rfl, hw⟩; subst w1
        go_wp2
        go_ret
        exact ⟨rfl, Below.refl _ _⟩
      | true =>
        have hsp := special_fn c w
        have hq := HB2.out
        rw [List.all_cons, Bool.true_and] at hq
        obtain ⟨S, hS⟩ : ∃ S, S = special c := ⟨_, rfl⟩
        rw [← hS] at hsp hq
        have HS := hid hsp
        have HQ := hid hq
        clear hS hsp hq HB2
        go_wp2_with fail
        (with_reducible refine HS.out.mono ?_); rintro e w1 ⟨rfl, hw⟩; subst w1
        go_wp2
        go_roundg t.length
        case measure => simp
        case rel => exact ⟨i + 1, !S, t, rfl, by go_num, ha.tail, HQ.out, rfl, rfl⟩
set_option maxRecDepth 100000 in
set_option maxHeartbeats 20000000 in
theorem quote_slash_fn (c0 : UInt8) (t0 : Str) (hs : (c0 :: t0).length ≤ 1000000) (hp : plainW (c0 :: t0) = false) (hbal : balanced (c0 :: t0) = false) (w : World) (hm : ML w) :
    Calls Tryz.prog 28 #[.string ⟨(c0 :: t0).toArray⟩] w fun e w' => e = .returned (.string ⟨(slash true (c0 :: t0)).toArray⟩) ∧ Below w.heap.size w w' := by
  have hsz : (⟨(c0 :: t0).toArray⟩ : ByteArray).size = (c0 :: t0).length := Lib.size_mk _
  have hx0 : ∀ h, (⟨(c0 :: t0).toArray⟩ : ByteArray)[0]'h = c0 := fun h => rfl
  have hemp : (c0 :: t0).isEmpty = false := rfl
  have hpos : 0 < (c0 :: t0).length := by simp
  have hb := balanced_fn (c0 :: t0) hs w hm
  rw [hbal] at hb
  obtain ⟨J, hcat⟩ : ∃ J, J = slash true (c0 :: t0) := ⟨_, rfl⟩
  rw [← hcat]
  have hp2 : plainW (c0 :: t0) = ((c0 != 35) && (c0 :: t0).all fun c => !special c) := rfl
  rw [hp] at hp2
  clear hp
  have hst : At (c0 :: t0) (c0 :: t0) 0 := At.start _
  generalize c0 :: t0 = s at *
  have HB := hid hb
  have HP := hid hp2
  have HJ := hid hcat
  clear hcat
  clear hb hp2
  have h35 : (c0 != 35) = ((c0.toNat : Int) != 35) := by
    by_cases h : c0 = 35
    · subst h; rfl
    · rw [byte_ne' 35 h rfl]; simpa using h
  have HP2 := hid (show false = (((c0.toNat : Int) != 35) && s.all fun c => !special c) by rw [HP.out, h35])
  replace HP := HP2
  clear HP2 h35
  go_enter Tryz.func28, Tryz.ntmps28
  go_wp2_with fail
  go_loopg [3, 4] s.length (fun k bv iv wr => ∃ (i : Nat) (b : Bool) (rest : Str), bv = .bool b ∧ iv = .int .i64 (i : Nat) ∧ At s rest i ∧ false = (b && rest.all fun c => !special c) ∧ wr = w ∧ k = rest.length)
  case atStart => exact ⟨0, ((c0.toNat : Int) != 35), s, rfl, rfl, hst, HP.out, rfl, rfl⟩
  case round =>
    obtain ⟨i, b, rest, rfl, rfl, ha, hb, hw, rfl⟩ := hrel
    replace hw := hw.symm
    subst hw
    have HB2 := hid hb
    clear hb HP
    have hle : i ≤ s.length := by have := ha.len; omega
    cases rest with
    | nil =>
      have hge : s.length ≤ i := ha.nil_iff.1 rfl
      cases b with
      | true =>
        exact absurd HB2.out (by simp)
      | false =>
        go_wp2_with fail
        (with_reducible refine HB.out.mono ?_); rintro e w1 ⟨rfl, hw⟩; subst w1
        have hB0 := Bld.new w
        have hW0 : Below w.heap.size w (w.alloc (.cells #[.pointer none, .slice none 0 0] 75)) := (Below.refl _ _).alloc (Nat.le_refl _) _
        clear ha hx0
        go_wp2_with fail
        generalize w.alloc (.cells #[.pointer none, .slice none 0 0] 75) = w0 at *
        go_loopg [38] s.length (fun k jv wr => ∃ (j : Nat) (done rest : Str), jv = .int .i64 (j : Nat) ∧ At s rest j ∧ Bld wr w.heap.size done ∧ J = done ++ slash (j == 0) rest ∧ Below w.heap.size w wr ∧ k = rest.length ∧ done.length + 2 * rest.length ≤ 2 * s.length)
        case atStart => exact ⟨0, [], s, rfl, hst, hB0, by rw [HJ.out]; rfl, hW0, rfl, by simp⟩
        case round =>
          obtain ⟨j, done, rest, rfl, ha, hB, hj, hbl, rfl, hl⟩ := hrel
          have HD := hid hj
          clear hj hB0 hW0 w0
          have hle : j ≤ s.length := by have := ha.len; omega
          have hbs := hB.lt
          have wb92 : ∀ (u : World) (l : Str), Bld u w.heap.size l → l.length ≤ 1000000000 → Calls Tryz.prog 67 #[.pointer (some ⟨w.heap.size, 0, none⟩), .int .u8 92] u fun e w' => e = .returned .nilIface ∧ Bld w' w.heap.size (l ++ [92]) ∧ Kept w.heap.size u w' := fun u l h hl => wbyte_fn h 92 hl
          cases rest with
          | nil =>
            have hge : s.length ≤ j := ha.nil_iff.1 rfl
            have hc := hid (str_fn hB)
            go_wp2_with fail
            (with_reducible refine hc.out.mono ?_); rintro e w1 ⟨rfl, hB1, hk1⟩
            go_wp2
            go_ret
            exact ⟨by rw [HD.out]; simp [slash], hbl.trans hk1.1⟩
          | cons c t =>
            have hlt := ha.lt
            have hx := ha.byte
            have hlen := ha.len
            simp only [List.length_cons] at hl hlen
            have hsp := special_fn c wr
            obtain ⟨S, hS⟩ : ∃ S, special c = S := ⟨_, rfl⟩
            rw [hS] at hsp
            have HQ := hid hS
            have HS := hid hsp
            clear hS hsp
            cases S with
            | true =>
              rcases special_split HQ.out with rfl | rfl | rfl | rfl | rfl | h14
              · replace HS := hid (show Calls Tryz.prog 65 #[.int .u8 9] wr _ from HS.out)
                have hk : ∀ h, (⟨#[116, 110, 118, 102, 114]⟩ : ByteArray)[0]'h = 116 := fun _ => rfl
                go_wp2_with fail
                (with_reducible refine HS.out.mono ?_); rintro e w1 ⟨rfl, hw⟩; subst w1
                have hc1 := wb92 wr done hB (by omega)
                have HC1 := hid hc1
                clear hc1
                go_wp2_with fail
                (with_reducible refine HC1.out.mono ?_); rintro e w1 ⟨rfl, hB1, hk1⟩
                have hc2 : Calls Tryz.prog 67 #[.pointer (some ⟨w.heap.size, 0, none⟩), .int .u8 116] w1 fun e w' => e = .returned .nilIface ∧ Bld w' w.heap.size (done ++ [92] ++ [116]) ∧ Kept w.heap.size w1 w' := wbyte_fn hB1 116 (by simp; omega)
                have HC2 := hid hc2
                clear hc2
                go_wp2_with fail
                (with_reducible refine HC2.out.mono ?_); rintro e w2 ⟨rfl, hB2, hk2⟩
                go_wp2
                go_roundg t.length
                case measure => simp
                case rel => exact ⟨j + 1, done ++ [92] ++ [116], t, by go_num, ha.tail, hB2, by rw [HD.out, slash_yes t (.inl HQ.out)]; simp [slash1], hbl.trans (hk1.trans hk2).1, rfl, by simp; omega⟩
              · replace HS := hid (show Calls Tryz.prog 65 #[.int .u8 10] wr _ from HS.out)
                have hk : ∀ h, (⟨#[116, 110, 118, 102, 114]⟩ : ByteArray)[1]'h = 110 := fun _ => rfl
                go_wp2_with fail
                (with_reducible refine HS.out.mono ?_); rintro e w1 ⟨rfl, hw⟩; subst w1
                have hc1 := wb92 wr done hB (by omega)
                have HC1 := hid hc1
                clear hc1
                go_wp2_with fail
                (with_reducible refine HC1.out.mono ?_); rintro e w1 ⟨rfl, hB1, hk1⟩
                have hc2 : Calls Tryz.prog 67 #[.pointer (some ⟨w.heap.size, 0, none⟩), .int .u8 110] w1 fun e w' => e = .returned .nilIface ∧ Bld w' w.heap.size (done ++ [92] ++ [110]) ∧ Kept w.heap.size w1 w' := wbyte_fn hB1 110 (by simp; omega)
                have HC2 := hid hc2
                clear hc2
                go_wp2_with fail
                (with_reducible refine HC2.out.mono ?_); rintro e w2 ⟨rfl, hB2, hk2⟩
                go_wp2
                go_roundg t.length
                case measure => simp
                case rel => exact ⟨j + 1, done ++ [92] ++ [110], t, by go_num, ha.tail, hB2, by rw [HD.out, slash_yes t (.inl HQ.out)]; simp [slash1], hbl.trans (hk1.trans hk2).1, rfl, by simp; omega⟩
              · replace HS := hid (show Calls Tryz.prog 65 #[.int .u8 11] wr _ from HS.out)
                have hk : ∀ h, (⟨#[116, 110, 118, 102, 114]⟩ : ByteArray)[2]'h = 118 := fun _ => rfl
                go_wp2_with fail
                (with_reducible refine HS.out.mono ?_); rintro e w1 ⟨rfl, hw⟩; subst w1
                have hc1 := wb92 wr done hB (by omega)
                have HC1 := hid hc1
                clear hc1
                go_wp2_with fail
                (with_reducible refine HC1.out.mono ?_); rintro e w1 ⟨rfl, hB1, hk1⟩
                have hc2 : Calls Tryz.prog 67 #[.pointer (some ⟨w.heap.size, 0, none⟩), .int .u8 118] w1 fun e w' => e = .returned .nilIface ∧ Bld w' w.heap.size (done ++ [92] ++ [118]) ∧ Kept w.heap.size w1 w' := wbyte_fn hB1 118 (by simp; omega)
                have HC2 := hid hc2
                clear hc2
                go_wp2_with fail
                (with_reducible refine HC2.out.mono ?_); rintro e w2 ⟨rfl, hB2, hk2⟩
                go_wp2
                go_roundg t.length
                case measure => simp
                case rel => exact ⟨j + 1, done ++ [92] ++ [118], t, by go_num, ha.tail, hB2, by rw [HD.out, slash_yes t (.inl HQ.out)]; simp [slash1], hbl.trans (hk1.trans hk2).1, rfl, by simp; omega⟩
              · replace HS := hid (show Calls Tryz.prog 65 #[.int .u8 12] wr _ from HS.out)
                have hk : ∀ h, (⟨#[116, 110, 118, 102, 114]⟩ : ByteArray)[3]'h = 102 := fun _ => rfl
                go_wp2_with fail
                (with_reducible refine HS.out.mono ?_); rintro e w1 ⟨rfl, hw⟩; subst w1
                have hc1 := wb92 wr done hB (by omega)
                have HC1 := hid hc1
                clear hc1
                go_wp2_with fail
                (with_reducible refine HC1.out.mono ?_); rintro e w1 ⟨rfl, hB1, hk1⟩
                have hc2 : Calls Tryz.prog 67 #[.pointer (some ⟨w.heap.size, 0, none⟩), .int .u8 102] w1 fun e w' => e = .returned .nilIface ∧ Bld w' w.heap.size (done ++ [92] ++ [102]) ∧ Kept w.heap.size w1 w' := wbyte_fn hB1 102 (by simp; omega)
                have HC2 := hid hc2
                clear hc2
                go_wp2_with fail
                (with_reducible refine HC2.out.mono ?_); rintro e w2 ⟨rfl, hB2, hk2⟩
                go_wp2
                go_roundg t.length
                case measure => simp
                case rel => exact ⟨j + 1, done ++ [92] ++ [102], t, by go_num, ha.tail, hB2, by rw [HD.out, slash_yes t (.inl HQ.out)]; simp [slash1], hbl.trans (hk1.trans hk2).1, rfl, by simp; omega⟩
              · replace HS := hid (show Calls Tryz.prog 65 #[.int .u8 13] wr _ from HS.out)
                have hk : ∀ h, (⟨#[116, 110, 118, 102, 114]⟩ : ByteArray)[4]'h = 114 := fun _ => rfl
                go_wp2_with fail
                (with_reducible refine HS.out.mono ?_); rintro e w1 ⟨rfl, hw⟩; subst w1
                have hc1 := wb92 wr done hB (by omega)
                have HC1 := hid hc1
                clear hc1
                go_wp2_with fail
                (with_reducible refine HC1.out.mono ?_); rintro e w1 ⟨rfl, hB1, hk1⟩
                have hc2 : Calls Tryz.prog 67 #[.pointer (some ⟨w.heap.size, 0, none⟩), .int .u8 114] w1 fun e w' => e = .returned .nilIface ∧ Bld w' w.heap.size (done ++ [92] ++ [114]) ∧ Kept w.heap.size w1 w' := wbyte_fn hB1 114 (by simp; omega)
                have HC2 := hid hc2
                clear hc2
                go_wp2_with fail
                (with_reducible refine HC2.out.mono ?_); rintro e w2 ⟨rfl, hB2, hk2⟩
                go_wp2
                go_roundg t.length
                case measure => simp
                case rel => exact ⟨j + 1, done ++ [92] ++ [114], t, by go_num, ha.tail, hB2, by rw [HD.out, slash_yes t (.inl HQ.out)]; simp [slash1], hbl.trans (hk1.trans hk2).1, rfl, by simp; omega⟩
              · have hr : slash1 c = c := slash1_same h14
                have h9 : (9 : Int) ≤ (c.toNat : Int) := by omega
                have h13 : ¬ ((c.toNat : Int) ≤ 13) := by omega
                go_wp2_with fail
                (with_reducible refine HS.out.mono ?_); rintro e w1 ⟨rfl, hw⟩; subst w1
                have hc1 := wb92 wr done hB (by omega)
                have HC1 := hid hc1
                clear hc1
                go_wp2_with fail
                (with_reducible refine HC1.out.mono ?_); rintro e w1 ⟨rfl, hB1, hk1⟩
                have hc2 : Calls Tryz.prog 67 #[.pointer (some ⟨w.heap.size, 0, none⟩), .int .u8 c.toNat] w1 fun e w' => e = .returned .nilIface ∧ Bld w' w.heap.size (done ++ [92] ++ [c]) ∧ Kept w.heap.size w1 w' := wbyte_fn hB1 c (by simp; omega)
                have HC2 := hid hc2
                clear hc2
                go_wp2_with fail
                (with_reducible refine HC2.out.mono ?_); rintro e w2 ⟨rfl, hB2, hk2⟩
                go_wp2
                go_roundg t.length
                case measure => simp
                case rel => exact ⟨j + 1, done ++ [92] ++ [c], t, by go_num, ha.tail, hB2, by rw [HD.out, slash_yes t (.inl HQ.out)]; simp [hr], hbl.trans (hk1.trans hk2).1, rfl, by simp; omega⟩
            | false =>
              by_cases h0 : j = 0
              · subst h0
                by_cases h35 : c = 35
                · subst h35
                  replace HS := hid (show Calls Tryz.prog 65 #[.int .u8 35] wr _ from HS.out)
                  go_wp2_with fail
                  (with_reducible refine HS.out.mono ?_); rintro e w1 ⟨rfl, hw⟩; subst w1
                  have hc1 := wb92 wr done hB (by omega)
                  have HC1 := hid hc1
                  clear hc1
                  go_wp2_with fail
                  (with_reducible refine HC1.out.mono ?_); rintro e w1 ⟨rfl, hB1, hk1⟩
                  have hc2 : Calls Tryz.prog 67 #[.pointer (some ⟨w.heap.size, 0, none⟩), .int .u8 35] w1 fun e w' => e = .returned .nilIface ∧ Bld w' w.heap.size (done ++ [92] ++ [35]) ∧ Kept w.heap.size w1 w' := wbyte_fn hB1 35 (by simp; omega)
                  have HC2 := hid hc2
                  clear hc2
                  go_wp2_with fail
                  (with_reducible refine HC2.out.mono ?_); rintro e w2 ⟨rfl, hB2, hk2⟩
                  go_wp2
                  go_roundg t.length
                  case measure => simp
                  case rel => exact ⟨0 + 1, done ++ [92] ++ [35], t, by go_num, ha.tail, hB2, by rw [HD.out, slash_yes (b := ((0 : Nat) == 0)) t (.inr ⟨rfl, rfl⟩)]; simp [slash1], hbl.trans (hk1.trans hk2).1, rfl, by simp; omega⟩
                · have n35 := byte_ne 35 h35 rfl
                  go_wp2_with fail
                  (with_reducible refine HS.out.mono ?_); rintro e w1 ⟨rfl, hw⟩; subst w1
                  have hc2 := hid (wbyte_fn hB c (by omega))
                  go_wp2_with fail
                  (with_reducible refine hc2.out.mono ?_); rintro e w2 ⟨rfl, hB2, hk2⟩
                  go_wp2
                  go_roundg t.length
                  case measure => simp
                  case rel => exact ⟨0 + 1, done ++ [c], t, by go_num, ha.tail, hB2, by rw [HD.out, slash_no t HQ.out (fun _ => h35)]; simp, hbl.trans hk2.1, rfl, by simp; omega⟩
              · have hj0 : ((j : Int) == 0) = false := by rw [beq_eq_false_iff_ne]; omega
                go_wp2_with fail
                (with_reducible refine HS.out.mono ?_); rintro e w1 ⟨rfl, hw⟩; subst w1
                have hc2 := hid (wbyte_fn hB c (by omega))
                go_wp2_with fail
                (with_reducible refine hc2.out.mono ?_); rintro e w2 ⟨rfl, hB2, hk2⟩
                go_wp2
                go_roundg t.length
                case measure => simp
                case rel => exact ⟨j + 1, done ++ [c], t, by go_num, ha.tail, hB2, by rw [HD.out, slash_no t HQ.out (fun h => absurd (by simpa using h) h0)]; simp, hbl.trans hk2.1, rfl, by simp; omega⟩
    | cons c t =>
      have hlt := ha.lt
      have hx := ha.byte
      have hlen := ha.len
      cases b with
      | false =>
        go_wp2_with fail
        (with_reducible refine HB.out.mono ?_); rintro e w1 ⟨rfl, hw⟩; subst w1
        have hB0 := Bld.new w
        have hW0 : Below w.heap.size w (w.alloc (.cells #[.pointer none, .slice none 0 0] 75)) := (Below.refl _ _).alloc (Nat.le_refl _) _
        clear ha hx0
        go_wp2_with fail
        generalize w.alloc (.cells #[.pointer none, .slice none 0 0] 75) = w0 at *
        go_loopg [38] s.length (fun k jv wr => ∃ (j : Nat) (done rest : Str), jv = .int .i64 (j : Nat) ∧ At s rest j ∧ Bld wr w.heap.size done ∧ J = done ++ slash (j == 0) rest ∧ Below w.heap.size w wr ∧ k = rest.length ∧ done.length + 2 * rest.length ≤ 2 * s.length)
        case atStart => exact ⟨0, [], s, rfl, hst, hB0, by rw [HJ.out]; rfl, hW0, rfl, by simp⟩
        case round =>
          obtain ⟨j, done, rest, rfl, ha, hB, hj, hbl, rfl, hl⟩ := hrel
          have HD := hid hj
          clear hj hB0 hW0 w0
          have hle : j ≤ s.length := by have := ha.len; omega
          have hbs := hB.lt
          have wb92 : ∀ (u : World) (l : Str), Bld u w.heap.size l → l.length ≤ 1000000000 → Calls Tryz.prog 67 #[.pointer (some ⟨w.heap.size, 0, none⟩), .int .u8 92] u fun e w' => e = .returned .nilIface ∧ Bld w' w.heap.size (l ++ [92]) ∧ Kept w.heap.size u w' := fun u l h hl => wbyte_fn h 92 hl
          cases rest with
          | nil =>
            have hge : s.length ≤ j := ha.nil_iff.1 rfl
            have hc := hid (str_fn hB)
            go_wp2_with fail
            (with_reducible refine hc.out.mono ?_); rintro e w1 ⟨rfl, hB1, hk1⟩
            go_wp2
            go_ret
            exact ⟨by rw [HD.out]; simp [slash], hbl.trans hk1.1⟩
          | cons c t =>
            have hlt := ha.lt
            have hx := ha.byte
            have hlen := ha.len
            simp only [List.length_cons] at hl hlen
            have hsp := special_fn c wr
            obtain ⟨S, hS⟩ : ∃ S, special c = S := ⟨_, rfl⟩
            rw [hS] at hsp
            have HQ := hid hS
            have HS := hid hsp
            clear hS hsp
            cases S with
            | true =>
              rcases special_split HQ.out with rfl | rfl | rfl | rfl | rfl | h14
              · replace HS := hid (show Calls Tryz.prog 65 #[.int .u8 9] wr _ from HS.out)
                have hk : ∀ h, (⟨#[116, 110, 118, 102, 114]⟩ : ByteArray)[0]'h = 116 := fun _ => rfl
                go_wp2_with fail
                (with_reducible refine HS.out.mono ?_); rintro e w1 ⟨rfl, hw⟩; subst w1
                have hc1 := wb92 wr done hB (by omega)
                have HC1 := hid hc1
                clear hc1
                go_wp2_with fail
                (with_reducible refine HC1.out.mono ?_); rintro e w1 ⟨rfl, hB1, hk1⟩
                have hc2 : Calls Tryz.prog 67 #[.pointer (some ⟨w.heap.size, 0, none⟩), .int .u8 116] w1 fun e w' => e = .returned .nilIface ∧ Bld w' w.heap.size (done ++ [92] ++ [116]) ∧ Kept w.heap.size w1 w' := wbyte_fn hB1 116 (by simp; omega)
                have HC2 := hid hc2
                clear hc2
                go_wp2_with fail
                (with_reducible refine HC2.out.mono ?_); rintro e w2 ⟨rfl, hB2, hk2⟩
                go_wp2
                go_roundg t.length
                case measure => simp
                case rel => exact ⟨j + 1, done ++ [92] ++ [116], t, by go_num, ha.tail, hB2, by rw [HD.out, slash_yes t (.inl HQ.out)]; simp [slash1], hbl.trans (hk1.trans hk2).1, rfl, by simp; omega⟩
              · replace HS := hid (show Calls Tryz.prog 65 #[.int .u8 10] wr _ from HS.out)
                have hk : ∀ h, (⟨#[116, 110, 118, 102, 114]⟩ : ByteArray)[1]'h = 110 := fun _ => rfl
                go_wp2_with fail
                (with_reducible refine HS.out.mono ?_); rintro e w1 ⟨rfl, hw⟩; subst w1
                have hc1 := wb92 wr done hB (by omega)
                have HC1 := hid hc1
                clear hc1
                go_wp2_with fail
                (with_reducible refine HC1.out.mono ?_); rintro e w1 ⟨rfl, hB1, hk1⟩
                have hc2 : Calls Tryz.prog 67 #[.pointer (some ⟨w.heap.size, 0, none⟩), .int .u8 110] w1 fun e w' => e = .returned .nilIface ∧ Bld w' w.heap.size (done ++ [92] ++ [110]) ∧ Kept w.heap.size w1 w' := wbyte_fn hB1 110 (by simp; omega)
                have HC2 := hid hc2
                clear hc2
                go_wp2_with fail
                (with_reducible refine HC2.out.mono ?_); rintro e w2 ⟨rfl, hB2, hk2⟩
                go_wp2
                go_roundg t.length
                case measure => simp
                case rel => exact ⟨j + 1, done ++ [92] ++ [110], t, by go_num, ha.tail, hB2, by rw [HD.out, slash_yes t (.inl HQ.out)]; simp [slash1], hbl.trans (hk1.trans hk2).1, rfl, by simp; omega⟩
              · replace HS := hid (show Calls Tryz.prog 65 #[.int .u8 11] wr _ from HS.out)
                have hk : ∀ h, (⟨#[116, 110, 118, 102, 114]⟩ : ByteArray)[2]'h = 118 := fun _ => rfl
                go_wp2_with fail
                (with_reducible refine HS.out.mono ?_); rintro e w1 ⟨rfl, hw⟩; subst w1
                have hc1 := wb92 wr done hB (by omega)
                have HC1 := hid hc1
                clear hc1
                go_wp2_with fail
                (with_reducible refine HC1.out.mono ?_); rintro e w1 ⟨rfl, hB1, hk1⟩
                have hc2 : Calls Tryz.prog 67 #[.pointer (some ⟨w.heap.size, 0, none⟩), .int .u8 118] w1 fun e w' => e = .returned .nilIface ∧ Bld w' w.heap.size (done ++ [92] ++ [118]) ∧ Kept w.heap.size w1 w' := wbyte_fn hB1 118 (by simp; omega)
                have HC2 := hid hc2
                clear hc2
                go_wp2_with fail
                (with_reducible refine HC2.out.mono ?_); rintro e w2 ⟨rfl, hB2, hk2⟩
                go_wp2
                go_roundg t.length
                case measure => simp
                case rel => exact ⟨j + 1, done ++ [92] ++ [118], t, by go_num, ha.tail, hB2, by rw [HD.out, slash_yes t (.inl HQ.out)]; simp [slash1], hbl.trans (hk1.trans hk2).1, rfl, by simp; omega⟩
              · replace HS := hid (show Calls Tryz.prog 65 #[.int .u8 12] wr _ from HS.out)
                have hk : ∀ h, (⟨#[116, 110, 118, 102, 114]⟩ : ByteArray)[3]'h = 102 := fun _ => rfl
                go_wp2_with fail
                (with_reducible refine HS.out.mono ?_); rintro e w1 ⟨rfl, hw⟩; subst w1
                have hc1 := wb92 wr done hB (by omega)
                have HC1 := hid hc1
                clear hc1
                go_wp2_with fail
                (with_reducible refine HC1.out.mono ?_); rintro e w1 ⟨rfl, hB1, hk1⟩
                have hc2 : Calls Tryz.prog 67 #[.pointer (some ⟨w.heap.size, 0, none⟩), .int .u8 102] w1 fun e w' => e = .returned .nilIface ∧ Bld w' w.heap.size (done ++ [92] ++ [102]) ∧ Kept w.heap.size w1 w' := wbyte_fn hB1 102 (by simp; omega)
                have HC2 := hid hc2
                clear hc2
                go_wp2_with fail
                (with_reducible refine HC2.out.mono ?_); rintro e w2 ⟨rfl, hB2, hk2⟩
                go_wp2
                go_roundg t.length
                case measure => simp
                case rel => exact ⟨j + 1, done ++ [92] ++ [102], t, by go_num, ha.tail, hB2, by rw [HD.out, slash_yes t (.inl HQ.out)]; simp [slash1], hbl.trans (hk1.trans hk2).1, rfl, by simp; omega⟩
              · replace HS := hid (show Calls Tryz.prog 65 #[.int .u8 13] wr _ from HS.out)
                have hk : ∀ h, (⟨#[116, 110, 118, 102, 114]⟩ : ByteArray)[4]'h = 114 := fun _ => rfl
                go_wp2_with fail
                (with_reducible refine HS.out.mono ?_); rintro e w1 ⟨rfl, hw⟩; subst w1
                have hc1 := wb92 wr done hB (by omega)
                have HC1 := hid hc1
                clear hc1
                go_wp2_with fail
                (with_reducible refine HC1.out.mono ?_); rintro e w1 ⟨rfl, hB1, hk1⟩
                have hc2 : Calls Tryz.prog 67 #[.pointer (some ⟨w.heap.size, 0, none⟩), .int .u8 114] w1 fun e w' => e = .returned .nilIface ∧ Bld w' w.heap.size (done ++ [92] ++ [114]) ∧ Kept w.heap.size w1 w' := wbyte_fn hB1 114 (by simp; omega)
                have HC2 := hid hc2
                clear hc2
                go_wp2_with fail
                (with_reducible refine HC2.out.mono ?_); rintro e w2 ⟨rfl, hB2, hk2⟩
                go_wp2
                go_roundg t.length
                case measure => simp
                case rel => exact ⟨j + 1, done ++ [92] ++ [114], t, by go_num, ha.tail, hB2, by rw [HD.out, slash_yes t (.inl HQ.out)]; simp [slash1], hbl.trans (hk1.trans hk2).1, rfl, by simp; omega⟩
              · have hr : slash1 c = c := slash1_same h14
                have h9 : (9 : Int) ≤ (c.toNat : Int) := by omega
                have h13 : ¬ ((c.toNat : Int) ≤ 13) := by omega
                go_wp2_with fail
                (with_reducible refine HS.out.mono ?_); rintro e w1 ⟨rfl, hw⟩; subst w1
                have hc1 := wb92 wr done hB (by omega)
                have HC1 := hid hc1
                clear hc1
                go_wp2_with fail
                (with_reducible refine HC1.out.mono ?_); rintro e w1 ⟨rfl, hB1, hk1⟩
                have hc2 : Calls Tryz.prog 67 #[.pointer (some ⟨w.heap.size, 0, none⟩), .int .u8 c.toNat] w1 fun e w' => e = .returned .nilIface ∧ Bld w' w.heap.size (done ++ [92] ++ [c]) ∧ Kept w.heap.size w1 w' := wbyte_fn hB1 c (by simp; omega)
                have HC2 := hid hc2
                clear hc2
                go_wp2_with fail
                (with_reducible refine HC2.out.mono ?_); rintro e w2 ⟨rfl, hB2, hk2⟩
                go_wp2
                go_roundg t.length
                case measure => simp
                case rel => exact ⟨j + 1, done ++ [92] ++ [c], t, by go_num, ha.tail, hB2, by rw [HD.out, slash_yes t (.inl HQ.out)]; simp [hr], hbl.trans (hk1.trans hk2).1, rfl, by simp; omega⟩
            | false =>
              by_cases h0 : j = 0
              · subst h0
                by_cases h35 : c = 35
                · subst h35
                  replace HS := hid (show Calls Tryz.prog 65 #[.int .u8 35] wr _ from HS.out)
                  go_wp2_with fail
                  (with_reducible refine HS.out.mono ?_); rintro e w1 ⟨rfl, hw⟩; subst w1
                  have hc1 := wb92 wr done hB (by omega)
                  have HC1 := hid hc1
                  clear hc1
                  go_wp2_with fail
                  (with_reducible refine HC1.out.mono ?_); rintro e w1 ⟨rfl, hB1, hk1⟩
                  have hc2 : Calls Tryz.prog 67 #[.pointer (some ⟨w.heap.size, 0, none⟩), .int .u8 35] w1 fun e w' => e = .returned .nilIface ∧ Bld w' w.heap.size (done ++ [92] ++ [35]) ∧ Kept w.heap.size w1 w' := wbyte_fn hB1 35 (by simp; omega)
                  have HC2 := hid hc2
                  clear hc2
                  go_wp2_with fail
                  (with_reducible refine HC2.out.mono ?_); rintro e w2 ⟨rfl, hB2, hk2⟩
                  go_wp2
                  go_roundg t.length
                  case measure => simp
                  case rel => exact ⟨0 + 1, done ++ [92] ++ [35], t, by go_num, ha.tail, hB2, by rw [HD.out, slash_yes (b := ((0 : Nat) == 0)) t (.inr ⟨rfl, rfl⟩)]; simp [slash1], hbl.trans (hk1.trans hk2).1, rfl, by simp; omega⟩
                · have n35 := byte_ne 35 h35 rfl
                  go_wp2_with fail
                  (with_reducible refine HS.out.mono ?_); rintro e w1 ⟨rfl, hw⟩; subst w1
                  have hc2 := hid (wbyte_fn hB c (by omega))
                  go_wp2_with fail
                  (with_reducible refine hc2.out.mono ?_); rintro e w2 ⟨rfl, hB2, hk2⟩
                  go_wp2
                  go_roundg t.length
                  case measure => simp
                  case rel => exact ⟨0 + 1, done ++ [c], t, by go_num, ha.tail, hB2, by rw [HD.out, slash_no t HQ.out (fun _ => h35)]; simp, hbl.trans hk2.1, rfl, by simp; omega⟩
              · have hj0 : ((j : Int) == 0) = false := by rw [beq_eq_false_iff_ne]; omega
                go_wp2_with fail
                (with_reducible refine HS.out.mono ?_); rintro e w1 ⟨rfl, hw⟩; subst w1
                have hc2 := hid (wbyte_fn hB c (by omega))
                go_wp2_with fail
                (with_reducible refine hc2.out.mono ?_); rintro e w2 ⟨rfl, hB2, hk2⟩
                go_wp2
                go_roundg t.length
                case measure => simp
                case rel => exact ⟨j + 1, done ++ [c], t, by go_num, ha.tail, hB2, by rw [HD.out, slash_no t HQ.out (fun h => absurd (by simpa using h) h0)]; simp, hbl.trans hk2.1, rfl, by simp; omega⟩
      | true =>
        have hsp := special_fn c w
        have hq := HB2.out
        rw [List.all_cons, Bool.true_and] at hq
        obtain ⟨S, hS⟩ : ∃ S, S = special c := ⟨_, rfl⟩
        rw [← hS] at hsp hq
        have HS := hid hsp
        have HQ := hid hq
        clear hS hsp hq HB2
        go_wp2_with fail
        (with_reducible refine HS.out.mono ?_); rintro e w1 ⟨rfl, hw⟩; subst w1
        go_wp2
        go_roundg t.length
        case measure => simp
        case rel => exact ⟨i + 1, !S, t, rfl, by go_num, ha.tail, HQ.out, rfl, rfl⟩
theorem quote_fn (s : Str) (hs : s.length ≤ 1000000) (w : World) (hm : ML w) :
    Calls Tryz.prog 28 #[.string ⟨s.toArray⟩] w fun e w' => e = .returned (.string ⟨(quote s).toArray⟩) ∧ Below w.heap.size w w' := by
  cases s with
  | nil =>
    go_enter Tryz.func28, Tryz.ntmps28
    go_wp2
    go_ret
    exact ⟨rfl, Below.refl _ _⟩
  | cons c0 t0 =>
    unfold quote
    rw [if_neg (by simp)]
    by_cases h1 : plainW (c0 :: t0) = true
    · rw [if_pos h1]
      exact quote_plain_fn c0 t0 hs h1 w hm
    · rw [if_neg h1]
      by_cases h2 : balanced (c0 :: t0) = true
      · rw [if_pos h2]
        exact quote_brace_fn c0 t0 hs (by simpa using h1) h2 w hm
      · rw [if_neg h2]
        exact quote_slash_fn c0 t0 hs (by simpa using h1) (by simpa using h2) w hm
end Go.Proofs.YtheiageokcgbhaaGreatDoor.Pz
/-
  list.Join: what it answers, where no limit is met. strings.Join, parse.Quoted. Condition: the library's variable internal/bytealg.MaxLen holds some int.
-/
namespace Go.Proofs.YtheiageokcgbhaaGreatDoor.Pz
open Go.RowKit
theorem add_block (p : Addr) (i : Nat) : (p.add i).block = p.block := by
  unfold Addr.add
  split <;> rfl
/-- a slice of texts in memory -/
def StrsAt (w : World) (v : Value) (l : List Str) : Prop := ∃ a cap, v = .slice a l.length cap ∧ l.length ≤ cap ∧ ∀ i (h : i < l.length), ∃ p : Addr, a = some p ∧ p.block < w.heap.size ∧ w.cell? (p.add i) = some (.string ⟨l[i].toArray⟩)
theorem StrsAt.below {w w' : World} {v : Value} {l : List Str} (h : StrsAt w v l) (hb : Below w.heap.size w w') : StrsAt w' v l := by
  obtain ⟨a, cap, rfl, hc, h⟩ := h
  refine ⟨a, cap, rfl, hc, fun i hi => ?_⟩
  obtain ⟨p, h1, h2, h3⟩ := h i hi
  have := hb.size
  exact ⟨p, h1, by omega, by rw [hb.cell (p := p.add i) (by rw [add_block]; exact h2)]; exact h3⟩
theorem quotedL_snoc : ∀ (l : List Str) (s : Str), quotedL (l ++ [s]) = if l.isEmpty then quote s else quotedL l ++ 32 :: quote s
  | [], _ => rfl
  | [_], _ => rfl
  | a :: b :: l, s => by
    have ih := quotedL_snoc (b :: l) s
    rw [if_neg (by simp)] at ih ⊢
    rw [show a :: b :: l ++ [s] = a :: b :: (l ++ [s]) from rfl, quotedL_two, quotedL_two, show b :: (l ++ [s]) = b :: l ++ [s] from rfl, ih]
    simp
theorem quotedL_take (l : List Str) (i : Nat) (h : i < l.length) : quotedL (l.take (i + 1)) = if i = 0 then quote l[i] else quotedL (l.take i) ++ 32 :: quote l[i] := by
  rw [List.take_succ_eq_append_getElem h, quotedL_snoc]
  by_cases h0 : i = 0
  · subst h0; rfl
  · rw [if_neg h0, if_neg]
    rw [List.isEmpty_iff, List.take_eq_nil_iff]
    rintro (h1 | h1)
    · exact h0 h1
    · rw [h1] at h; simp at h
theorem quotedL_take_le (l : List Str) : ∀ (j i : Nat), i + j = l.length → (quotedL (l.take i)).length ≤ (quotedL l).length
  | 0, i, h => by rw [List.take_of_length_le (by omega)]; exact Nat.le_refl _
  | j + 1, i, h => by
    have ih := quotedL_take_le l j (i + 1) (by omega)
    rw [quotedL_take l i (by omega)] at ih
    split at ih
    · rename_i h0
      subst h0
      exact Nat.zero_le _
    · simp only [List.length_append, List.length_cons] at ih
      omega
set_option maxRecDepth 100000 in
set_option maxHeartbeats 2000000 in
theorem join_fn (l : List Str) (v : Value) (w : World) (hm : ML w) (hv : StrsAt w v l) (h1 : l.length ≤ 10000) (h2 : ∀ s ∈ l, s.length ≤ 65536) (h3 : (quotedL l).length ≤ 65536) :
    Calls Tryz.prog 30 #[v] w fun e w' => e = .returned (.tuple #[.string ⟨(quotedL l).toArray⟩, .int .i64 0]) ∧ Below w.heap.size w w' := by
  obtain ⟨a, cap, rfl, hcap, hcell⟩ := hv
  obtain ⟨n, hn⟩ : ∃ n, n = l.length := ⟨_, rfl⟩
  have hlen : ¬ ((n : Int) > 10000) := by omega
  have HV := hid hcell
  have HT := hid (quotedL_take l)
  have HL := hid (quotedL_take_le l)
  have H2 := hid h2
  have H3 := hid h3
  have HM := hid hm
  have hB0 := Bld.new w
  have hW0 : Below w.heap.size w (w.alloc (.cells #[.pointer none, .slice none 0 0] 75)) := (Below.refl _ _).alloc (Nat.le_refl _) _
  have HN := hid hn
  rw [← hn] at hcap ⊢
  clear hcell h2 h3 hm h1 hn
  go_enter Tryz.func30, Tryz.ntmps30
  go_wp2_with fail
  generalize w.alloc (.cells #[.pointer none, .slice none 0 0] 75) = w0 at *
  go_loopg [12] n (fun k iv wr => ∃ (i : Nat), iv = .int .i64 (i : Nat) ∧ i ≤ n ∧ Bld wr w.heap.size (quotedL (l.take i)) ∧ Below w.heap.size w wr ∧ k = n - i)
  case atStart => exact ⟨0, rfl, Nat.zero_le _, hB0, hW0, by simp⟩
  case round =>
    obtain ⟨i, rfl, hi, hB, hbl, rfl⟩ := hrel
    clear hB0 hW0 w0
    have hbs := hB.lt
    rcases Nat.lt_or_ge i n with hlt | hge
    · have hlt' : i < l.length := by rw [← HN.out]; exact hlt
      obtain ⟨p, rfl, hbb, hcw⟩ := HV.out i hlt'
      have hcw1 : wr.cell? (p.add i) = some (.string ⟨l[i].toArray⟩) := by rw [hbl.cell (p := p.add i) (by rw [add_block]; exact hbb)]; exact hcw
      have hs := H2.out l[i] (List.getElem_mem hlt')
      have ht := HT.out i hlt'
      have hle := HL.out (n - (i + 1)) (i + 1) (by rw [← HN.out]; omega)
      have hl3 := H3.out
      have hqm : ML wr := HM.out.below hbl
      generalize l[i] = s at hcw hcw1 hs ht
      have hsz : (⟨s.toArray⟩ : ByteArray).size = s.length := Lib.size_mk _
      have hs2 : ¬ ((s.length : Int) > 65536) := by omega
      have hq := fun u hu => quote_fn s (by omega) u hu
      obtain ⟨Q, hQ⟩ : ∃ Q, Q = quotedL (l.take (i + 1)) := ⟨_, rfl⟩
      obtain ⟨Q0, hQ0⟩ : ∃ Q, Q = quotedL (l.take i) := ⟨_, rfl⟩
      rw [← hQ, ← hQ0] at ht
      rw [← hQ] at hle
      rw [← hQ0] at hB
      have HQ := hid hQ
      have HQ0 := hid hQ0
      have HT2 := hid ht
      have HC := hid hq
      clear hQ hQ0 ht hq hcw
      have hQle : Q.length ≤ 65536 := by omega
      clear hle hl3
      by_cases h0 : i = 0
      · subst h0
        replace hcw1 : wr.cell? p = some (.string ⟨s.toArray⟩) := hcw1
        have ht := hid (HT2.out.trans (if_pos rfl))
        have hz : Q0 = [] := HQ0.out
        subst hz
        go_wp2_with fail
        (with_reducible refine (HC.out _ hqm).mono ?_); rintro e w1 ⟨rfl, hb1⟩
        have hB1 := hB.below hb1
        have hbl1 := hbl.trans (hb1.mono (by omega))
        have hc2 := hid (wstr_fn hB1 (quote s) (by rw [ht.out] at hQle; simp at hQle ⊢; omega))
        go_wp2_with fail
        (with_reducible refine hc2.out.mono ?_); rintro e w2 ⟨rfl, hB2, hk2⟩
        rw [show ([] : Str) ++ quote s = Q by rw [ht.out]; simp] at hB2
        have hc3 := hid (len_fn hB2)
        go_wp2_with fail
        (with_reducible refine hc3.out.mono ?_); rintro e w3 ⟨rfl, hw⟩; subst w3
        have hQ65 : ¬ ((Q.length : Int) > 65536) := by omega
        go_wp2
        go_roundg (n - (0 + 1))
        case measure => omega
        case rel => exact ⟨0 + 1, by go_num, by omega, by rw [← HQ.out]; exact hB2, hbl1.trans hk2.1, rfl⟩
      · have ht := hid (HT2.out.trans (if_neg h0))
        have hi0 : (0 : Int) < (i : Int) := by omega
        have hQ0le : Q0.length ≤ 65536 := by rw [HT2.out, if_neg h0] at hQle; simp at hQle; omega
        have hc1 : Calls Tryz.prog 67 #[.pointer (some ⟨w.heap.size, 0, none⟩), .int .u8 32] wr fun e w' => e = .returned .nilIface ∧ Bld w' w.heap.size (Q0 ++ [32]) ∧ Kept w.heap.size wr w' := wbyte_fn hB 32 (by omega)
        have HC1 := hid hc1
        clear hc1
        go_wp2_with fail
        (with_reducible refine HC1.out.mono ?_); rintro e wx ⟨rfl, hBx, hkx⟩
        have hblx := hbl.trans hkx.1
        replace hqm : ML wx := HM.out.below hblx
        have hbsx := hBx.lt
        clear hB hbl hbs hkx
        go_wp2_with fail
        (with_reducible refine (HC.out _ hqm).mono ?_); rintro e w1 ⟨rfl, hb1⟩
        have hB1 := hBx.below hb1
        have hbl1 := hblx.trans (hb1.mono (by omega))
        have hc2 := hid (wstr_fn hB1 (quote s) (by rw [ht.out] at hQle; simp at hQle ⊢; omega))
        go_wp2_with fail
        (with_reducible refine hc2.out.mono ?_); rintro e w2 ⟨rfl, hB2, hk2⟩
        rw [show (Q0 ++ [32]) ++ quote s = Q by rw [ht.out]; simp] at hB2
        have hc3 := hid (len_fn hB2)
        go_wp2_with fail
        (with_reducible refine hc3.out.mono ?_); rintro e w3 ⟨rfl, hw⟩; subst w3
        have hQ65 : ¬ ((Q.length : Int) > 65536) := by omega
        go_wp2
        go_roundg (n - (i + 1))
        case measure => omega
        case rel => exact ⟨i + 1, by go_num, by omega, by rw [← HQ.out]; exact hB2, hbl1.trans hk2.1, rfl⟩
    · obtain rfl : i = n := by omega
      have hc := hid (str_fn hB)
      have hR : quotedL (l.take i) = quotedL l := by rw [List.take_of_length_le (by rw [← HN.out]; exact Nat.le_refl _)]
      have HR := hid hR
      clear hR
      go_wp2_with fail
      (with_reducible refine hc.out.mono ?_); rintro e w1 ⟨rfl, hB1, hk1⟩
      go_wp2
      go_ret2
      rw [HR.out]
      exact ⟨rfl, hbl.trans hk1.1⟩
end Go.Proofs.YtheiageokcgbhaaGreatDoor.Pz
/-
  What was read, in memory: rows of tokens, of words, of commands.
-/
namespace Go.Proofs.YtheiageokcgbhaaGreatDoor.Pz
open Go Go.RowKit
/-- below block number B all blocks but one stand as they stood -/
structure But (rb B : Nat) (w w' : World) : Prop where
  os : w'.os = w.os
  tape : w'.tape = w.tape
  output : w'.output = w.output
  size : w.heap.size ≤ w'.heap.size
  block : ∀ k, k < B → k ≠ rb → w'.heap[k]? = w.heap[k]?
theorem But.refl (rb B : Nat) (w : World) : But rb B w w := ⟨rfl, rfl, rfl, Nat.le_refl _, fun _ _ _ => rfl⟩
theorem But.trans {rb B : Nat} {a b c : World} (h : But rb B a b) (k : But rb B b c) : But rb B a c :=
  ⟨k.os.trans h.os, k.tape.trans h.tape, k.output.trans h.output, Nat.le_trans h.size k.size, fun i hi hr => (k.block i hi hr).trans (h.block i hi hr)⟩
theorem But.mono {rb B B' : Nat} {w w' : World} (h : But rb B w w') (hB : B' ≤ B) : But rb B' w w' := ⟨h.os, h.tape, h.output, h.size, fun k hk => h.block k (Nat.lt_of_lt_of_le hk hB)⟩
theorem but_of_below {B : Nat} {w w' : World} (h : Below B w w') (rb : Nat) : But rb B w w' := ⟨h.os, h.tape, h.output, h.size, fun k hk _ => h.block k hk⟩
/-- where the one block is new, all old ones stand -/
theorem But.below {rb B : Nat} {w w' : World} (h : But rb B w w') (hr : B ≤ rb) : Below B w w' := ⟨h.os, h.tape, h.output, h.size, fun k hk => h.block k hk (by omega)⟩
theorem But.drew {rb B : Nat} {a w : World} (h : But rb B a w) : But rb B a w.drew := ⟨h.os, h.tape, h.output, h.size, h.block⟩
theorem But.alloc {rb B : Nat} {a w : World} (h : But rb B a w) (hB : B ≤ w.heap.size) (o : Obj) : But rb B a (w.alloc o) :=
  h.trans ⟨rfl, rfl, rfl, by simp, fun k hk _ => Below.heap_alloc _ _ _ (by omega)⟩
theorem But.setCell {rb B : Nat} {a w : World} (h : But rb B a w) {p : Addr} (hp : p.block = rb ∨ B ≤ p.block) (u : Value) : But rb B a (w.setCell p u) :=
  h.trans ⟨rfl, rfl, rfl, by simp [World.setCell], fun k hk hr => Below.heap_setCell _ _ _ _ (by omega)⟩
theorem But.grown {rb B : Nat} {a w w' : World} {row : Option Nat} (h : But rb B a w) (hg : w.grownBy w' row) (hB : B ≤ w.heap.size) (hr : ∀ k, row = some k → B ≤ k) : But rb B a w' :=
  h.trans ⟨hg.os, hg.tape, hg.output, hg.size, fun k hk _ => hg.block k (by omega) (fun e => by have := hr k e.symm; omega)⟩
theorem But.cell {rb B : Nat} {w w' : World} (h : But rb B w w') {p : Addr} (hp : p.block < B) (hr : p.block ≠ rb) : w'.cell? p = w.cell? p := World.cell?_of_block (w := w) (h.block p.block hp hr)
/-- a row stands where its block stands -/
theorem ownsRow_heap {w w' : World} {base : Nat} {e : TypeId} {size : Nat} {v : Value} {n : Nat} {xs : List Value} (h : w.ownsRow base e size v n xs) (hh : ∀ g, v.ownBlock = some g → w'.heap[g]? = w.heap[g]?) : w'.ownsRow base e size v n xs := by
  refine ⟨h.1, ?_⟩
  rcases h.2 with hn | ⟨g, cap, cur, rfl, hb, hgg, rest⟩
  · exact .inl hn
  · exact .inr ⟨g, cap, cur, rfl, hb, (hh g rfl).trans hgg, rest⟩
/-- a slice of elements of several cells: its block is one of those that are allowed -/
def RowIs {α : Type} (E : TypeId) (sz : Nat) (elt : List Value → α → Prop) (w : World) (ok : Nat → Prop) (v : Value) (xs : List α) : Prop :=
  ∃ css : List (List Value), w.ownsRow 0 E sz v xs.length css.flatten ∧ (∀ g, v.ownBlock = some g → ok g) ∧ css.length = xs.length ∧ ∀ i (h1 : i < css.length) (h2 : i < xs.length), elt css[i] xs[i] ∧ css[i].length = sz
/-- the cells of a token, and all that lies below it -/
inductive TokIs (TE : TypeId) (w : World) (ok : Nat → Prop) : List Value → Tok → Prop
  | mk (k : Nat) (s : Str) (h : Bool) (ix : List Tok) (v : Value) (css : List (List Value)) (hrow : w.ownsRow 0 TE 4 v ix.length css.flatten) (hok : ∀ g, v.ownBlock = some g → ok g)
      (hl : css.length = ix.length) (hs : ∀ i (h1 : i < css.length) (h2 : i < ix.length), TokIs TE w ok css[i] ix[i]) :
      TokIs TE w ok [.int .i64 (k : Int), .string ⟨s.toArray⟩, .bool h, v] (.mk k s h ix)
theorem TokIs.keep {TE : TypeId} {w w' : World} {ok ok' : Nat → Prop} {cs : List Value} {t : Tok} (h : TokIs TE w ok cs t) (hk : ∀ g, ok g → ok' g) (hh : ∀ g, ok g → w'.heap[g]? = w.heap[g]?) : TokIs TE w' ok' cs t := by
  induction h with
  | mk k s h ix v css hrow hok hl hs ih => exact .mk k s h ix v css (ownsRow_heap hrow fun g hg => hh g (hok g hg)) (fun g hg => hk g (hok g hg)) hl ih
theorem TokIs.len {TE : TypeId} {w : World} {ok : Nat → Prop} {cs : List Value} {t : Tok} (h : TokIs TE w ok cs t) : cs.length = 4 := by
  cases h; rfl
def ToksIs (TE : TypeId) (w : World) (ok : Nat → Prop) (v : Value) (ts : List Tok) : Prop := RowIs TE 4 (TokIs TE w ok) w ok v ts
theorem TokIs.of {TE : TypeId} {w : World} {ok : Nat → Prop} {v : Value} {ix : List Tok} (h : ToksIs TE w ok v ix) (k : Nat) (s : Str) (b : Bool) : TokIs TE w ok [.int .i64 (k : Int), .string ⟨s.toArray⟩, .bool b, v] (.mk k s b ix) := by
  obtain ⟨css, h1, h2, h3, h4⟩ := h
  exact .mk k s b ix v css h1 h2 h3 fun i a b => (h4 i a b).1
theorem RowIs.keep {α : Type} {E : TypeId} {sz : Nat} {elt elt' : List Value → α → Prop} {w w' : World} {ok ok' : Nat → Prop} {v : Value} {xs : List α} (h : RowIs E sz elt w ok v xs) (hk : ∀ g, ok g → ok' g) (hh : ∀ g, ok g → w'.heap[g]? = w.heap[g]?)
    (he : ∀ cs x, elt cs x → elt' cs x) : RowIs E sz elt' w' ok' v xs := by
  obtain ⟨css, h1, h2, h3, h4⟩ := h
  exact ⟨css, ownsRow_heap h1 fun g hg => hh g (h2 g hg), fun g hg => hk g (h2 g hg), h3, fun i a b => ⟨he _ _ (h4 i a b).1, (h4 i a b).2⟩⟩
theorem RowIs.nil {α : Type} {E : TypeId} {sz : Nat} {elt : List Value → α → Prop} {w : World} {ok : Nat → Prop} : RowIs E sz elt w ok (.slice none 0 0) [] := by
  refine ⟨[], World.ownsRow_nil _ _ _ _, ?_, rfl, ?_⟩
  · intro g hg
    simp [Value.ownBlock] at hg
  · intro i h1
    simp at h1
/-- behind an append of one element -/
theorem RowIs.snoc {α : Type} {E : TypeId} {sz : Nat} {elt : List Value → α → Prop} {w' : World} {ok : Nat → Prop} {v' : Value} {xs : List α} {x : α} {css : List (List Value)} {cs : List Value}
    (hrow : w'.ownsRow 0 E sz v' (xs.length + 1) (css.flatten ++ cs)) (hok : ∀ g, v'.ownBlock = some g → ok g) (hl : css.length = xs.length)
    (hold : ∀ i (h1 : i < css.length) (h2 : i < xs.length), elt css[i] xs[i] ∧ css[i].length = sz) (hx : elt cs x) (hc : cs.length = sz) : RowIs E sz elt w' ok v' (xs ++ [x]) := by
  refine ⟨css ++ [cs], by simpa using hrow, hok, by simp [hl], fun i h1 h2 => ?_⟩
  rcases Nat.lt_or_ge i css.length with hi | hi
  · rw [List.getElem_append_left hi, List.getElem_append_left (by omega)]
    exact hold i hi (by omega)
  · have : i = css.length := by simp at h1; omega
    subst this
    simp only [List.getElem_concat_length]
    have e2 : (xs ++ [x])[css.length]'h2 = x := by
      rw [List.getElem_append_right (by omega)]
      simp [hl]
    rw [e2]
    exact ⟨hx, hc⟩
theorem RowIs.app {α : Type} {E : TypeId} {sz : Nat} {elt : List Value → α → Prop} {w' : World} {ok : Nat → Prop} {v' : Value} {xs ys : List α} {css ds : List (List Value)}
    (hrow : w'.ownsRow 0 E sz v' (xs.length + ys.length) (css.flatten ++ ds.flatten)) (hok : ∀ g, v'.ownBlock = some g → ok g) (hl : css.length = xs.length) (hl2 : ds.length = ys.length)
    (h1 : ∀ i (h1 : i < css.length) (h2 : i < xs.length), elt css[i] xs[i] ∧ css[i].length = sz) (h2 : ∀ i (h1 : i < ds.length) (h2 : i < ys.length), elt ds[i] ys[i] ∧ ds[i].length = sz) : RowIs E sz elt w' ok v' (xs ++ ys) := by
  refine ⟨css ++ ds, by simpa using hrow, hok, by simp [hl, hl2], fun i a b => ?_⟩
  rcases Nat.lt_or_ge i css.length with hi | hi
  · rw [List.getElem_append_left hi, List.getElem_append_left (by omega)]
    exact h1 i hi (by omega)
  · rw [List.getElem_append_right hi]
    have e2 : (xs ++ ys)[i]'b = ys[i - css.length]'(by simp at b; omega) := by
      rw [List.getElem_append_right (by omega)]
      simp [hl]
    rw [e2]
    exact h2 _ _ _
/-- the cells of element i in the flat row -/
theorem flat_get {css : List (List Value)} {sz : Nat} (hs : ∀ i (h : i < css.length), css[i].length = sz) : ∀ (i j : Nat) (h : i < css.length), j < sz → css.flatten[i * sz + j]? = css[i][j]? := by
  induction css with
  | nil => intro i j h; simp at h
  | cons c cs ih =>
    intro i j h hj
    have hc : c.length = sz := hs 0 (by simp)
    rw [List.flatten_cons]
    cases i with
    | zero =>
      rw [List.getElem?_append_left (by omega)]
      simp
    | succ i =>
      rw [List.getElem?_append_right (by rw [hc, Nat.succ_mul]; omega), hc, show (i + 1) * sz + j - sz = i * sz + j by rw [Nat.succ_mul]; omega]
      rw [ih (fun k hk => by have := hs (k + 1) (by simp; omega); simpa using this) i j (by simpa using h) hj]
      simp
/-- a cell of a row -/
theorem RowIs.cell {α : Type} {E : TypeId} {sz : Nat} {elt : List Value → α → Prop} {w : World} {ok : Nat → Prop} {v : Value} {xs : List α} (h : RowIs E sz elt w ok v xs) :
    ∃ a cap, v = .slice a xs.length cap ∧ xs.length ≤ cap ∧ ∀ i (hi : i < xs.length), ∃ g cs, a = some ⟨g, 0, none⟩ ∧ elt cs xs[i] ∧ cs.length = sz ∧ g < w.heap.size ∧ ∀ j u, cs[j]? = some u → w.cell? ⟨g, i * sz + j, none⟩ = some u := by
  obtain ⟨css, h1, h2, h3, h4⟩ := h
  obtain ⟨hl, ⟨rfl, h0⟩ | ⟨g, cap, cur, rfl, hb, hh, hc, hm, hs, ht⟩⟩ := h1
  · obtain rfl : xs = [] := List.length_eq_zero_iff.1 h0
    exact ⟨none, 0, rfl, Nat.le_refl _, fun i hi => absurd hi (by simp)⟩
  · refine ⟨some ⟨g, 0, none⟩, cap, rfl, hc, fun i hi => ?_⟩
    obtain ⟨q1, q2⟩ := h4 i (by omega) hi
    refine ⟨g, css[i]'(by omega), rfl, q1, q2, (Array.getElem?_eq_some_iff.1 hh).1, fun j u hu => ?_⟩
    have hj : j < sz := by
      rcases Nat.lt_or_ge j sz with h' | h'
      · exact h'
      · rw [List.getElem?_eq_none (by omega)] at hu; cases hu
    have hf := flat_get (css := css) (sz := sz) (fun i h => (h4 i h (by omega)).2) i j (by omega) hj
    rw [hu, ← ht, List.getElem?_take] at hf
    split at hf
    · rw [cell_of_row w g (i * sz + j) cur E (0, 0) hh]
      simpa using hf
    · cases hf
theorem ToksIs.keep {TE : TypeId} {w w' : World} {ok ok' : Nat → Prop} {v : Value} {ts : List Tok} (h : ToksIs TE w ok v ts) (hk : ∀ g, ok g → ok' g) (hh : ∀ g, ok g → w'.heap[g]? = w.heap[g]?) : ToksIs TE w' ok' v ts :=
  RowIs.keep h hk hh fun _ _ he => he.keep hk hh
/-- the cells of a word -/
def WdIs (TE : TypeId) (w : World) (ok : Nat → Prop) (cs : List Value) (x : Wd) : Prop := ∃ v, cs = [.bool x.spread, v] ∧ ToksIs TE w ok v x.toks
theorem WdIs.keep {TE : TypeId} {w w' : World} {ok ok' : Nat → Prop} {cs : List Value} {x : Wd} (h : WdIs TE w ok cs x) (hk : ∀ g, ok g → ok' g) (hh : ∀ g, ok g → w'.heap[g]? = w.heap[g]?) : WdIs TE w' ok' cs x := by
  obtain ⟨v, rfl, h⟩ := h
  exact ⟨v, rfl, h.keep hk hh⟩
def WdsIs (TE WE : TypeId) (w : World) (ok : Nat → Prop) (v : Value) (ws : List Wd) : Prop := RowIs WE 2 (WdIs TE w ok) w ok v ws
theorem WdsIs.keep {TE WE : TypeId} {w w' : World} {ok ok' : Nat → Prop} {v : Value} {ws : List Wd} (h : WdsIs TE WE w ok v ws) (hk : ∀ g, ok g → ok' g) (hh : ∀ g, ok g → w'.heap[g]? = w.heap[g]?) : WdsIs TE WE w' ok' v ws :=
  RowIs.keep h hk hh fun _ _ he => he.keep hk hh
/-- the cells of a command of a text of n bytes -/
def CmdIs (TE WE : TypeId) (n : Nat) (w : World) (ok : Nat → Prop) (cs : List Value) (c : Cmd) : Prop := ∃ v, cs = [.int .i64 ((n : Int) - (c.back : Int)), v] ∧ WdsIs TE WE w ok v c.words
theorem CmdIs.keep {TE WE : TypeId} {n : Nat} {w w' : World} {ok ok' : Nat → Prop} {cs : List Value} {c : Cmd} (h : CmdIs TE WE n w ok cs c) (hk : ∀ g, ok g → ok' g) (hh : ∀ g, ok g → w'.heap[g]? = w.heap[g]?) : CmdIs TE WE n w' ok' cs c := by
  obtain ⟨v, rfl, h⟩ := h
  exact ⟨v, rfl, h.keep hk hh⟩
def CmdsIs (TE WE CE : TypeId) (n : Nat) (w : World) (ok : Nat → Prop) (v : Value) (cs : List Cmd) : Prop := RowIs CE 2 (CmdIs TE WE n w ok) w ok v cs
theorem CmdsIs.keep {TE WE CE : TypeId} {n : Nat} {w w' : World} {ok ok' : Nat → Prop} {v : Value} {cs : List Cmd} (h : CmdsIs TE WE CE n w ok v cs) (hk : ∀ g, ok g → ok' g) (hh : ∀ g, ok g → w'.heap[g]? = w.heap[g]?) : CmdsIs TE WE CE n w' ok' v cs :=
  RowIs.keep h hk hh fun _ _ he => he.keep hk hh
end Go.Proofs.YtheiageokcgbhaaGreatDoor.Pz
/-
  Rows of texts of the call's own, and what is put behind them.
-/
namespace Go.Proofs.YtheiageokcgbhaaGreatDoor.Pz
open Go.RowKit
theorem Tryz.infoS : (Tryz.prog.info? 9).map (fun i => (i.zero, i.size, i.bytes)) = some (some (.string ⟨#[]⟩), 1, 16) := by kernel_rfl
def strCells (l : List Str) : List Value := l.map fun s => .string ⟨s.toArray⟩
theorem add_none (b o i : Nat) : (⟨b, o, none⟩ : Addr).add i = ⟨b, o + i, none⟩ := by
  simp [Addr.add]
theorem ownsRow_base {w : World} {base : Nat} {e : TypeId} {size : Nat} {v : Value} {n : Nat} {xs : List Value} (h : w.ownsRow base e size v n xs) : ∀ g, v.ownBlock = some g → base ≤ g := by
  intro g hg
  rcases h.2 with ⟨rfl, _⟩ | ⟨g', cap, cur, rfl, hb, hgg, rest⟩
  · simp [Value.ownBlock] at hg
  · simp only [Value.ownBlock, Option.some.injEq] at hg
    omega
theorem ownsRow_heap2 {w w' : World} {base : Nat} {e : TypeId} {size : Nat} {v : Value} {n : Nat} {xs : List Value} (h : w.ownsRow base e size v n xs)
    (hh : ∀ g cur, v.ownBlock = some g → w.heap[g]? = some (.cells cur e (0, 0)) → w'.heap[g]? = some (.cells cur e (0, 0))) : w'.ownsRow base e size v n xs := by
  refine ⟨h.1, ?_⟩
  rcases h.2 with hn | ⟨g, cap, cur, rfl, hb, hgg, rest⟩
  · exact .inl hn
  · exact .inr ⟨g, cap, cur, rfl, hb, hh g cur rfl hgg, rest⟩
theorem ownsRow_lt {w : World} {base : Nat} {e : TypeId} {size : Nat} {v : Value} {n : Nat} {xs : List Value} (h : w.ownsRow base e size v n xs) : ∀ g, v.ownBlock = some g → g < w.heap.size ∧ ∃ cur, w.heap[g]? = some (.cells cur e (0, 0)) := by
  intro g hg
  rcases h.2 with ⟨rfl, _⟩ | ⟨g', cap, cur, rfl, hb, hgg, rest⟩
  · simp [Value.ownBlock] at hg
  · simp only [Value.ownBlock, Option.some.injEq] at hg
    subst hg
    exact ⟨(Array.getElem?_eq_some_iff.1 hgg).1, cur, hgg⟩
theorem strCells_app (a b : List Str) : strCells (a ++ b) = strCells a ++ strCells b := by simp [strCells]
theorem strCells_len (a : List Str) : (strCells a).length = a.length := by simp [strCells]
theorem strCells_one (a : List Str) : ∀ u ∈ strCells a, u.oneCell' = true := by
  intro u hu
  obtain ⟨s, _, rfl⟩ := List.mem_map.1 hu
  rfl
/-- a row of texts of the call's own -/
def RowS (B : Nat) (w : World) (v : Value) (l : List Str) : Prop := w.ownsRow B 9 1 v l.length (strCells l)
theorem RowS.nil (B : Nat) (w : World) : RowS B w (.slice none 0 0) [] := World.ownsRow_nil _ _ _ _
theorem RowS.lt {B : Nat} {w : World} {v : Value} {l : List Str} (h : RowS B w v l) : ∀ g, v.ownBlock = some g → g < w.heap.size ∧ B ≤ g := fun g hg => ⟨(ownsRow_lt h g hg).1, ownsRow_base h g hg⟩
theorem RowS.below {B C : Nat} {w w' : World} {v : Value} {l : List Str} (h : RowS B w v l) (hb : Below C w w') (hC : ∀ g, v.ownBlock = some g → g < C) : RowS B w' v l := ownsRow_heap h fun g hg => hb.block g (hC g hg)
theorem RowS.on {B : Nat} {w w' : World} {v : Value} {l : List Str} (h : RowS B w v l) (hb : Below w.heap.size w w') : RowS B w' v l := h.below hb fun g hg => (h.lt g hg).1
/-- the blocks that another row of the call's own leaves -/
theorem RowS.grown {C : Nat} {w w' : World} {v u : Value} {l : List Str} (h : RowS C w u l) (hg : w.grownBy w' v.ownBlock) (hv : ∀ g, v.ownBlock = some g → u.ownBlock ≠ some g) : RowS C w' u l := by
  refine ownsRow_heap h fun g hgu => hg.block g (h.lt g hgu).1 fun e => hv g e.symm hgu
theorem app_one {w : World} {N : Nat} (hN : w.heap.size = N) {ops : Array Oper} {rest : List Oper} {o : Oper} {a : Act} {Q : Exit → Act → World → Prop} (hgd : o.guard = none) (s x : Operand)
    (ho : o.op = .call { callee := .builtin .append, args := #[s, x], argTypes := #[24, 24] }) (B : Nat) (v : Value) (l : List Str) (q : Str)
    (hs : a.eval s = v) (hown : RowS B w v l) (hx : a.eval x = .slice (some ⟨N, 0, none⟩) 1 1) (hB : B ≤ w.heap.size) (hl : l.length ≤ 10000000)
    (h : ∀ v' w', RowS B w' v' (l ++ [q]) → w.grownBy w' v.ownBlock → (∀ g, v'.ownBlock = some g → v.ownBlock = some g ∨ w.heap.size ≤ g) → wpList Tryz.prog ops Q rest (a.put o.dst v') w') :
    wpList Tryz.prog ops Q (o :: rest) a (w.alloc (.cells #[.string ⟨q.toArray⟩] 9)) := by
  obtain ⟨i0, hi, hz0, hz1, hz2⟩ := info_parts Tryz.infoS
  subst hN
  have hown' : (w.alloc (.cells #[.string ⟨q.toArray⟩] 9)).ownsRow B 9 1 v l.length (strCells l) := World.ownsRow.alloc hown _
  refine wpList_append_own_at _ hgd s x 24 ho B 9 i0 (.string ⟨#[]⟩) 1 16 Tryz.underlying24 hi hz0 hz1 hz2 rfl (by decide) v l.length (strCells l) hs hown' ⟨w.heap.size, 0, none⟩ 1 1 [.string ⟨q.toArray⟩] hx rfl (cell_one_new _ _ _) (strCells_one [q]) ?_ ?_ ?_ ?_
  · unfold maxLen; omega
  · omega
  · simp; omega
  · intro v' w' hrow hg _ hat
    refine h v' w' ?_ ?_ ?_
    · show w'.ownsRow B 9 1 v' (l ++ [q]).length (strCells (l ++ [q]))
      rw [strCells_app, List.length_append]
      exact hrow
    · refine ⟨hg.os, hg.tape, hg.output, ?_, fun k hk hr => ?_⟩
      · have := hg.size; simp at this; omega
      · rw [hg.block k (by simp; omega) hr]
        exact Below.heap_alloc _ _ _ (by omega)
    · intro g hgv
      rcases hat with h2 | h2
      · exact .inl (by rw [← h2]; exact hgv)
      · rw [h2] at hgv
        have := Option.some.inj hgv
        simp at this
        exact .inr (by omega)
theorem app_row {w : World} {ops : Array Oper} {rest : List Oper} {o : Oper} {a : Act} {Q : Exit → Act → World → Prop} (hgd : o.guard = none) (s x : Operand)
    (ho : o.op = .call { callee := .builtin .append, args := #[s, x], argTypes := #[24, 24] }) (B C : Nat) (v u : Value) (l m : List Str)
    (hs : a.eval s = v) (hown : RowS B w v l) (hx : a.eval x = u) (hrow : RowS C w u m) (hB : B ≤ w.heap.size) (hl : l.length + m.length ≤ 10000000)
    (h : ∀ v' w', RowS B w' v' (l ++ m) → w.grownBy w' v.ownBlock → (∀ g, v'.ownBlock = some g → v.ownBlock = some g ∨ w.heap.size ≤ g) → wpList Tryz.prog ops Q rest (a.put o.dst v') w') :
    wpList Tryz.prog ops Q (o :: rest) a w := by
  obtain ⟨i0, hi, hz0, hz1, hz2⟩ := info_parts Tryz.infoS
  rcases hrow.2 with ⟨rfl, hm0⟩ | ⟨g, cap, cur, rfl, hb, hg, rest'⟩
  · obtain rfl : m = [] := List.length_eq_zero_iff.1 hm0
    refine wpList_append_own_none hgd s x 24 ho B 9 i0 1 Tryz.underlying24 hi v l.length (strCells l) hs hown hx ?_
    exact h v w (by simpa using hown) ⟨rfl, rfl, rfl, Nat.le_refl _, fun _ _ _ => rfl⟩ fun g hg => .inl hg
  · refine wpList_append_own_at w hgd s x 24 ho B 9 i0 (.string ⟨#[]⟩) 1 16 Tryz.underlying24 hi hz0 hz1 hz2 rfl (by decide) v l.length (strCells l) hs hown ⟨g, 0, none⟩ m.length cap (strCells m) hx (by rw [strCells_len]; omega) (fun j u hj => World.ownsRow.cells hrow rfl j u hj) (strCells_one m) ?_ ?_ hB ?_
    · unfold maxLen; omega
    · omega
    · intro v' w' hrow' hg' _ hat
      refine h v' w' ?_ hg' ?_
      · show w'.ownsRow B 9 1 v' (l ++ m).length (strCells (l ++ m))
        rw [strCells_app, List.length_append]
        exact hrow'
      · intro g2 hgv
        rcases hat with h2 | h2
        · exact .inl (by rw [← h2]; exact hgv)
        · rw [h2] at hgv
          have := Option.some.inj hgv
          exact .inr (by omega)
theorem RowS.shape {B : Nat} {w : World} {v : Value} {l : List Str} (h : RowS B w v l) : ∃ a c, v = .slice a l.length c := by
  rcases h.2 with ⟨rfl, h0⟩ | ⟨g, cap, cur, rfl, _⟩
  · exact ⟨none, 0, by rw [h0]⟩
  · exact ⟨_, _, rfl⟩
theorem RowS.at {B : Nat} {w : World} {a : Option Addr} {n c : Nat} {l : List Str} (h : RowS B w (.slice a n c) l) {i : Nat} (hi : i < l.length) : ∃ g, a = some ⟨g, 0, none⟩ ∧ n = l.length ∧ w.cell? ⟨g, i, none⟩ = some (.string ⟨l[i].toArray⟩) := by
  rcases h.2 with ⟨_, h0⟩ | ⟨g, cap, cur, e, _⟩
  · omega
  · have hc := World.ownsRow.cells h (show (Value.slice a n c).ownBlock = some g by rw [e]; rfl) i (.string ⟨l[i].toArray⟩) (by simp [strCells, hi])
    simp only [Value.slice.injEq] at e
    rw [add_none, Nat.zero_add] at hc
    exact ⟨g, e.1, e.2.1, hc⟩
theorem RowS.mono {B C : Nat} {w : World} {v : Value} {l : List Str} (h : RowS B w v l) (hb : C ≤ B) : RowS C w v l := by
  refine ⟨h.1, ?_⟩
  rcases h.2 with hn | ⟨g, cap, cur, e, hB, rest⟩
  · exact .inl hn
  · exact .inr ⟨g, cap, cur, e, by omega, rest⟩
end Go.Proofs.YtheiageokcgbhaaGreatDoor.Pz
/-
  list.elements, list.Split.
-/
namespace Go.Proofs.YtheiageokcgbhaaGreatDoor.Pz
open Go.RowKit Go.Shelf
attribute [local go_sem] Oper.semAt_some
set_option maxHeartbeats 1000000 in
theorem elements_fn (s : Str) (w : World) : Calls Tryz.prog 50 #[.string ⟨s.toArray⟩] w fun e w' => ∃ q, e = .returned (.func (.func 93) #[] #[.pointer (some ⟨w.heap.size, 0, none⟩), .pointer (some ⟨q, 0, none⟩)]) ∧ Below w.heap.size w w' ∧
    w'.heap[w.heap.size]? = some (.cells #[.string ⟨s.toArray⟩] 9 (0, 0)) ∧ w'.heap[q]? = some (.cells rdCells 95 (0, 0)) ∧ w.heap.size < q := by
  have hmf : ∀ (fn : Fn) (first cap : Array Value) (w : World), (Instr.makeFunc fn first cap).run Tryz.prog w = .ok (.func fn first cap) w := fun _ _ _ _ => rfl
  obtain ⟨w1, hw1⟩ : ∃ w1, w1 = w.alloc (.cells #[.string ⟨s.toArray⟩] 9) := ⟨_, rfl⟩
  have hb1 : Below w.heap.size w w1 := by rw [hw1]; exact belowA _ _
  have h1 : w1.heap[w.heap.size]? = some (.cells #[.string ⟨s.toArray⟩] 9 (0, 0)) := by rw [hw1]; exact heap_alloc_new _ _
  have hs1 : w1.heap.size = w.heap.size + 1 := by rw [hw1]; simp
  have hr := hid (readers_fn w1)
  have HW1 := hid hw1
  have HB1 := hid hb1
  have H1 := hid h1
  have HS1 := hid hs1
  clear hw1 hb1 h1 hs1
  go_enter Tryz.func50, Tryz.ntmps50
  go_wp2_with fail
  rw [← HW1.out]
  (with_reducible refine hr.out.mono ?_); rintro e w2 ⟨rfl, hb2⟩
  have hs2 := hb2.size
  have H2 := hid ((hb2.block _ (by have := HS1.out; omega)).trans H1.out)
  have HB2 := hid (HB1.out.trans (hb2.mono (by have := HS1.out; omega)))
  clear hb2
  go_wp2
  go_ret
  refine ⟨w2.heap.size, rfl, HB2.out.trans ((belowA _ _).mono HB2.out.size), (Below.heap_alloc _ _ _ (by have := HS1.out; omega)).trans H2.out, heap_alloc_new _ _, by have := HS1.out; omega⟩
theorem app_oneIn {F : Fence} {nF : Nat} {w : World} {N : Nat} (hN : w.heap.size = N) {ops : Array Oper} {rest : List Oper} {o : Oper} {a : Act} {Q : Exit → Act → World → Prop} (hgd : o.guard = none) (s x : Operand)
    (ho : o.op = .call { callee := .builtin .append, args := #[s, x], argTypes := #[24, 24] }) (B : Nat) (v : Value) (l : List Str) (q : Str)
    (hs : a.eval s = v) (hown : RowS B w v l) (hx : a.eval x = .slice (some ⟨N, 0, none⟩) 1 1) (hB : B ≤ w.heap.size) (hl : l.length ≤ 10000000)
    (h : ∀ v' w', RowS B w' v' (l ++ [q]) → w.grownBy w' v.ownBlock → (∀ g, v'.ownBlock = some g → v.ownBlock = some g ∨ w.heap.size ≤ g) → wpListIn F nF Tryz.prog ops Q rest (a.put o.dst v') w') :
    wpListIn F nF Tryz.prog ops Q (o :: rest) a (w.alloc (.cells #[.string ⟨q.toArray⟩] 9)) := by
  obtain ⟨i0, hi, hz0, hz1, hz2⟩ := info_parts Tryz.infoS
  subst hN
  have hown' : (w.alloc (.cells #[.string ⟨q.toArray⟩] 9)).ownsRow B 9 1 v l.length (strCells l) := World.ownsRow.alloc hown _
  refine wpListIn_append_own_at _ hgd s x 24 ho B 9 i0 (.string ⟨#[]⟩) 1 16 Tryz.underlying24 hi hz0 hz1 hz2 rfl (by decide) v l.length (strCells l) hs hown' ⟨w.heap.size, 0, none⟩ 1 1 [.string ⟨q.toArray⟩] hx rfl (cell_one_new _ _ _) (strCells_one [q]) ?_ ?_ ?_ ?_
  · unfold maxLen; omega
  · omega
  · simp; omega
  · intro v' w' hrow hg _ hat
    refine h v' w' ?_ ?_ ?_
    · show w'.ownsRow B 9 1 v' (l ++ [q]).length (strCells (l ++ [q]))
      rw [strCells_app, List.length_append]
      exact hrow
    · refine ⟨hg.os, hg.tape, hg.output, ?_, fun k hk hr => ?_⟩
      · have := hg.size; simp at this; omega
      · rw [hg.block k (by simp; omega) hr]
        exact Below.heap_alloc _ _ _ (by omega)
    · intro g hgv
      rcases hat with h2 | h2
      · exact .inl (by rw [← h2]; exact hgv)
      · rw [h2] at hgv
        have := Option.some.inj hgv
        simp at this
        exact .inr (by omega)
theorem elements_stops {B p q : Nat} {s : Str} (hs : s.length ≤ 1000000) {w : World} (N : Nat) (hp : w.heap[p]? = some (.cells #[.string ⟨s.toArray⟩] 9 (0, 0))) (hq : w.heap[q]? = some (.cells rdCells 95 (0, 0))) (hB : B ≤ w.heap.size) :
    SeqStopsK Fence.wide N Tryz.prog 93 #[.pointer (some ⟨p, 0, none⟩), .pointer (some ⟨q, 0, none⟩)] (encI s.length) (KpL B p q) (fun xs => xs = itemsE s) (fun pre => pre <+: itemsE s) (itemsE s).length w := by
  intro l J Jx W hW hJ hJx hY h0
  refine (elements1_in l B p q s hs J Jx W N hY ((hW.block p (Array.getElem?_eq_some_iff.1 hp).1).trans hp) ((hW.block q (Array.getElem?_eq_some_iff.1 hq).1).trans hq) (Nat.le_trans hB hW.size)
    (fun s W1 W2 h hb => hJ s W1 W2 none h ⟨hb.os, hb.tape, hb.output, hb.size, fun k hk _ => hb.block k hk⟩ (fun r e => by cases e)) h0).mono ?_
  rintro e W' ⟨he, h | ⟨pre, hpre, h⟩⟩
  · exact ⟨he, .inl ⟨_, rfl, h⟩⟩
  · exact ⟨he, .inr ⟨pre, hpre, h⟩⟩
/-- a block of cells stands where other things turn -/
theorem cells_turn {X Y : World} {row : Option Nat} {B k : Nat} {cs : Array Value} {t : TypeId} {fz : Nat × Nat} (hg : X.grownBy Y row) (hr : ∀ r, row = some r → B ≤ r ∧ ∃ o : Obj, X.heap[r]? = some o ∧ o.isCells = false) (h : X.heap[k]? = some (.cells cs t fz)) : Y.heap[k]? = some (.cells cs t fz) := by
  rw [hg.block k (Array.getElem?_eq_some_iff.1 h).1 fun e => ?_]
  · exact h
  · obtain ⟨_, o, ho, hc⟩ := hr k e.symm
    rw [h] at ho
    cases ho
    cases hc
theorem below_turn {w X Y : World} {row : Option Nat} {B : Nat} (hb : Below B w X) (hB : B ≤ w.heap.size) (hg : X.grownBy Y row) (hr : ∀ r, row = some r → B ≤ r ∧ ∃ o : Obj, X.heap[r]? = some o ∧ o.isCells = false) : Below B w Y := hb.grown hg (Nat.le_trans hB hb.size) fun k e => (hr k e).1
/-- between two rounds of 'Split' -/
structure SpAt (b M : Nat) (w : World) (v : Value) (pre : List Item) (W : World) : Prop where
  big : M ≤ W.heap.size
  l : W.heap[b]? = some (.cells #[v] 24 (0, 0))
  row : RowS M W v ((pre.map (fun x => x.2.1)).take 10000)
  at0 : W.heap[b + 1]? = some (.cells #[.int .i64 0] 3 (0, 0))
  e0 : W.heap[b + 1 + 1]? = some (.cells #[.int .i64 0] 25 (0, 0))
  many : W.heap[b + 1 + 1 + 1]? = some (.cells #[.bool (decide (10000 < pre.length))] 4 (0, 0))
  low : Below b w W
  oks : ∀ x ∈ pre, x.2.2 = true
/-- 'Split' has met a wrong element -/
structure SpEnd (b n : Nat) (w : World) (pre : List Item) (W : World) : Prop where
  l : W.heap[b]? = some (.cells #[.slice none 0 0] 24 (0, 0))
  at0 : ∃ (q : List Item) (k : Nat) (y : Str), pre = q ++ [(k, y, false)] ∧ W.heap[b + 1]? = some (.cells #[.int .i64 ((n : Int) - (k : Int))] 3 (0, 0))
  e0 : W.heap[b + 1 + 1]? = some (.cells #[.int .i64 2] 25 (0, 0))
  low : Below b w W
theorem SpAt.own {b B M : Nat} {w : World} (hB : b ≤ B) (hbw : b ≤ w.heap.size) : OwnFrom B (fun pre W => ∃ v, SpAt b M w v pre W) := by
  rintro pre X Y row ⟨v, h⟩ hg hr
  have hr' : ∀ r, row = some r → b ≤ r ∧ ∃ o : Obj, X.heap[r]? = some o ∧ o.isCells = false := fun r e => ⟨Nat.le_trans hB (hr r e).1, (hr r e).2⟩
  exact ⟨v, Nat.le_trans h.big hg.size, cells_turn hg hr h.l, ownsRow_heap2 h.row fun g cur _ hc => cells_turn hg hr hc, cells_turn hg hr h.at0, cells_turn hg hr h.e0, cells_turn hg hr h.many, below_turn h.low hbw hg hr', h.oks⟩
theorem SpEnd.own {b B n : Nat} {w : World} (hB : b ≤ B) (hbw : b ≤ w.heap.size) : OwnFrom B (fun pre W => SpEnd b n w pre W) := by
  rintro pre X Y row h hg hr
  have hr' : ∀ r, row = some r → b ≤ r ∧ ∃ o : Obj, X.heap[r]? = some o ∧ o.isCells = false := fun r e => ⟨Nat.le_trans hB (hr r e).1, (hr r e).2⟩
  obtain ⟨q, k, y, e, h1⟩ := h.at0
  exact ⟨cells_turn hg hr h.l, ⟨q, k, y, e, cells_turn hg hr h1⟩, cells_turn hg hr h.e0, below_turn h.low hbw hg hr'⟩
/-- what 'Split' returns -/
def SplitQ (s : Str) (w : World) (e : Ending) (w' : World) : Prop := Below w.heap.size w w' ∧ ∃ v, e = .returned (.tuple #[v, .int .i64 (splitE s).2.1, .int .i64 (splitE s).2.2]) ∧ RowS w.heap.size w' v (splitE s).1
/-- the temporaries in a round -/
def spTmps (s : Str) (b q Bx : Nat) (x : Item) : Array Value := #[.string ⟨s.toArray⟩, undef, .pointer (some ⟨b, 0, none⟩), .pointer (some ⟨b + 1, 0, none⟩), .pointer (some ⟨b + 1 + 1, 0, none⟩), .pointer (some ⟨b + 1 + 1 + 1, 0, none⟩),
  .int .i64 ((s.length : Int) - (x.1 : Int)), .pointer (some ⟨Bx, 0, none⟩), .string ⟨s.toArray⟩, .func (.func 93) #[] #[.pointer (some ⟨b + 1 + 1 + 1 + 1, 0, none⟩), .pointer (some ⟨q, 0, none⟩)],
  .int .i64 ((s.length : Int) - (x.1 : Int)), .agg #[.string ⟨x.2.1.toArray⟩, .bool x.2.2], undef, undef, undef, undef, undef, undef, undef, undef, undef, undef, undef, undef, undef, undef, undef, undef]
set_option maxRecDepth 100000 in
theorem split_end {s : Str} {b D M : Nat} {w W : World} {v u26 u27 : Value} {l : List Str} {z1 z2 : Int} {q : Nat} (hb : b = w.heap.size) (hM : b ≤ M) (hMD : M ≤ D) (h0 : W.heap[b]? = some (.cells #[v] 24 (0, 0))) (h1 : W.heap[b + 1]? = some (.cells #[.int .i64 z1] 3 (0, 0)))
    (h2 : W.heap[b + 1 + 1]? = some (.cells #[.int .i64 z2] 25 (0, 0))) (hK : W.heap[D]? = some (.deferred (some []))) (hrow : RowS M W v l) (hlow : Below b w W) (hsp : splitE s = (l, z1, z2)) :
    bodyPostM Fence.wide 5 Tryz.prog Tryz.f11 (SplitQ s w) Exit.ret
      { tmps := #[.string ⟨s.toArray⟩, undef, .pointer (some ⟨b, 0, none⟩), .pointer (some ⟨b + 1, 0, none⟩), .pointer (some ⟨b + 1 + 1, 0, none⟩), .pointer (some ⟨b + 1 + 1 + 1, 0, none⟩), undef, undef, .string ⟨s.toArray⟩,
          .func (.func 93) #[] #[.pointer (some ⟨b + 1 + 1 + 1 + 1, 0, none⟩), .pointer (some ⟨q, 0, none⟩)], undef, undef, undef, undef, undef, undef, undef, undef, undef, undef, undef, undef, undef, undef, undef, undef, u26, u27],
        defers := [{ target := .collected D, args := #[] }] } W := by
  have hne : ∀ k, (∃ (cs : Array Value) (t : TypeId), W.heap[k]? = some (Obj.cells cs t (0, 0))) → (W.putObj D (.deferred none)).heap[k]? = W.heap[k]? := fun k hk => World.putObj_heap_other (by
    rintro rfl
    obtain ⟨cs, t, hk⟩ := hk
    rw [hK] at hk
    cases hk)
  have g0 := (hne b ⟨_, _, h0⟩).trans h0
  have g1 := (hne (b + 1) ⟨_, _, h1⟩).trans h1
  have g2 := (hne (b + 1 + 1) ⟨_, _, h2⟩).trans h2
  have c0 : (W.putObj D (.deferred none)).cell? ⟨b, 0, none⟩ = some v := by rw [Lib.cell_of_heap g0]; rfl
  have c1 : (W.putObj D (.deferred none)).cell? ⟨b + 1, 0, none⟩ = some (.int .i64 z1) := by rw [Lib.cell_of_heap g1]; rfl
  have c2 : (W.putObj D (.deferred none)).cell? ⟨b + 1 + 1, 0, none⟩ = some (.int .i64 z2) := by rw [Lib.cell_of_heap g2]; rfl
  refine ⟨by simp, .inl ⟨_, _, rfl, run_takeDeferred hK, ?_⟩⟩
  refine ⟨.tuple #[v, .int .i64 z1, .int .i64 z2], ?_, ?_, v, by rw [hsp], by rw [hsp]; exact RowS.mono (B := M) (show RowS M _ v l from ownsRow_heap2 hrow fun g cur hg hc => (hne g ⟨_, _, hc⟩).trans hc) (by omega)⟩
  · simp [results, Tryz.results11, asAddr, go_sem, c0, c1, c2]
  · rw [← hb]
    exact hlow.trans ⟨rfl, rfl, rfl, by rw [World.putObj_size]; exact Nat.le_refl _, fun k hk => World.putObj_heap_other (by omega)⟩
set_option maxRecDepth 100000 in
set_option maxHeartbeats 1000000 in
theorem split_fn (s : Str) (hs : s.length ≤ 1000000) (w : World) : Calls Tryz.prog 11 #[.string ⟨s.toArray⟩] w (SplitQ s w) := by
  refine (callsIn_wide (n := 5)).1 ?_
  refine callsIn_of_wp_marks Tryz.func11 rfl trivial ?_ rfl
  simp only [Tryz.ntmps11, List.size_toArray, List.length_cons, List.length_nil, Nat.reduceAdd, Nat.reduceSub, Array.replicate_succ, Array.replicate_zero, List.push_toArray, List.append_toArray, List.nil_append, List.cons_append]
  obtain ⟨W0, hW0⟩ : ∃ W0, W0 = (((w.alloc (.cells #[.slice none 0 0] 24)).alloc (.cells #[.int .i64 0] 3)).alloc (.cells #[.int .i64 0] 25)).alloc (.cells #[.bool false] 4) := ⟨_, rfl⟩
  have hs0 : W0.heap.size = w.heap.size + 1 + 1 + 1 + 1 := by rw [hW0]; simp
  have h0 : W0.heap[w.heap.size]? = some (.cells #[.slice none 0 0] 24 (0, 0)) := by rw [hW0, Below.heap_alloc _ _ _ (by simp <;> omega), Below.heap_alloc _ _ _ (by simp <;> omega), Below.heap_alloc _ _ _ (by simp)]; exact heap_alloc_new _ _
  have h1 : W0.heap[w.heap.size + 1]? = some (.cells #[.int .i64 0] 3 (0, 0)) := by
    rw [hW0, Below.heap_alloc _ _ _ (by simp <;> omega), Below.heap_alloc _ _ _ (by simp)]
    simpa using heap_alloc_new (w.alloc (.cells #[.slice none 0 0] 24)) (.cells #[.int .i64 0] 3)
  have h2 : W0.heap[w.heap.size + 1 + 1]? = some (.cells #[.int .i64 0] 25 (0, 0)) := by
    rw [hW0, Below.heap_alloc _ _ _ (by simp)]
    simpa using heap_alloc_new ((w.alloc (.cells #[.slice none 0 0] 24)).alloc (.cells #[.int .i64 0] 3)) (.cells #[.int .i64 0] 25)
  have h3 : W0.heap[w.heap.size + 1 + 1 + 1]? = some (.cells #[.bool false] 4 (0, 0)) := by
    rw [hW0]
    simpa using heap_alloc_new (((w.alloc (.cells #[.slice none 0 0] 24)).alloc (.cells #[.int .i64 0] 3)).alloc (.cells #[.int .i64 0] 25)) (.cells #[.bool false] 4)
  have hb0 : Below w.heap.size w W0 := by rw [hW0]; exact ((((Below.refl _ _).alloc (Nat.le_refl _) _).alloc (by simp) _).alloc (by simp; omega) _).alloc (by simp; omega) _
  have HE := hid (elements_fn s W0)
  have HW0 := hid hW0
  have H0 := hid h0
  have H1 := hid h1
  have H2 := hid h2
  have H3 := hid h3
  have HB0 := hid hb0
  have HS0 := hid hs0
  clear hW0 h0 h1 h2 h3 hb0 hs0
  gi_wp2_with (refine ⟨trivial, ?_⟩; gi_at_call 50; rw [← HW0.out]; refine (callsIn_wide.2 HE.out).mono ?_; rintro e w1 ⟨q, rfl, hbe, hep, heq, hql⟩)
  rw [HS0.out] at hep hql
  rw [HS0.out]
  have hsz1 := hbe.size
  rw [HS0.out] at hsz1
  have kp : ∀ k, k < w.heap.size + 1 + 1 + 1 + 1 → w1.heap[k]? = W0.heap[k]? := fun k hk => hbe.block k (by rw [HS0.out]; exact hk)
  have hbw : Below w.heap.size w w1 := HB0.out.trans (hbe.mono (by rw [HS0.out]; omega))
  have hI0 : ∃ v, SpAt w.heap.size w1.heap.size w v [] w1 := ⟨_, Nat.le_refl _, (kp _ (by omega)).trans H0.out, RowS.nil _ _, (kp _ (by omega)).trans H1.out, (kp _ (by omega)).trans H2.out, (kp _ (by omega)).trans H3.out, hbw, fun x hx => absurd hx (by simp)⟩
  obtain ⟨b, hb⟩ : ∃ b, b = w.heap.size := ⟨_, rfl⟩
  have HBE := hid hb
  rw [← hb] at hep hql hsz1 hI0 ⊢
  have hbw1 : b ≤ w.heap.size := by omega
  have hepl := (Array.getElem?_eq_some_iff.1 hep).1
  have hequ := (Array.getElem?_eq_some_iff.1 heq).1
  clear hbe kp HE H0 H1 H2 H3 HB0 HW0 HS0 hb
  refine wpIn_rangeFunc_ownH rfl (by omega) (gf := 93) (lb := #[.pointer (some ⟨b + 1 + 1 + 1 + 1, 0, none⟩), .pointer (some ⟨q, 0, none⟩)]) rfl trivial (enters_of Tryz.func93 (by kernel_rfl) rfl)
    (elements_stops (B := b) hs _ hep heq (by omega)) KpL.trans (fun W l o o' hl h h1 h2 => ⟨belowK_b (w := w1) (by omega) W l o o' hl h h1 h2, World.putObj_heap_other (by have := (Array.getElem?_eq_some_iff.1 hep).1; omega), World.putObj_heap_other (by have := (Array.getElem?_eq_some_iff.1 heq).1; omega)⟩) (Below.refl _ _) (fun _ => rfl)
    (fun pre W => ∃ v, SpAt b w1.heap.size w v pre W) (fun c pre W => c = .ret ∧ SpEnd b s.length w pre W)
    (SpAt.own (by omega) hbw1) (fun c s' X Y row h hg hr => ⟨h.1, SpEnd.own (B := w1.heap.size) (by omega) hbw1 s' X Y row h.2 hg hr⟩) hI0
    (fun x a' W => ∃ Bx, b + 1 + 1 + 1 < Bx ∧ W.heap[Bx]? = some (.cells #[.string ⟨x.2.1.toArray⟩, .bool x.2.2] 58 (0, 0)) ∧ a' = { tmps := spTmps s b q Bx x, defers := [] })
    (fun x a' s' X Y row h hg hr => by obtain ⟨Bx, h1, h2, h3⟩ := h; exact ⟨Bx, h1, cells_turn hg hr h2, h3⟩) ?assign ?body ?done ?stop
  case assign =>
    rintro l pre x W K ⟨v, hi⟩ hK
    unfold encI
    gi_wp2
    exact hK _ _ ((KeepsOthers.alloc _ _).from _) (KpL.of (belowA _ _) (by have := hi.big; omega) (by have := hi.big; omega) (by have := hi.big; omega)) ((SpAt.own (B := b) (Nat.le_refl _) hbw1).alloc _ ⟨v, hi⟩) ⟨W.heap.size, by have := hi.big; omega, heap_alloc_new _ _, rfl⟩
  case body =>
    rintro l pre ⟨k, y, ok⟩ a' W hl hr ⟨v, hi⟩ ⟨Bx, hBx, hX, rfl⟩ hlt
    dsimp only at hX
    have x0 : W.cell? ⟨Bx, 0, none⟩ = some (.string ⟨y.toArray⟩) := by rw [Lib.cell_of_heap hX]; rfl
    have x1 : W.cell? ⟨Bx, 1, none⟩ = some (.bool ok) := by rw [Lib.cell_of_heap hX]; rfl
    have l0 : W.cell? ⟨b, 0, none⟩ = some v := by rw [Lib.cell_of_heap hi.l]; rfl
    have l1 : W.frozen? ⟨b, 0, none⟩ = false := Lib.frozen_of_heap hi.l 0
    have HI := hid hi
    unfold spTmps
    dsimp only
    cases ok with
    | false =>
      have a0 : W.cell? ⟨b + 1, 0, none⟩ = some (.int .i64 0) := by rw [Lib.cell_of_heap hi.at0]; rfl
      have a1 : W.frozen? ⟨b + 1, 0, none⟩ = false := Lib.frozen_of_heap hi.at0 0
      have e0 : W.cell? ⟨b + 1 + 1, 0, none⟩ = some (.int .i64 0) := by rw [Lib.cell_of_heap hi.e0]; rfl
      have e1 : W.frozen? ⟨b + 1 + 1, 0, none⟩ = false := Lib.frozen_of_heap hi.e0 0
      clear hi
      gi_wp2
      refine ⟨(((KeepsOthers.setCell _ _ _).trans (KeepsOthers.setCell _ _ _)).trans (KeepsOthers.setCell _ _ _)).from _, rfl, ?_, ⟨pre, k, y, rfl, ?_⟩, ?_, ?_⟩
      · have d1 : ¬ b + 1 + 1 = b := by omega
        simp [World.setCell, Array.getElem?_modify, HI.out.l, d1]
      · simp [World.setCell, Array.getElem?_modify, HI.out.at0]
      · have d1 : ¬ b = b + 1 + 1 := by omega
        simp [World.setCell, Array.getElem?_modify, HI.out.e0, d1]
      · exact ((HI.out.low.setCell (Nat.le_refl _) _).setCell (by show b ≤ b + 1; omega) _).setCell (by show b ≤ b + 1 + 1; omega) _
    | true =>
      have m0 : W.cell? ⟨b + 1 + 1 + 1, 0, none⟩ = some (.bool (decide (10000 < pre.length))) := by rw [Lib.cell_of_heap hi.many]; rfl
      have m1 : W.frozen? ⟨b + 1 + 1 + 1, 0, none⟩ = false := Lib.frozen_of_heap hi.many 0
      obtain ⟨av, cv, ev⟩ := hi.row.shape
      obtain ⟨n, hn⟩ : ∃ n, n = ((pre.map (fun x => x.2.1)).take 10000).length := ⟨_, rfl⟩
      have hn2 : n = min 10000 pre.length := by rw [hn, List.length_take, List.length_map]
      rw [← hn] at ev
      subst ev
      have HN := hid hn
      have HN2 := hid hn2
      have hil := items_len s.length s (Nat.le_refl _)
      clear hn hi hn2
      by_cases hp : pre.length < 10000
      · have hnb : n < 10000 := by have := HN2.out; omega
        have hne : ((n : Int) == 10000) = false := by rw [beq_eq_false_iff_ne]; omega
        have hbW : b ≤ W.heap.size := by have := HI.out.big; omega
        have hnl : ((pre.map (fun x => x.2.1)).take 10000).length ≤ 10000000 := by rw [List.length_take, List.length_map]; omega
        have HX := hid hX
        gi_wp2_with (gi_at_builtin; refine app_oneIn rfl rfl (.tmp 12) (.tmp 15) rfl w1.heap.size _ _ y rfl HI.out.row rfl HI.out.big hnl ?_; intro v9 w9 hr9 hg9 hv9; obtain ⟨a9, c9, e9⟩ := RowS.shape hr9; obtain ⟨n9, hn9⟩ : ∃ n9, n9 = (List.take 10000 (List.map (fun x : Item => x.2.1) pre) ++ [y]).length := ⟨_, rfl⟩; rw [← hn9] at e9; subst e9; have hob := HI.out.row.lt; have hob9 : w9.heap[b]? = some (.cells #[.slice av n cv] 24 (0, 0)) := (hg9.block b (by have := HI.out.big; omega) (fun e => by have := (hob b e.symm).2; omega)).trans HI.out.l; have co9 : w9.cell? ⟨b, 0, none⟩ = some (.slice av n cv) := (by rw [Lib.cell_of_heap hob9]; rfl); have fo9 : w9.frozen? ⟨b, 0, none⟩ = false := Lib.frozen_of_heap hob9 0; have HR9 := hid hr9; have HG9 := hid hg9; have HV9 := hid hv9; have HOB := hid hob; have HOB9 := hid hob9; clear hr9 hg9 hv9 hob hob9 hn9)
        have same : ∀ g, g < w1.heap.size → w9.heap[g]? = W.heap[g]? := fun g hg => HG9.out.block g (by have := HI.out.big; omega) (fun e => by have := (HOB.out g e.symm).2; omega)
        have hset : ∀ g, g ≠ b → (w9.setCell ⟨b, 0, none⟩ (.slice a9 n9 c9)).heap[g]? = w9.heap[g]? := fun g hg => Below.heap_setCell _ _ _ _ fun e => hg e
        have hbl : Below b W w9 := ⟨HG9.out.os, HG9.out.tape, HG9.out.output, HG9.out.size, fun g hg => same g (by omega)⟩
        have hk9 : KeepsOthers W w9 := KeepsOthers.of_grownBy HG9.out fun j o e ho => by
          obtain ⟨_, cur, hc⟩ := ownsRow_lt HI.out.row j e
          rw [hc] at ho
          cases ho
          rfl
        have hmp : ((pre ++ [(k, y, true)] : List Item).map (fun x => x.2.1)).take 10000 = (pre.map (fun x => x.2.1)).take 10000 ++ [y] := by
          rw [List.map_append, List.take_of_length_le (by rw [List.length_append, List.length_map]; simp; omega), List.take_of_length_le (by rw [List.length_map]; omega)]
          rfl
        refine ⟨(hk9.trans (KeepsOthers.setCell _ _ _)).from _, ⟨hbl.setCell (Nat.le_refl _) _, ?_, ?_⟩, .slice a9 n9 c9, ?_, ?_, ?_, ?_, ?_, ?_, ?_, ?_⟩
        · exact (hset _ (by omega)).trans (same _ (by omega))
        · exact (hset _ (by omega)).trans (same _ (by omega))
        · have := HI.out.big
          have := HG9.out.size
          simp [World.setCell]
          omega
        · simp [World.setCell, Array.getElem?_modify, HOB9.out]
        · rw [hmp]
          exact ownsRow_heap HR9.out fun g hg => hset g (by have := (HR9.out.lt g hg).2; omega)
        · exact ((hset _ (by omega)).trans (same _ (by omega))).trans HI.out.at0
        · exact ((hset _ (by omega)).trans (same _ (by omega))).trans HI.out.e0
        · have hd : decide (10000 < (pre ++ [(k, y, true)] : List Item).length) = decide (10000 < pre.length) := by
            rw [decide_eq_false (show ¬ 10000 < (pre ++ [(k, y, true)] : List Item).length by rw [List.length_append]; simp; omega), decide_eq_false (show ¬ 10000 < pre.length by omega)]
          rw [hd]
          exact ((hset _ (by omega)).trans (same _ (by omega))).trans HI.out.many
        · exact (HI.out.low.trans hbl).setCell (Nat.le_refl _) _
        · intro z hz
          rcases List.mem_append.1 hz with hz | hz
          · exact HI.out.oks z hz
          · rw [List.mem_singleton.1 hz]
      · have hne : ((n : Int) == 10000) = true := by rw [beq_iff_eq]; have := HN2.out; omega
        gi_wp2
        have hmp : ((pre ++ [(k, y, true)] : List Item).map (fun x => x.2.1)).take 10000 = (pre.map (fun x => x.2.1)).take 10000 := by rw [List.map_append, List.take_append_of_le_length (by rw [List.length_map]; omega)]
        refine ⟨(KeepsOthers.setCell _ _ _).from _, ⟨(Below.refl _ _).setCell (by show b ≤ b + 1 + 1 + 1; omega) _, ?_, ?_⟩, .slice av n cv, ?_, ?_, ?_, ?_, ?_, ?_, ?_, ?_⟩
        · exact Below.heap_setCell _ _ _ _ (by show b + 1 + 1 + 1 + 1 ≠ b + 1 + 1 + 1; omega)
        · exact Below.heap_setCell _ _ _ _ (by show q ≠ b + 1 + 1 + 1; omega)
        · have := HI.out.big
          simp [World.setCell]
          exact this
        · exact (Below.heap_setCell _ _ _ _ (by show b ≠ b + 1 + 1 + 1; omega)).trans HI.out.l
        · rw [hmp]
          refine ownsRow_heap2 HI.out.row fun g cur hg hc => ?_
          have hgn : g ≠ b + 1 + 1 + 1 := by
            rintro rfl
            have := HI.out.many
            rw [hc] at this
            simp only [Option.some.injEq, Obj.cells.injEq] at this
            exact absurd this.2.1 (by decide)
          exact (Below.heap_setCell _ _ _ _ (fun e => hgn e)).trans hc
        · exact (Below.heap_setCell _ _ _ _ (by show b + 1 ≠ b + 1 + 1 + 1; omega)).trans HI.out.at0
        · exact (Below.heap_setCell _ _ _ _ (by show b + 1 + 1 ≠ b + 1 + 1 + 1; omega)).trans HI.out.e0
        · have hd : decide (10000 < (pre ++ [(k, y, true)] : List Item).length) = true := decide_eq_true (by rw [List.length_append]; simp; omega)
          rw [hd]
          simp [World.setCell, Array.getElem?_modify, HI.out.many]
        · exact HI.out.low.setCell (by show b ≤ b + 1 + 1 + 1; omega) _
        · intro z hz
          rcases List.mem_append.1 hz with hz | hz
          · exact HI.out.oks z hz
          · rw [List.mem_singleton.1 hz]
  case done =>
    rintro D xs W hD rfl ⟨v, hi⟩ hK
    have m0 : W.cell? ⟨b + 1 + 1 + 1, 0, none⟩ = some (.bool (decide (10000 < (itemsE s).length))) := by rw [Lib.cell_of_heap hi.many]; rfl
    have l0 : W.cell? ⟨b, 0, none⟩ = some v := by rw [Lib.cell_of_heap hi.l]; rfl
    have l1 : W.frozen? ⟨b, 0, none⟩ = false := Lib.frozen_of_heap hi.l 0
    have a0 : W.cell? ⟨b + 1, 0, none⟩ = some (.int .i64 0) := by rw [Lib.cell_of_heap hi.at0]; rfl
    have a1 : W.frozen? ⟨b + 1, 0, none⟩ = false := Lib.frozen_of_heap hi.at0 0
    have e0 : W.cell? ⟨b + 1 + 1, 0, none⟩ = some (.int .i64 0) := by rw [Lib.cell_of_heap hi.e0]; rfl
    have e1 : W.frozen? ⟨b + 1 + 1, 0, none⟩ = false := Lib.frozen_of_heap hi.e0 0
    obtain ⟨av, cv, ev⟩ := hi.row.shape
    obtain ⟨n, hn⟩ : ∃ n, n = (((itemsE s).map (fun x => x.2.1)).take 10000).length := ⟨_, rfl⟩
    rw [← hn] at ev
    subst ev
    have HN := hid hn
    have HI := hid hi
    clear hn hi
    by_cases hm : 10000 < (itemsE s).length
    · rw [decide_eq_true hm] at m0
      gi_wp2
      have hxs := items_list s.length s (Nat.le_refl _)
      have hsp : splitE s = ([], 0, 4) := by
        rcases hxs with ⟨xs, e1, e2, _⟩ | ⟨k, q', y, _, e2, _⟩
        · unfold splitE
          rw [e1]
          dsimp only
          rw [if_neg (by rw [← e2, List.length_map]; omega)]
        · exact absurd (HI.out.oks (k, y, false) (by rw [e2]; simp)) (by simp)
      refine split_end HBE.out (M := w1.heap.size) (by omega) hD ?_ ?_ ?_ ?_ (RowS.nil _ _) ?_ hsp
      · have d1 : ¬ b + 1 + 1 = b := by omega
        simp [World.setCell, Array.getElem?_modify, HI.out.l, d1]
      · simp [World.setCell, Array.getElem?_modify, HI.out.at0]
      · have d1 : ¬ b = b + 1 + 1 := by omega
        simp [World.setCell, Array.getElem?_modify, HI.out.e0, d1]
      · exact (((KeepsOthers.setCell _ _ _).trans (KeepsOthers.setCell _ _ _)).trans (KeepsOthers.setCell _ _ _)).same D _ hK rfl
      · exact ((HI.out.low.setCell (Nat.le_refl _) _).setCell (by show b ≤ b + 1; omega) _).setCell (by show b ≤ b + 1 + 1; omega) _
    · rw [decide_eq_false hm] at m0
      gi_wp2
      have hxs := items_list s.length s (Nat.le_refl _)
      have hsp : splitE s = ((itemsE s).map (fun x => x.2.1), 0, 0) := by
        rcases hxs with ⟨xs, e1, e2, _⟩ | ⟨k, q', y, _, e2, _⟩
        · unfold splitE
          rw [e1]
          dsimp only
          rw [if_pos (by rw [← e2, List.length_map]; omega), e2]
        · exact absurd (HI.out.oks (k, y, false) (by rw [e2]; simp)) (by simp)
      have htk : ((itemsE s).map (fun x => x.2.1)).take 10000 = (itemsE s).map (fun x => x.2.1) := List.take_of_length_le (by rw [List.length_map]; omega)
      have hrw : RowS w1.heap.size W (.slice av n cv) ((itemsE s).map (fun x => x.2.1)) := by
        have h9 := HI.out.row
        rw [htk] at h9
        exact h9
      have hset : ∀ g, g ≠ b → g ≠ b + 1 → g ≠ b + 1 + 1 → (((W.setCell ⟨b, 0, none⟩ (.slice av n cv)).setCell ⟨b + 1, 0, none⟩ (.int .i64 0)).setCell ⟨b + 1 + 1, 0, none⟩ (.int .i64 0)).heap[g]? = W.heap[g]? := fun g x1 x2 x3 =>
        (Below.heap_setCell _ _ _ _ fun e => x3 e).trans ((Below.heap_setCell _ _ _ _ fun e => x2 e).trans (Below.heap_setCell _ _ _ _ fun e => x1 e))
      refine split_end HBE.out (M := w1.heap.size) (by omega) hD ?_ ?_ ?_ ?_ (l := (itemsE s).map (fun x : Item => x.2.1)) (v := .slice av n cv) (ownsRow_heap (w := W) hrw fun g hg => by have := (hrw.lt g hg).2; exact hset g (by omega) (by omega) (by omega)) ?_ hsp
      · have d1 : ¬ b + 1 + 1 = b := by omega
        simp [World.setCell, Array.getElem?_modify, HI.out.l, d1]
      · simp [World.setCell, Array.getElem?_modify, HI.out.at0]
      · have d1 : ¬ b = b + 1 + 1 := by omega
        simp [World.setCell, Array.getElem?_modify, HI.out.e0, d1]
      · exact (((KeepsOthers.setCell _ _ _).trans (KeepsOthers.setCell _ _ _)).trans (KeepsOthers.setCell _ _ _)).same D _ hK rfl
      · exact ((HI.out.low.setCell (Nat.le_refl _) _).setCell (by show b ≤ b + 1; omega) _).setCell (by show b ≤ b + 1 + 1; omega) _
  case stop =>
    rintro D c pre W hD hpre ⟨rfl, he⟩ hK
    gi_wp2
    obtain ⟨q', k, y, rfl, h1⟩ := he.at0
    have hsp : splitE s = ([], (s.length : Int) - (k : Int), 2) := by
      unfold splitE
      rw [items_wrong hpre]
    exact split_end HBE.out (M := w1.heap.size) (by omega) hD he.l h1 he.e0 hK (RowS.nil _ _) he.low hsp
end Go.Proofs.YtheiageokcgbhaaGreatDoor.Pz
/-
  The elements of a list are no longer than its text.
-/
namespace Go.Proofs.YtheiageokcgbhaaGreatDoor.Pz
theorem unesc_out (t : Str) : (unesc t).1.length + (unesc t).2.length ≤ t.length + 1 := by
  have h1 := suf_len (unesc_suf t)
  have h2 := unesc_len t
  omega
theorem quotedE_out : ∀ (n : Nat) (l : Str), l.length ≤ n → ∀ s r, quotedE l = some (s, r) → s.length + r.length ≤ l.length
  | _, [], _, s, r, h => by rw [quotedE] at h; cases h
  | 0, c :: t, hn, _, _, _ => absurd hn (by simp)
  | n + 1, c :: t, hn, s, r, h => by
    have ht : t.length ≤ n := by simpa using hn
    rw [quotedE] at h
    split at h
    · simp only [Option.some.injEq, Prod.mk.injEq] at h
      obtain ⟨rfl, rfl⟩ := h
      simp
    · split at h
      · obtain ⟨s', h', rfl⟩ := pre_some h
        have hu := suf_len (unesc_suf t)
        have hq := unesc_len t
        have := quotedE_out n _ (by omega) _ _ h'
        simp only [List.length_append, List.length_cons]
        omega
      · obtain ⟨s', h', rfl⟩ := pre_some h
        have := quotedE_out n t ht _ _ h'
        simp only [List.length_append, List.length_cons, List.length_nil]
        omega
theorem bareE_out : ∀ (n : Nat) (l : Str), l.length ≤ n → (bareE l).1.length + (bareE l).2.length ≤ l.length
  | _, [], _ => by rw [bareE]; simp
  | 0, c :: t, hn => absurd hn (by simp)
  | n + 1, c :: t, hn => by
    have ht : t.length ≤ n := by simpa using hn
    rw [bareE]
    split
    · simp
    · split
      · have hu := suf_len (unesc_suf t)
        have hq := unesc_len t
        have := bareE_out n (unesc t).2 (by omega)
        simp only [preP, List.length_append, List.length_cons]
        omega
      · have := bareE_out n t ht
        simp only [preP, List.length_append, List.length_cons, List.length_nil]
        omega
theorem elemE_out {c : UInt8} {t s r : Str} (h : elemE (c :: t) = some (s, r)) : s.length + r.length ≤ t.length + 1 := by
  have h' : (if (c == 123) = true then brace 0 t else if (c == 34) = true then quotedE t else some (bareE (c :: t))) = some (s, r) := h
  clear h
  have h := h'
  clear h'
  split at h
  · have ht := brace_text t.length t (Nat.le_refl _) 0 s r h
    rw [ht]
    simp
    omega
  · split at h
    · have := quotedE_out _ t (Nat.le_refl _) s r h
      omega
    · simp only [Option.some.injEq] at h
      have h1 := bareE_out _ (c :: t) (Nat.le_refl _)
      rw [h] at h1
      simpa using h1
def sumL (l : List Str) : Nat := (l.map List.length).sum
theorem sumL_mem : ∀ (l : List Str) (s : Str), s ∈ l → s.length ≤ sumL l
  | x :: l, s, h => by
    rcases List.mem_cons.1 h with rfl | h
    · simp [sumL]
    · have := sumL_mem l s h
      simp [sumL] at this ⊢
      omega
theorem listE_out : ∀ (n : Nat) (l : Str), l.length ≤ n → ∀ xs, listE l = .inr xs → xs.length ≤ l.length ∧ sumL xs ≤ l.length
  | _, [], _, xs, h => by
    rw [listE] at h
    cases h
    exact ⟨Nat.le_refl _, Nat.le_refl _⟩
  | 0, c :: t, hn, _, _ => absurd hn (by simp)
  | n + 1, c :: t, hn, xs, h => by
    have ht : t.length ≤ n := by simpa using hn
    cases hw : white c with
    | true =>
      rw [listE_white hw] at h
      have := listE_out n t ht xs h
      simp
      omega
    | false =>
      rw [listE_cons hw] at h
      cases he : elemE (c :: t) with
      | none => rw [he] at h; cases h
      | some y =>
        obtain ⟨x, r⟩ := y
        rw [he] at h
        dsimp only at h
        have h1 := elemE_out he
        have h2 := (elemE_suf hw he).1
        split at h
        · cases hr : listE r with
          | inl b => rw [hr] at h; cases h
          | inr ys =>
            rw [hr] at h
            cases h
            have h3 := listE_out n r (by omega) ys hr
            simp [sumL] at h3 ⊢
            omega
        · cases h
theorem splitE_out (s : Str) : (splitE s).1.length ≤ s.length ∧ (splitE s).1.length ≤ 10000 ∧ sumL (splitE s).1 ≤ s.length := by
  unfold splitE
  cases h : listE s with
  | inl b => simp [sumL]
  | inr xs =>
    have := listE_out _ s (Nat.le_refl _) xs h
    dsimp only
    split
    · exact ⟨this.1, by assumption, this.2⟩
    · simp [sumL]
end Go.Proofs.YtheiageokcgbhaaGreatDoor.Pz
/-
  The reference 01: within, White, stands, First.
-/
namespace Go.Proofs.YtheiageokcgbhaaGreatDoor.Pz
open Go.RowKit
set_option maxRecDepth 100000 in
theorem within1_fn (n lo hi : Int) (w : World) : Calls Tryz.prog 96 #[.int .i64 n, .int .i64 lo, .int .i64 hi] w fun e w' => e = .returned (.bool (decide (lo ≤ n) && decide (n ≤ hi))) ∧ w' = w := by
  obtain ⟨R, hR⟩ : ∃ R, R = (decide (lo ≤ n) && decide (n ≤ hi)) := ⟨_, rfl⟩
  rw [← hR]
  have HR := hid hR
  clear hR
  by_cases h1 : n ≥ lo
  · by_cases h2 : n ≤ hi
    · have hr : R = true := by rw [HR.out, decide_eq_true h1, decide_eq_true h2]; rfl
      subst hr
      go_enter Tryz.func96, Tryz.ntmps96
      go_wp2
      go_ret
      exact ⟨rfl, rfl⟩
    · have hr : R = false := by rw [HR.out, decide_eq_true h1, decide_eq_false h2]; rfl
      subst hr
      go_enter Tryz.func96, Tryz.ntmps96
      go_wp2
      go_ret
      exact ⟨rfl, rfl⟩
  · have hr : R = false := by rw [HR.out, decide_eq_false h1]; rfl
    subst hr
    go_enter Tryz.func96, Tryz.ntmps96
    go_wp2
    go_ret
    exact ⟨rfl, rfl⟩
set_option maxRecDepth 100000 in
theorem whiteR_fn (c : UInt8) (w : World) : Calls Tryz.prog 51 #[.int .u8 (c.toNat : Nat)] w fun e w' => e = .returned (.bool (white c)) ∧ w' = w := by
  have hc := hid (within1_fn (c.toNat : Nat) 9 13 w)
  have hW := hid (white_nat c)
  have hl : c.toNat < 256 := c.toNat_lt
  generalize white c = W at hW ⊢
  generalize c.toNat = x at hl hW hc ⊢
  by_cases h1 : 9 ≤ x ∧ x ≤ 13
  · have hd : (decide ((9 : Int) ≤ (x : Int)) && decide ((x : Int) ≤ 13)) = true := by simp; omega
    rw [hd] at hc
    go_enter Tryz.func51, Tryz.ntmps51
    go_wp2_with fail
    (with_reducible refine hc.out.mono ?_); rintro e w1 ⟨rfl, hw⟩; subst w1
    go_wp2
    go_ret
    exact ⟨by rw [hW.out, decide_eq_true h1.1, decide_eq_true h1.2]; rfl, rfl⟩
  · have hd : (decide ((9 : Int) ≤ (x : Int)) && decide ((x : Int) ≤ 13)) = false := by
      rw [Bool.eq_false_iff]
      intro e
      simp at e
      omega
    have hn : (decide (9 ≤ x) && decide (x ≤ 13)) = false := by
      rw [Bool.eq_false_iff]
      intro e
      simp at e
      omega
    rw [hd] at hc
    by_cases h3 : x = 32
    · have h4 : ((x : Int) == 32) = true := by rw [h3]; rfl
      have H3 := hid h3
      clear h3
      go_enter Tryz.func51, Tryz.ntmps51
      go_wp2_with fail
      (with_reducible refine hc.out.mono ?_); rintro e w1 ⟨rfl, hw⟩; subst w1
      go_wp2
      go_ret
      exact ⟨by rw [hW.out, H3.out]; rfl, rfl⟩
    · have h4 : ((x : Int) == 32) = false := by simp; omega
      go_enter Tryz.func51, Tryz.ntmps51
      go_wp2_with fail
      (with_reducible refine hc.out.mono ?_); rintro e w1 ⟨rfl, hw⟩; subst w1
      go_wp2
      go_ret
      refine ⟨?_, rfl⟩
      rw [hW.out, hn, decide_eq_false h3]
      rfl
theorem pre_take (n l : Str) (_h : n.length ≤ l.length) : n.isPrefixOf l = (l.take n.length == n) := by
  rw [Bool.eq_iff_iff, List.isPrefixOf_iff_prefix, beq_iff_eq, List.prefix_iff_eq_take]
  exact ⟨fun h => h.symm, fun h => h.symm⟩
theorem pre_short (n l : Str) (h : l.length < n.length) : n.isPrefixOf l = false := by
  rw [Bool.eq_false_iff]
  intro e
  have := (List.isPrefixOf_iff_prefix.1 e).length_le
  omega
set_option maxRecDepth 100000 in
theorem stands_fn (n s l : Str) (i : Nat) (h : At s l i) (_hs : s.length ≤ 1000000000) (_hn : n.length ≤ 1000000000) (w : World) :
    Calls Tryz.prog 130 #[.string ⟨n.toArray⟩, .string ⟨s.toArray⟩, .int .i64 (i : Nat)] w fun e w' => e = .returned (.bool (n.isPrefixOf l)) ∧ w' = w := by
  have hsz : (⟨s.toArray⟩ : ByteArray).size = s.length := Lib.size_mk _
  have hnz : (⟨n.toArray⟩ : ByteArray).size = n.length := Lib.size_mk _
  have hlen := h.len
  rcases Nat.lt_or_ge l.length n.length with hlt | hge
  · rw [pre_short n l hlt]
    have h1 : ¬ ((i : Int) ≤ (s.length : Int) - (n.length : Int)) := by omega
    go_enter Tryz.func130, Tryz.ntmps130
    go_wp2
    go_ret
    exact ⟨rfl, rfl⟩
  · have h1 : (i : Int) ≤ (s.length : Int) - (n.length : Int) := by omega
    have hex : (⟨s.toArray⟩ : ByteArray).extract i (i + n.length) = ⟨(l.take n.length).toArray⟩ := by
      have h' : At s (l.take n.length ++ l.drop n.length) i := by rw [List.take_append_drop]; exact h
      have := h'.text
      rw [List.length_take, Nat.min_eq_left hge] at this
      exact this
    obtain ⟨R, hR⟩ : ∃ R, R = n.isPrefixOf l := ⟨_, rfl⟩
    rw [← hR]
    rw [pre_take n l hge] at hR
    have HR := hid hR
    clear hR
    go_enter Tryz.func130, Tryz.ntmps130
    go_wp2
    go_ret
    refine ⟨?_, rfl⟩
    rw [HR.out]
    rfl
/-- the first place, from a place on, at which a needle stands -/
def firstI (n : Str) (f : Int) : Nat → Str → Int
  | _, [] => -1
  | i, c :: t => if decide (f ≤ (i : Int)) && n.isPrefixOf (c :: t) then (i : Int) else firstI n f (i + 1) t
set_option maxRecDepth 100000 in
set_option maxHeartbeats 1000000 in
theorem first_fn (n s : Str) (f : Int) (hn : n ≠ []) (hs : s.length ≤ 1000000000) (hnl : n.length ≤ 1000000000) (w : World) :
    Calls Tryz.prog 89 #[.string ⟨n.toArray⟩, .string ⟨s.toArray⟩, .int .i64 f] w fun e w' => e = .returned (.int .i64 (firstI n f 0 s)) ∧ w' = w := by
  have hsz : (⟨s.toArray⟩ : ByteArray).size = s.length := Lib.size_mk _
  have hne : n.isEmpty = false := by simpa using hn
  obtain ⟨R, hR⟩ : ∃ R, R = firstI n f 0 s := ⟨_, rfl⟩
  rw [← hR]
  have HR := hid hR
  clear hR
  go_enter Tryz.func89, Tryz.ntmps89
  go_wp2_with fail
  go_loopg [10] s.length (fun k iv wr => ∃ (i : Nat) (rest : Str), iv = .int .i64 (i : Nat) ∧ At s rest i ∧ R = firstI n f i rest ∧ wr = w ∧ k = rest.length)
  case atStart => exact ⟨0, s, rfl, At.start s, HR.out, rfl, rfl⟩
  case round =>
    obtain ⟨i, rest, rfl, ha, hr, hw, rfl⟩ := hrel
    replace hw := hw.symm
    subst hw
    have HR2 := hid hr
    clear hr HR
    cases rest with
    | nil =>
      have hge : s.length ≤ i := ha.nil_iff.1 rfl
      go_wp2
      go_ret
      exact ⟨by rw [HR2.out]; rfl, rfl⟩
    | cons c t =>
      have hlt := ha.lt
      have hst := stands_fn n s (c :: t) i ha hs hnl w
      obtain ⟨S, hS⟩ : ∃ S, S = n.isPrefixOf (c :: t) := ⟨_, rfl⟩
      have hr2 : R = if decide (f ≤ (i : Int)) && S then (i : Int) else firstI n f (i + 1) t := by rw [HR2.out, hS]; rfl
      rw [← hS] at hst
      have HS := hid hst
      have HR3 := hid hr2
      clear hS hst hr2 HR2
      by_cases hf : f ≤ (i : Int)
      · cases S with
        | true =>
          go_wp2_with fail
          (with_reducible refine HS.out.mono ?_); rintro e w1 ⟨rfl, hw⟩; subst w1
          go_wp2
          go_ret
          refine ⟨?_, rfl⟩
          rw [HR3.out, decide_eq_true hf]
          rfl
        | false =>
          have hR4 : R = firstI n f (i + 1) t := by rw [HR3.out, Bool.and_false, if_neg (by simp)]
          have HR4 := hid hR4
          clear hR4
          go_wp2_with fail
          (with_reducible refine HS.out.mono ?_); rintro e w1 ⟨rfl, hw⟩; subst w1
          go_wp2
          go_roundg t.length
          case measure => simp
          case rel => exact ⟨i + 1, t, by go_num, ha.tail, HR4.out, rfl, rfl⟩
      · have hR4 : R = firstI n f (i + 1) t := by rw [HR3.out, decide_eq_false hf, Bool.false_and, if_neg (by simp)]
        have HR4 := hid hR4
        clear hR4
        go_wp2
        go_roundg t.length
        case measure => simp
        case rel => exact ⟨i + 1, t, by go_num, ha.tail, HR4.out, rfl, rfl⟩
end Go.Proofs.YtheiageokcgbhaaGreatDoor.Pz
/-
  The reference's First; its Quote.
-/
namespace Go.Proofs.YtheiageokcgbhaaGreatDoor.Pz
open Go.RowKit
theorem first_has (c : UInt8) : ∀ (l : Str) (i : Nat), decide (0 ≤ firstI [c] 0 i l) = l.contains c
  | [], _ => rfl
  | d :: t, i => by
    have ih := first_has c t (i + 1)
    rw [firstI, List.contains_cons, decide_eq_true (show (0 : Int) ≤ (i : Int) by omega), Bool.true_and]
    have hp : ([c] : Str).isPrefixOf (d :: t) = (c == d) := by simp [List.isPrefixOf]
    rw [hp]
    by_cases h : (c == d) = true
    · rw [if_pos h, h, Bool.true_or]
      simp
    · rw [if_neg h, ih]
      rw [Bool.not_eq_true] at h
      rw [h, Bool.false_or]
theorem first_bn : ∀ (l : Str) (i : Nat), decide (firstI [92, 10] 0 i l < 0) = !hasBN l
  | [], _ => rfl
  | c :: t, i => by
    have ih := first_bn t (i + 1)
    rw [firstI, hasBN, decide_eq_true (show (0 : Int) ≤ (i : Int) by omega), Bool.true_and]
    have hp := pre_bn c t
    rw [hp]
    by_cases h : (c == 92 && t.head? == some 10) = true
    · rw [if_pos h, h]
      simp
    · rw [if_neg h, ih]
      rw [Bool.not_eq_true] at h
      rw [h, Bool.false_or]
end Go.Proofs.YtheiageokcgbhaaGreatDoor.Pz
/-
  The reference's Quote.
-/
namespace Go.Proofs.YtheiageokcgbhaaGreatDoor.Pz
open Go.RowKit
set_option maxRecDepth 100000 in
set_option maxHeartbeats 1000000 in
theorem specialR_fn (c : UInt8) (w : World) : Calls Tryz.prog 69 #[.int .u8 (c.toNat : Nat)] w fun e w' => e = .returned (.bool (special c)) ∧ Below w.heap.size w w' := by
  have hwc := whiteR_fn c w
  have hfc := fun u => first_fn [c] [34, 92, 123, 125, 36, 91, 93, 59] 0 (by simp) (by simp) (by simp) u
  have hcv := fun u => one_back c u
  obtain ⟨I, hI⟩ : ∃ I, I = firstI [c] 0 0 [34, 92, 123, 125, 36, 91, 93, 59] := ⟨_, rfl⟩
  obtain ⟨W, hW⟩ : ∃ W, W = white c := ⟨_, rfl⟩
  obtain ⟨S, hS⟩ : ∃ S, S = special c := ⟨_, rfl⟩
  have hS2 : S = (W || decide (0 ≤ I)) := by rw [hS, special, hW, hI, first_has]
  rw [← hW] at hwc
  rw [← hS]
  rw [← hI] at hfc
  have HC := hid hfc
  have HW := hid hwc
  have HS := hid hS2
  clear hfc hwc hS hS2 hW hI
  cases W with
  | true =>
    go_enter Tryz.func69, Tryz.ntmps69
    go_wp2_with fail
    (with_reducible refine HW.out.mono ?_); rintro e w1 ⟨rfl, hw⟩; subst w1
    go_wp2
    go_ret
    exact ⟨by rw [HS.out]; rfl, Below.refl _ _⟩
  | false =>
    go_enter Tryz.func69, Tryz.ntmps69
    go_wp2_with fail
    (with_reducible refine HW.out.mono ?_); rintro e w1 ⟨rfl, hw⟩; subst w1
    go_wp2_with fail
    (with_reducible refine (HC.out _).mono ?_); rintro e w1 ⟨rfl, hw⟩; subst w1
    go_wp2
    go_ret
    exact ⟨by rw [HS.out]; rfl, (Below.refl _ _).alloc (Nat.le_refl _) _⟩
set_option maxRecDepth 100000 in
set_option maxHeartbeats 2000000 in
theorem balancedR_fn (s : Str) (hs : s.length ≤ 1000000) (w : World) :
    Calls Tryz.prog 70 #[.string ⟨s.toArray⟩] w fun e w' => e = .returned (.bool (balanced s)) ∧ w' = w := by
  have hsz : (⟨s.toArray⟩ : ByteArray).size = s.length := Lib.size_mk _
  obtain ⟨B, hB⟩ : ∃ B, B = bal 0 s := ⟨_, rfl⟩
  obtain ⟨R, hR⟩ : ∃ R, R = balanced s := ⟨_, rfl⟩
  have hc := first_fn [92, 10] s 0 (by simp) (by omega) (by simp) w
  obtain ⟨I, hI⟩ : ∃ I, I = firstI [92, 10] 0 0 s := ⟨_, rfl⟩
  have hIH := first_bn s 0
  rw [← hI] at hc hIH
  have hR2 : R = (B && decide (I < 0)) := by rw [hR, hB, hIH]; rfl
  rw [← hR]
  have HC := hid hc
  have HB := hid hB
  have HR := hid hR2
  clear hc hB hR2 hR hI hIH
  go_enter Tryz.func70, Tryz.ntmps70
  go_wp2_with fail
  go_loopg [3, 4] s.length (fun k dv iv wr => ∃ (i d : Nat) (rest : Str), dv = .int .i64 (d : Nat) ∧ iv = .int .i64 (i : Nat) ∧ At s rest i ∧ B = bal d rest ∧ wr = w ∧ k = rest.length ∧ d ≤ i)
  case atStart => exact ⟨0, 0, s, rfl, rfl, At.start s, HB.out, rfl, rfl, Nat.le_refl _⟩
  case round =>
    obtain ⟨i, d, rest, rfl, rfl, ha, hb, hw, rfl, hd⟩ := hrel
    subst hw
    have HB2 := hid hb
    clear hb HB
    have hle : i ≤ s.length := by have := ha.len; omega
    cases rest with
    | nil =>
      have hge : s.length ≤ i := ha.nil_iff.1 rfl
      have HB3 : B = (d == 0) := by rw [HB2.out]; rfl
      have HB4 := hid HB3
      clear HB3 HB2
      by_cases h0 : d = 0
      · subst h0
        go_wp2_with fail
        (with_reducible refine HC.out.mono ?_); rintro e w1 ⟨rfl, hw⟩; subst w1
        go_wp2
        go_ret
        exact ⟨by rw [HR.out, HB4.out]; rfl, rfl⟩
      · have hne : ((d : Int) == 0) = false := by rw [beq_eq_false_iff_ne]; omega
        go_wp2
        go_ret
        refine ⟨?_, rfl⟩
        rw [HR.out, HB4.out, show (d == 0) = false by simpa using h0]
        rfl
    | cons c t =>
      have hlt := ha.lt
      have hx := ha.byte
      have hlen := ha.len
      simp only [List.length_cons] at hlen
      by_cases h92 : c = 92
      · subst h92
        cases t with
        | nil =>
          have he : ((i : Int) + 1 == (s.length : Int)) = true := by rw [beq_iff_eq]; simp at hlen; omega
          go_wp2
          go_ret
          exact ⟨by rw [HR.out, HB2.out, bal_cons]; rfl, rfl⟩
        | cons e t =>
          simp only [List.length_cons] at hlen
          have he : ((i : Int) + 1 == (s.length : Int)) = false := by rw [beq_eq_false_iff_ne]; omega
          go_wp2
          go_roundg t.length
          case measure => simp; omega
          case rel => exact ⟨i + 2, d, t, rfl, by rw [Value.int.injEq]; exact ⟨rfl, by omega⟩, ha.tail.tail, by rw [HB2.out, bal_cons]; rfl, rfl, rfl, by omega⟩
      · have n92 := byte_ne 92 h92 rfl
        by_cases h123 : c = 123
        · subst h123
          go_wp2
          go_roundg t.length
          case measure => simp
          case rel => exact ⟨i + 1, d + 1, t, by go_num, by go_num, ha.tail, by rw [HB2.out, bal_cons]; rfl, rfl, rfl, by omega⟩
        · have n123 := byte_ne 123 h123 rfl
          by_cases h125 : c = 125
          · subst h125
            cases d with
            | zero =>
              go_wp2
              go_ret
              exact ⟨by rw [HR.out, HB2.out, bal_cons]; rfl, rfl⟩
            | succ d =>
              have hnn : ¬ (((d + 1 : Nat) : Int) - 1 < 0) := by omega
              go_wp2
              go_roundg t.length
              case measure => simp
              case rel => exact ⟨i + 1, d, t, by rw [Value.int.injEq]; exact ⟨rfl, by omega⟩, by go_num, ha.tail, by rw [HB2.out, bal_cons]; rfl, rfl, rfl, by omega⟩
          · have n125 := byte_ne 125 h125 rfl
            go_wp2
            go_roundg t.length
            case measure => simp
            case rel => exact ⟨i + 1, d, t, rfl, by go_num, ha.tail, by rw [HB2.out, bal_cons, if_neg (by simpa using h92), if_neg (by simpa using h123), if_neg (by simpa using h125)], rfl, rfl, by omega⟩
set_option maxRecDepth 100000 in
set_option maxHeartbeats 4000000 in
theorem slashed_fn (s : Str) (hs : s.length ≤ 1000000) (w : World) :
    Calls Tryz.prog 71 #[.string ⟨s.toArray⟩] w fun e w' => e = .returned (.string ⟨(slash true s).toArray⟩) ∧ Below w.heap.size w w' := by
  have hsz : (⟨s.toArray⟩ : ByteArray).size = s.length := Lib.size_mk _
  obtain ⟨J, hJ⟩ : ∃ J, J = slash true s := ⟨_, rfl⟩
  rw [← hJ]
  have HJ := hid hJ
  clear hJ
  go_enter Tryz.func71, Tryz.ntmps71
  go_wp2_with fail
  go_loopg [3, 7] s.length (fun k sv jv wr => ∃ (j : Nat) (done rest : Str), sv = .string ⟨done.toArray⟩ ∧ jv = .int .i64 (j : Nat) ∧ At s rest j ∧ J = done ++ slash (j == 0) rest ∧ Below w.heap.size w wr ∧ k = rest.length ∧ done.length + 2 * rest.length ≤ 2 * s.length)
  case atStart => exact ⟨0, [], s, rfl, rfl, At.start s, by rw [HJ.out]; rfl, Below.refl _ _, rfl, by simp⟩
  case round =>
    obtain ⟨j, done, rest, rfl, rfl, ha, hj, hbl, rfl, hl⟩ := hrel
    have hds : (⟨done.toArray⟩ : ByteArray).size = done.length := Lib.size_mk _
    have HD := hid hj
    clear hj
    have hle : j ≤ s.length := by have := ha.len; omega
    have hsw := hbl.size
    cases rest with
    | nil =>
      have hge : s.length ≤ j := ha.nil_iff.1 rfl
      go_wp2
      go_ret
      exact ⟨by rw [HD.out]; simp [slash], hbl⟩
    | cons c t =>
      have hlt := ha.lt
      have hx := ha.byte
      have hlen := ha.len
      have hex : (⟨s.toArray⟩ : ByteArray).extract j (j + 1) = ⟨[c].toArray⟩ := At.text (x := [c]) ha
      simp only [List.length_cons] at hlen hl
      by_cases h13 : c.toNat ≤ 13 ∧ 9 ≤ c.toNat
      · have hw : white c = true := by rw [white_nat]; simp; omega
        have hsp : special c = true := by rw [special, hw]; rfl
        rcases special_split hsp with rfl | rfl | rfl | rfl | rfl | h14
        · have hk : (⟨#[116, 110, 118, 102, 114]⟩ : ByteArray).extract 0 1 = ⟨#[116]⟩ := by decide
          have k1 : IntKind.u8.wrap 0 = 0 := rfl
          have k2 : IntKind.u8.wrap 1 = 1 := rfl
          go_wp2
          go_quiet (fail)
          go_wp2
          go_roundg t.length
          case measure => simp
          case rel => exact ⟨j + 1, done ++ [92, 116], t, by rw [Value.string.injEq, ByteArray.ext_iff]; simp, by go_num, ha.tail, by rw [HD.out, slash_yes t (.inl hsp)]; simp [slash1], below_drewN hbl _, rfl, by simp; omega⟩
        · have hk : (⟨#[116, 110, 118, 102, 114]⟩ : ByteArray).extract 1 2 = ⟨#[110]⟩ := by decide
          have k1 : IntKind.u8.wrap 1 = 1 := rfl
          have k2 : IntKind.u8.wrap 2 = 2 := rfl
          go_wp2
          go_quiet (fail)
          go_wp2
          go_roundg t.length
          case measure => simp
          case rel => exact ⟨j + 1, done ++ [92, 110], t, by rw [Value.string.injEq, ByteArray.ext_iff]; simp, by go_num, ha.tail, by rw [HD.out, slash_yes t (.inl hsp)]; simp [slash1], below_drewN hbl _, rfl, by simp; omega⟩
        · have hk : (⟨#[116, 110, 118, 102, 114]⟩ : ByteArray).extract 2 3 = ⟨#[118]⟩ := by decide
          have k1 : IntKind.u8.wrap 2 = 2 := rfl
          have k2 : IntKind.u8.wrap 3 = 3 := rfl
          go_wp2
          go_quiet (fail)
          go_wp2
          go_roundg t.length
          case measure => simp
          case rel => exact ⟨j + 1, done ++ [92, 118], t, by rw [Value.string.injEq, ByteArray.ext_iff]; simp, by go_num, ha.tail, by rw [HD.out, slash_yes t (.inl hsp)]; simp [slash1], below_drewN hbl _, rfl, by simp; omega⟩
        · have hk : (⟨#[116, 110, 118, 102, 114]⟩ : ByteArray).extract 3 4 = ⟨#[102]⟩ := by decide
          have k1 : IntKind.u8.wrap 3 = 3 := rfl
          have k2 : IntKind.u8.wrap 4 = 4 := rfl
          go_wp2
          go_quiet (fail)
          go_wp2
          go_roundg t.length
          case measure => simp
          case rel => exact ⟨j + 1, done ++ [92, 102], t, by rw [Value.string.injEq, ByteArray.ext_iff]; simp, by go_num, ha.tail, by rw [HD.out, slash_yes t (.inl hsp)]; simp [slash1], below_drewN hbl _, rfl, by simp; omega⟩
        · have hk : (⟨#[116, 110, 118, 102, 114]⟩ : ByteArray).extract 4 5 = ⟨#[114]⟩ := by decide
          have k1 : IntKind.u8.wrap 4 = 4 := rfl
          have k2 : IntKind.u8.wrap 5 = 5 := rfl
          go_wp2
          go_quiet (fail)
          go_wp2
          go_roundg t.length
          case measure => simp
          case rel => exact ⟨j + 1, done ++ [92, 114], t, by rw [Value.string.injEq, ByteArray.ext_iff]; simp, by go_num, ha.tail, by rw [HD.out, slash_yes t (.inl hsp)]; simp [slash1], below_drewN hbl _, rfl, by simp; omega⟩
        · omega
      · have hn : ¬ ((9 : Int) ≤ (c.toNat : Int) ∧ (c.toNat : Int) ≤ 13) := by omega
        have hsp := specialR_fn c wr
        obtain ⟨S, hS⟩ : ∃ S, special c = S := ⟨_, rfl⟩
        rw [hS] at hsp
        have HQ := hid hS
        have HS := hid hsp
        clear hS hsp
        have hr : ∀ (h : special c = true ∨ ((j == 0) = true ∧ c = 35)), slash1 c = c := by
          rintro (h | ⟨_, rfl⟩)
          · rcases special_split h with rfl | rfl | rfl | rfl | rfl | h14
            · exact absurd ⟨by decide, by decide⟩ h13
            · exact absurd ⟨by decide, by decide⟩ h13
            · exact absurd ⟨by decide, by decide⟩ h13
            · exact absurd ⟨by decide, by decide⟩ h13
            · exact absurd ⟨by decide, by decide⟩ h13
            · exact slash1_same h14
          · rfl
        have HR := hid hr
        clear hr
        have h2 : ((9 : Int) ≤ (c.toNat : Int) ∧ ¬ (c.toNat : Int) ≤ 13) ∨ ¬ (9 : Int) ≤ (c.toNat : Int) := by omega
        clear hn
        cases S with
        | true =>
          rcases h2 with ⟨h9, h13'⟩ | h9
          · go_wp2_with fail
            (with_reducible refine HS.out.mono ?_); rintro e w1 ⟨rfl, hb1⟩
            go_wp2
            go_roundg t.length
            case measure => simp
            case rel => exact ⟨j + 1, done ++ [92, c], t, by rw [Value.string.injEq, ByteArray.ext_iff]; simp, by go_num, ha.tail, by rw [HD.out, slash_yes (b := (j == 0)) t (.inl HQ.out), HR.out (.inl HQ.out)]; simp, hbl.trans (hb1.mono hsw), rfl, by simp; omega⟩
          · go_wp2_with fail
            (with_reducible refine HS.out.mono ?_); rintro e w1 ⟨rfl, hb1⟩
            go_wp2
            go_roundg t.length
            case measure => simp
            case rel => exact ⟨j + 1, done ++ [92, c], t, by rw [Value.string.injEq, ByteArray.ext_iff]; simp, by go_num, ha.tail, by rw [HD.out, slash_yes (b := (j == 0)) t (.inl HQ.out), HR.out (.inl HQ.out)]; simp, hbl.trans (hb1.mono hsw), rfl, by simp; omega⟩
        | false =>
          rcases h2 with ⟨h9, h13'⟩ | h9
          · by_cases h0 : j = 0
            · subst h0
              by_cases h35 : c = 35
              · subst h35
                replace HS := hid (show Calls Tryz.prog 69 #[.int .u8 35] wr _ from HS.out)
                go_wp2_with fail
                (with_reducible refine HS.out.mono ?_); rintro e w1 ⟨rfl, hb1⟩
                go_wp2
                go_roundg t.length
                case measure => simp
                case rel => exact ⟨0 + 1, done ++ [92, 35], t, by rw [Value.string.injEq, ByteArray.ext_iff]; simp, by go_num, ha.tail, by rw [HD.out, slash_yes (b := ((0 : Nat) == 0)) t (.inr ⟨rfl, rfl⟩), show slash1 35 = 35 from rfl]; simp, hbl.trans (hb1.mono hsw), rfl, by simp; omega⟩
              · have n35 := byte_ne 35 h35 rfl
                go_wp2_with fail
                (with_reducible refine HS.out.mono ?_); rintro e w1 ⟨rfl, hb1⟩
                go_wp2
                go_roundg t.length
                case measure => simp
                case rel => exact ⟨0 + 1, done ++ [c], t, by rw [Value.string.injEq, ByteArray.ext_iff]; simp, by go_num, ha.tail, by rw [HD.out, slash_no t HQ.out (fun _ => h35)]; simp, hbl.trans (hb1.mono hsw), rfl, by simp; omega⟩
            · have hj0 : ((j : Int) == 0) = false := by rw [beq_eq_false_iff_ne]; omega
              go_wp2_with fail
              (with_reducible refine HS.out.mono ?_); rintro e w1 ⟨rfl, hb1⟩
              go_wp2
              go_roundg t.length
              case measure => simp
              case rel => exact ⟨j + 1, done ++ [c], t, by rw [Value.string.injEq, ByteArray.ext_iff]; simp, by go_num, ha.tail, by rw [HD.out, slash_no t HQ.out (fun h => absurd (by simpa using h) h0)]; simp, hbl.trans (hb1.mono hsw), rfl, by simp; omega⟩
          · by_cases h0 : j = 0
            · subst h0
              by_cases h35 : c = 35
              · subst h35
                exact absurd (show (9 : Int) ≤ ((35 : UInt8).toNat : Int) by decide) h9
              · have n35 := byte_ne 35 h35 rfl
                go_wp2_with fail
                (with_reducible refine HS.out.mono ?_); rintro e w1 ⟨rfl, hb1⟩
                go_wp2
                go_roundg t.length
                case measure => simp
                case rel => exact ⟨0 + 1, done ++ [c], t, by rw [Value.string.injEq, ByteArray.ext_iff]; simp, by go_num, ha.tail, by rw [HD.out, slash_no t HQ.out (fun _ => h35)]; simp, hbl.trans (hb1.mono hsw), rfl, by simp; omega⟩
            · have hj0 : ((j : Int) == 0) = false := by rw [beq_eq_false_iff_ne]; omega
              go_wp2_with fail
              (with_reducible refine HS.out.mono ?_); rintro e w1 ⟨rfl, hb1⟩
              go_wp2
              go_roundg t.length
              case measure => simp
              case rel => exact ⟨j + 1, done ++ [c], t, by rw [Value.string.injEq, ByteArray.ext_iff]; simp, by go_num, ha.tail, by rw [HD.out, slash_no t HQ.out (fun h => absurd (by simpa using h) h0)]; simp, hbl.trans (hb1.mono hsw), rfl, by simp; omega⟩
set_option maxRecDepth 100000 in
set_option maxHeartbeats 4000000 in
theorem quoteR_fn (s : Str) (hs : s.length ≤ 1000000) (w : World) :
    Calls Tryz.prog 29 #[.string ⟨s.toArray⟩] w fun e w' => e = .returned (.string ⟨(quote s).toArray⟩) ∧ Below w.heap.size w w' := by
  cases s with
  | nil =>
    go_enter Tryz.func29, Tryz.ntmps29
    go_wp2
    go_ret
    exact ⟨rfl, Below.refl _ _⟩
  | cons c0 t0 =>
  have hsz : (⟨(c0 :: t0).toArray⟩ : ByteArray).size = (c0 :: t0).length := Lib.size_mk _
  have hx0 : ∀ h, (⟨(c0 :: t0).toArray⟩ : ByteArray)[0]'h = c0 := fun h => rfl
  have hemp : (c0 :: t0).isEmpty = false := rfl
  have hpos : 0 < (c0 :: t0).length := by simp
  have hst : At (c0 :: t0) (c0 :: t0) 0 := At.start _
  have hp2 : plainW (c0 :: t0) = (((c0.toNat : Int) != 35) && (c0 :: t0).all fun c => !special c) := by
    rw [show ((c0.toNat : Int) != 35) = (c0 != 35) by
      by_cases h : c0 = 35
      · subst h; rfl
      · rw [byte_ne' 35 h rfl]; exact (show (c0 != 35) = true by simpa using h).symm]
    rfl
  have hq : quote (c0 :: t0) = if plainW (c0 :: t0) = true then c0 :: t0 else if balanced (c0 :: t0) = true then 123 :: (c0 :: t0 ++ [125]) else slash true (c0 :: t0) := by
    unfold quote
    rw [if_neg (by simp)]
  generalize c0 :: t0 = s at *
  obtain ⟨R, hR⟩ : ∃ R, R = quote s := ⟨_, rfl⟩
  rw [← hR] at hq ⊢
  have hcat := cat3 s
  have HP := hid hp2
  have HQ := hid hq
  have HJ := hid hcat
  clear hp2 hq hR hcat
  go_enter Tryz.func29, Tryz.ntmps29
  go_wp2_with fail
  go_loopg [3, 12] s.length (fun k bv iv wr => ∃ (i : Nat) (b : Bool) (rest : Str), bv = .bool b ∧ iv = .int .i64 (i : Nat) ∧ At s rest i ∧ plainW s = (b && rest.all fun c => !special c) ∧ Below w.heap.size w wr ∧ k = rest.length)
  case atStart => exact ⟨0, ((c0.toNat : Int) != 35), s, rfl, rfl, hst, HP.out, Below.refl _ _, rfl⟩
  case round =>
    obtain ⟨i, b, rest, rfl, rfl, ha, hb, hbl, rfl⟩ := hrel
    have HB2 := hid hb
    clear hb HP hx0
    have hsw := hbl.size
    have hle : i ≤ s.length := by have := ha.len; omega
    cases rest with
    | nil =>
      have hge : s.length ≤ i := ha.nil_iff.1 rfl
      cases b with
      | true =>
        have hR2 : R = s := by rw [HQ.out, if_pos (show plainW s = true from HB2.out)]
        have HR := hid hR2
        clear hR2
        go_wp2
        go_ret
        rw [HR.out]
        exact ⟨rfl, hbl⟩
      | false =>
        have hbc := balancedR_fn s hs wr
        have hn : ¬ plainW s = true := by rw [HB2.out]; simp
        cases hbal : balanced s with
        | true =>
          rw [hbal] at hbc
          have hR2 : R = 123 :: (s ++ [125]) := by rw [HQ.out, if_neg hn, if_pos hbal]
          have HC := hid hbc
          have HR := hid hR2
          clear hR2 hbc hn hbal
          go_wp2_with fail
          (with_reducible refine HC.out.mono ?_); rintro e w1 ⟨rfl, hw⟩; subst w1
          go_wp2
          go_ret
          rw [HR.out]
          exact ⟨rfl, hbl⟩
        | false =>
          rw [hbal] at hbc
          have hR2 : R = slash true s := by rw [HQ.out, if_neg hn, if_neg (by rw [hbal]; simp)]
          have hsl := slashed_fn s hs wr
          rw [← hR2] at hsl
          have HC := hid hbc
          have HS := hid hsl
          clear hR2 hbc hn hbal hsl
          go_wp2_with fail
          (with_reducible refine HC.out.mono ?_); rintro e w1 ⟨rfl, hw⟩; subst w1
          go_wp2_with fail
          (with_reducible refine HS.out.mono ?_); rintro e w1 ⟨rfl, hb1⟩
          go_wp2
          go_ret
          exact ⟨rfl, hbl.trans (hb1.mono hsw)⟩
    | cons c t =>
      have hlt := ha.lt
      have hx := ha.byte
      have hlen := ha.len
      cases b with
      | false =>
        have hq : plainW s = (false && t.all fun c => !special c) := by rw [HB2.out]; rfl
        have HQ2 := hid hq
        clear hq HB2
        go_wp2
        go_roundg t.length
        case measure => simp
        case rel => exact ⟨i + 1, false, t, rfl, by go_num, ha.tail, HQ2.out, hbl, rfl⟩
      | true =>
        have hsp := specialR_fn c wr
        have hq := HB2.out
        rw [List.all_cons, Bool.true_and] at hq
        obtain ⟨S, hS⟩ : ∃ S, S = special c := ⟨_, rfl⟩
        rw [← hS] at hsp hq
        have HS := hid hsp
        have HQ2 := hid hq
        clear hS hsp hq HB2
        go_wp2_with fail
        (with_reducible refine HS.out.mono ?_); rintro e w1 ⟨rfl, hb1⟩
        go_wp2
        go_roundg t.length
        case measure => simp
        case rel => exact ⟨i + 1, !S, t, rfl, by go_num, ha.tail, HQ2.out, hbl.trans (hb1.mono hsw), rfl⟩
end Go.Proofs.YtheiageokcgbhaaGreatDoor.Pz
/-
  The reference 06: what its walks rest on.
-/
namespace Go.Proofs.YtheiageokcgbhaaGreatDoor.Pz
open Go.RowKit
end Go.Proofs.YtheiageokcgbhaaGreatDoor.Pz
/-
  The reference's small, digit, Unescape.
-/
namespace Go.Proofs.YtheiageokcgbhaaGreatDoor.Pz
open Go.RowKit
set_option maxRecDepth 100000 in
theorem small_fn (x r : Nat) (hl : x < 256) (hr : Hid (r = if 65 ≤ x ∧ x ≤ 90 then x + 32 else x)) (w : World) : Calls Tryz.prog 151 #[.int .u8 (x : Nat)] w fun e w' => e = .returned (.int .u8 (r : Nat)) ∧ w' = w := by
  have hc := hid (within1_fn (x : Nat) 65 90 w)
  by_cases h1 : 65 ≤ x ∧ x ≤ 90
  · have hd : (decide ((65 : Int) ≤ (x : Int)) && decide ((x : Int) ≤ 90)) = true := by simp; omega
    have hz : IntKind.u8.wrap ((x : Int) + 32) = ((x + 32 : Nat) : Int) := by rw [← u8_wrap (x + 32) (by omega)]; congr 1
    rw [hd] at hc
    go_enter Tryz.func151, Tryz.ntmps151
    go_wp2_with fail
    (with_reducible refine hc.out.mono ?_); rintro e w1 ⟨rfl, hw⟩; subst w1
    go_wp2
    go_ret
    exact ⟨ret_i (by rw [hr.out, if_pos h1]; omega), rfl⟩
  · have hd : (decide ((65 : Int) ≤ (x : Int)) && decide ((x : Int) ≤ 90)) = false := by
      rw [Bool.eq_false_iff]
      intro e
      simp at e
      omega
    rw [hd] at hc
    go_enter Tryz.func151, Tryz.ntmps151
    go_wp2_with fail
    (with_reducible refine hc.out.mono ?_); rintro e w1 ⟨rfl, hw⟩; subst w1
    go_wp2
    go_ret
    exact ⟨ret_i (by rw [hr.out, if_neg h1]), rfl⟩
set_option maxRecDepth 100000 in
set_option maxHeartbeats 1000000 in
theorem digitR_fn (c : UInt8) (b : Nat) (hb : b ≤ 16) (hb0 : 0 < b) (w : World) : Calls Tryz.prog 134 #[.int .u8 c.toNat, .int .i64 (b : Nat)] w fun e w' => e = .returned (.int .i64 (if dig16 c < b then (dig16 c : Int) else -1)) ∧ w' = w := by
  have hW := hexv_nat c
  have hl : c.toNat < 256 := c.toNat_lt
  obtain ⟨R, hR⟩ : ∃ R : Int, R = if dig16 c < b then (dig16 c : Int) else -1 := ⟨_, rfl⟩
  rw [← hR]
  rw [hW] at hR
  clear hW
  have HR := hid hR
  clear hR
  generalize c.toNat = x at hl HR ⊢
  obtain ⟨y, hy⟩ : ∃ y, y = if 65 ≤ x ∧ x ≤ 90 then x + 32 else x := ⟨_, rfl⟩
  have hy2 : y < 256 := by rw [hy]; split <;> omega
  have hY := hid hy
  have hs := hid (small_fn x y hl hY w)
  have hw1 := hid (within1_fn (x : Nat) 48 57 w)
  have hw2 := hid (within1_fn (y : Nat) 97 122 w)
  have hb1 : (0 : Int) < (b : Int) := by omega
  clear hy
  by_cases h1 : 48 ≤ x ∧ x ≤ 57
  · have hd : (decide ((48 : Int) ≤ (x : Int)) && decide ((x : Int) ≤ 57)) = true := by simp; omega
    have hz : IntKind.u8.wrap ((x : Int) - 48) = ((x - 48 : Nat) : Int) := by rw [← u8_wrap (x - 48) (by omega)]; congr 1; omega
    have hr : R = if x - 48 < b then ((x - 48 : Nat) : Int) else -1 := by rw [HR.out, if_pos h1]
    rw [hd] at hw1
    obtain ⟨v, hv⟩ : ∃ v, v = x - 48 := ⟨_, rfl⟩
    rw [← hv] at hz hr
    have hvl : v ≤ 9 := by omega
    have HR2 := hid hr
    clear hr hv
    by_cases hvb : v < b
    · have hg : ¬ ((b : Int) ≤ (v : Int)) := by omega
      go_enter Tryz.func134, Tryz.ntmps134
      go_wp2_with fail
      (with_reducible refine hw1.out.mono ?_); rintro e w1 ⟨rfl, hw⟩; subst w1
      go_wp2
      go_ret
      exact ⟨by rw [HR2.out, if_pos hvb]; rfl, rfl⟩
    · have hg : (b : Int) ≤ (v : Int) := by omega
      go_enter Tryz.func134, Tryz.ntmps134
      go_wp2_with fail
      (with_reducible refine hw1.out.mono ?_); rintro e w1 ⟨rfl, hw⟩; subst w1
      go_wp2
      go_ret
      exact ⟨by rw [HR2.out, if_neg hvb]; rfl, rfl⟩
  · have hd : (decide ((48 : Int) ≤ (x : Int)) && decide ((x : Int) ≤ 57)) = false := by
      rw [Bool.eq_false_iff]
      intro e
      simp at e
      omega
    rw [hd] at hw1
    by_cases h2 : 97 ≤ y ∧ y ≤ 122
    · have hd2 : (decide ((97 : Int) ≤ (y : Int)) && decide ((y : Int) ≤ 122)) = true := by simp; omega
      have hz : IntKind.u8.wrap ((y : Int) - 97) = ((y - 97 : Nat) : Int) := by rw [← u8_wrap (y - 97) (by omega)]; congr 1; omega
      rw [hd2] at hw2
      have hr : R = if y - 97 + 10 < b then ((y - 97 : Nat) : Int) + 10 else -1 := by
        rw [HR.out, if_neg h1]
        have := hY.out
        split at this <;> (repeat' split) <;> omega
      obtain ⟨v, hv⟩ : ∃ v, v = y - 97 := ⟨_, rfl⟩
      rw [← hv] at hz hr
      have hvl : v ≤ 25 := by omega
      have HR2 := hid hr
      clear hr hv
      by_cases hvb : v + 10 < b
      · have hg : ¬ ((b : Int) ≤ (v : Int) + 10) := by omega
        go_enter Tryz.func134, Tryz.ntmps134
        go_wp2_with fail
        (with_reducible refine hw1.out.mono ?_); rintro e w1 ⟨rfl, hw⟩; subst w1
        go_wp2_with fail
        (with_reducible refine hs.out.mono ?_); rintro e w1 ⟨rfl, hw⟩; subst w1
        go_wp2_with fail
        (with_reducible refine hw2.out.mono ?_); rintro e w1 ⟨rfl, hw⟩; subst w1
        go_wp2_with fail
        (with_reducible refine hs.out.mono ?_); rintro e w1 ⟨rfl, hw⟩; subst w1
        go_wp2
        go_ret
        exact ⟨by rw [HR2.out, if_pos hvb]; rfl, rfl⟩
      · have hg : (b : Int) ≤ (v : Int) + 10 := by omega
        go_enter Tryz.func134, Tryz.ntmps134
        go_wp2_with fail
        (with_reducible refine hw1.out.mono ?_); rintro e w1 ⟨rfl, hw⟩; subst w1
        go_wp2_with fail
        (with_reducible refine hs.out.mono ?_); rintro e w1 ⟨rfl, hw⟩; subst w1
        go_wp2_with fail
        (with_reducible refine hw2.out.mono ?_); rintro e w1 ⟨rfl, hw⟩; subst w1
        go_wp2_with fail
        (with_reducible refine hs.out.mono ?_); rintro e w1 ⟨rfl, hw⟩; subst w1
        go_wp2
        go_ret
        exact ⟨by rw [HR2.out, if_neg hvb]; rfl, rfl⟩
    · have hd2 : (decide ((97 : Int) ≤ (y : Int)) && decide ((y : Int) ≤ 122)) = false := by
        rw [Bool.eq_false_iff]
        intro e
        simp at e
        omega
      rw [hd2] at hw2
      have hr : R = -1 := by
        rw [HR.out, if_neg h1]
        have := hY.out
        split at this <;> (repeat' split) <;> omega
      have HR2 := hid hr
      clear hr
      have hg : ¬ ((b : Int) ≤ -1) := by omega
      go_enter Tryz.func134, Tryz.ntmps134
      go_wp2_with fail
      (with_reducible refine hw1.out.mono ?_); rintro e w1 ⟨rfl, hw⟩; subst w1
      go_wp2_with fail
      (with_reducible refine hs.out.mono ?_); rintro e w1 ⟨rfl, hw⟩; subst w1
      go_wp2_with fail
      (with_reducible refine hw2.out.mono ?_); rintro e w1 ⟨rfl, hw⟩; subst w1
      go_wp2
      go_ret
      rw [HR2.out]
      exact ⟨rfl, rfl⟩
theorem named_first (c : UInt8) : firstI [c] 0 0 [97, 98, 102, 110, 114, 116, 118] = match named1 c with
    | some x => (if x.toNat = 7 then 0 else if x.toNat = 8 then 1 else if x.toNat = 12 then 2 else if x.toNat = 10 then 3 else if x.toNat = 13 then 4 else if x.toNat = 9 then 5 else 6)
    | none => -1 := by
  unfold named1
  by_cases h1 : c = 97
  · subst h1; rfl
  by_cases h2 : c = 98
  · subst h2; rfl
  by_cases h3 : c = 116
  · subst h3; rfl
  by_cases h4 : c = 110
  · subst h4; rfl
  by_cases h5 : c = 118
  · subst h5; rfl
  by_cases h6 : c = 102
  · subst h6; rfl
  by_cases h7 : c = 114
  · subst h7; rfl
  simp [firstI, List.isPrefixOf, h1, h2, h3, h4, h5, h6, h7]
theorem unescNo_fn (c : UInt8) (t : Str) (_ht : t.length ≤ 1000000) (h : c ≠ 92) (w : World) :
    Calls Tryz.prog 98 #[.string ⟨(c :: t).toArray⟩] w fun e w' => e = .returned (.tuple #[.string ⟨#[]⟩, .int .i64 0]) ∧ w' = w := by
  have hsz : (⟨(c :: t).toArray⟩ : ByteArray).size = t.length + 1 := by rw [Lib.size_mk]; simp
  have hx : ∀ h, (⟨(c :: t).toArray⟩ : ByteArray)[0]'h = c := fun h => rfl
  have hb := byte_ne' 92 h rfl
  go_enter Tryz.func98, Tryz.ntmps98
  go_wp2
  go_ret2
  exact ⟨rfl, rfl⟩
set_option maxRecDepth 100000 in
set_option maxHeartbeats 8000000 in
theorem unescR_fn (t : Str) (ht : t.length ≤ 1000000) (w : World) :
    Calls Tryz.prog 98 #[.string ⟨(92 :: t).toArray⟩] w fun e w' => e = .returned (.tuple #[.string ⟨(unesc t).1.toArray⟩, .int .i64 (((t.length + 1 - (unesc t).2.length : Nat) : Nat) : Int)]) ∧ Below w.heap.size w w' := by
  cases t with
  | nil =>
    go_enter Tryz.func98, Tryz.ntmps98
    go_wp2
    go_ret2
    exact ⟨rfl, Below.refl _ _⟩
  | cons c t =>
    have hsz : (⟨(92 :: c :: t).toArray⟩ : ByteArray).size = t.length + 2 := by rw [Lib.size_mk]; simp
    have hx : ∀ h, (⟨(92 :: c :: t).toArray⟩ : ByteArray)[0]'h = 92 := fun h => rfl
    have hx1 : ∀ h, (⟨(92 :: c :: t).toArray⟩ : ByteArray)[1]'h = c := fun h => rfl
    have hs12 : (⟨(92 :: c :: t).toArray⟩ : ByteArray).extract 1 2 = ⟨[c].toArray⟩ := by rw [Lib.extract_mk]; simp
    have ht' : t.length ≤ 999999 := by simpa using ht
    have hf : ∀ u, Calls Tryz.prog 89 #[.string ⟨[c].toArray⟩, .string ⟨#[97, 98, 102, 110, 114, 116, 118]⟩, .int .i64 0] u fun e w' => e = .returned (.int .i64 (firstI [c] 0 0 [97, 98, 102, 110, 114, 116, 118])) ∧ w' = u := fun u => first_fn [c] [97, 98, 102, 110, 114, 116, 118] 0 (by simp) (by simp) (by simp) u
    rw [named_first] at hf
    clear ht
    show Calls _ _ _ _ fun e w' => e = .returned (.tuple #[.string ⟨(unesc1 c t).1.toArray⟩, .int .i64 (((t.length + 1 + 1 - (unesc1 c t).2.length : Nat) : Nat) : Int)]) ∧ Below w.heap.size w w'
    obtain ⟨r, hr⟩ : ∃ r, r = unesc1 c t := ⟨_, rfl⟩
    rw [← hr]
    by_cases hn : (named1 c).isSome = true
    · have hcs : c = 97 ∨ c = 98 ∨ c = 116 ∨ c = 110 ∨ c = 118 ∨ c = 102 ∨ c = 114 := by
        unfold named1 at hn
        by_cases h1 : c = 97
        · exact .inl h1
        by_cases h2 : c = 98
        · exact .inr (.inl h2)
        by_cases h3 : c = 116
        · exact .inr (.inr (.inl h3))
        by_cases h4 : c = 110
        · exact .inr (.inr (.inr (.inl h4)))
        by_cases h5 : c = 118
        · exact .inr (.inr (.inr (.inr (.inl h5))))
        by_cases h6 : c = 102
        · exact .inr (.inr (.inr (.inr (.inr (.inl h6)))))
        by_cases h7 : c = 114
        · exact .inr (.inr (.inr (.inr (.inr (.inr h7)))))
        simp [h1, h2, h3, h4, h5, h6, h7] at hn
      rcases hcs with rfl | rfl | rfl | rfl | rfl | rfl | rfl
      · have hr2 : r = ([7], t) := by rw [hr]; rfl
        subst hr2
        have hf2 := hid (show ∀ u, Calls Tryz.prog 89 #[.string ⟨#[97]⟩, .string ⟨#[97, 98, 102, 110, 114, 116, 118]⟩, .int .i64 0] u fun e w' => e = .returned (.int .i64 0) ∧ w' = u from hf)
        have hk : (⟨#[7, 8, 12, 10, 13, 9, 11]⟩ : ByteArray).extract 0 1 = ⟨#[7]⟩ := by decide
        clear hf hr hn
        go_enter Tryz.func98, Tryz.ntmps98
        go_wp2_with fail
        (with_reducible refine (hf2.out _).mono ?_); rintro e w1 ⟨rfl, hw⟩; subst w1
        go_wp2
        go_ret2
        exact ⟨ret_si rfl (by omega), Below.refl _ _⟩
      · have hr2 : r = ([8], t) := by rw [hr]; rfl
        subst hr2
        have hf2 := hid (show ∀ u, Calls Tryz.prog 89 #[.string ⟨#[98]⟩, .string ⟨#[97, 98, 102, 110, 114, 116, 118]⟩, .int .i64 0] u fun e w' => e = .returned (.int .i64 1) ∧ w' = u from hf)
        have hk : (⟨#[7, 8, 12, 10, 13, 9, 11]⟩ : ByteArray).extract 1 2 = ⟨#[8]⟩ := by decide
        clear hf hr hn
        go_enter Tryz.func98, Tryz.ntmps98
        go_wp2_with fail
        (with_reducible refine (hf2.out _).mono ?_); rintro e w1 ⟨rfl, hw⟩; subst w1
        go_wp2
        go_ret2
        exact ⟨ret_si rfl (by omega), Below.refl _ _⟩
      · have hr2 : r = ([9], t) := by rw [hr]; rfl
        subst hr2
        have hf2 := hid (show ∀ u, Calls Tryz.prog 89 #[.string ⟨#[116]⟩, .string ⟨#[97, 98, 102, 110, 114, 116, 118]⟩, .int .i64 0] u fun e w' => e = .returned (.int .i64 5) ∧ w' = u from hf)
        have hk : (⟨#[7, 8, 12, 10, 13, 9, 11]⟩ : ByteArray).extract 5 6 = ⟨#[9]⟩ := by decide
        clear hf hr hn
        go_enter Tryz.func98, Tryz.ntmps98
        go_wp2_with fail
        (with_reducible refine (hf2.out _).mono ?_); rintro e w1 ⟨rfl, hw⟩; subst w1
        go_wp2
        go_ret2
        exact ⟨ret_si rfl (by omega), Below.refl _ _⟩
      · have hr2 : r = ([10], t) := by rw [hr]; rfl
        subst hr2
        have hf2 := hid (show ∀ u, Calls Tryz.prog 89 #[.string ⟨#[110]⟩, .string ⟨#[97, 98, 102, 110, 114, 116, 118]⟩, .int .i64 0] u fun e w' => e = .returned (.int .i64 3) ∧ w' = u from hf)
        have hk : (⟨#[7, 8, 12, 10, 13, 9, 11]⟩ : ByteArray).extract 3 4 = ⟨#[10]⟩ := by decide
        clear hf hr hn
        go_enter Tryz.func98, Tryz.ntmps98
        go_wp2_with fail
        (with_reducible refine (hf2.out _).mono ?_); rintro e w1 ⟨rfl, hw⟩; subst w1
        go_wp2
        go_ret2
        exact ⟨ret_si rfl (by omega), Below.refl _ _⟩
      · have hr2 : r = ([11], t) := by rw [hr]; rfl
        subst hr2
        have hf2 := hid (show ∀ u, Calls Tryz.prog 89 #[.string ⟨#[118]⟩, .string ⟨#[97, 98, 102, 110, 114, 116, 118]⟩, .int .i64 0] u fun e w' => e = .returned (.int .i64 6) ∧ w' = u from hf)
        have hk : (⟨#[7, 8, 12, 10, 13, 9, 11]⟩ : ByteArray).extract 6 7 = ⟨#[11]⟩ := by decide
        clear hf hr hn
        go_enter Tryz.func98, Tryz.ntmps98
        go_wp2_with fail
        (with_reducible refine (hf2.out _).mono ?_); rintro e w1 ⟨rfl, hw⟩; subst w1
        go_wp2
        go_ret2
        exact ⟨ret_si rfl (by omega), Below.refl _ _⟩
      · have hr2 : r = ([12], t) := by rw [hr]; rfl
        subst hr2
        have hf2 := hid (show ∀ u, Calls Tryz.prog 89 #[.string ⟨#[102]⟩, .string ⟨#[97, 98, 102, 110, 114, 116, 118]⟩, .int .i64 0] u fun e w' => e = .returned (.int .i64 2) ∧ w' = u from hf)
        have hk : (⟨#[7, 8, 12, 10, 13, 9, 11]⟩ : ByteArray).extract 2 3 = ⟨#[12]⟩ := by decide
        clear hf hr hn
        go_enter Tryz.func98, Tryz.ntmps98
        go_wp2_with fail
        (with_reducible refine (hf2.out _).mono ?_); rintro e w1 ⟨rfl, hw⟩; subst w1
        go_wp2
        go_ret2
        exact ⟨ret_si rfl (by omega), Below.refl _ _⟩
      · have hr2 : r = ([13], t) := by rw [hr]; rfl
        subst hr2
        have hf2 := hid (show ∀ u, Calls Tryz.prog 89 #[.string ⟨#[114]⟩, .string ⟨#[97, 98, 102, 110, 114, 116, 118]⟩, .int .i64 0] u fun e w' => e = .returned (.int .i64 4) ∧ w' = u from hf)
        have hk : (⟨#[7, 8, 12, 10, 13, 9, 11]⟩ : ByteArray).extract 4 5 = ⟨#[13]⟩ := by decide
        clear hf hr hn
        go_enter Tryz.func98, Tryz.ntmps98
        go_wp2_with fail
        (with_reducible refine (hf2.out _).mono ?_); rintro e w1 ⟨rfl, hw⟩; subst w1
        go_wp2
        go_ret2
        exact ⟨ret_si rfl (by omega), Below.refl _ _⟩
    · have hn0 : named1 c = none := by simpa using hn
      rw [hn0] at hf
      dsimp only at hf
      have HF := hid hf
      unfold unesc1 at hr
      rw [hn0] at hr
      dsimp only at hr
      clear hf hn hn0
      have hatt : At (92 :: c :: t) t 2 := (At.start (92 :: c :: t)).tail.tail
      have hatc : At (92 :: c :: t) (c :: t) 1 := (At.start (92 :: c :: t)).tail
      by_cases h10 : c = 10
      · subst h10
        rw [if_pos (by decide)] at hr
        subst hr
        replace HF := hid (show ∀ u, Calls Tryz.prog 89 #[.string ⟨#[10]⟩, .string ⟨#[97, 98, 102, 110, 114, 116, 118]⟩, .int .i64 0] u fun e w' => e = .returned (.int .i64 (-1)) ∧ w' = u from HF.out)
        clear hatc
        go_enter Tryz.func98, Tryz.ntmps98
        go_wp2_with fail
        (with_reducible refine (HF.out _).mono ?_); rintro e w1 ⟨rfl, hw⟩; subst w1
        go_wp2_with fail
        go_loopg [3] t.length (fun k nv wr => ∃ (n : Nat) (rest : Str), nv = .int .i64 (n : Nat) ∧ At (92 :: 10 :: t) rest n ∧ blanks0 rest = blanks0 t ∧ wr = w ∧ k = rest.length)
        case atStart => exact ⟨2, t, rfl, hatt, rfl, rfl, rfl⟩
        case round =>
          obtain ⟨n, rest, rfl, ha, hb, hw, rfl⟩ := hrel
          replace hw := hw.symm
          subst hw
          have HB := hid hb
          clear hb hatt
          have hlen := ha.len
          simp only [List.length_cons] at hlen
          cases rest with
          | nil =>
            have hge : ¬ ((n : Int) < ((t.length + 2 : Nat) : Int)) := by simp at hlen; omega
            have hge2 : t.length + 2 ≤ n := by simp at hlen; omega
            go_wp2
            go_ret2
            exact ⟨ret_si rfl (by have := HB.out; rw [← this]; simp [blanks0] at hlen ⊢; omega), Below.refl _ _⟩
          | cons d rest =>
            have hlt : n < t.length + 2 := by simp at hlen; omega
            have hxd := ha.byte
            simp only [List.length_cons] at hlen
            by_cases hd : d = 32
            · subst hd
              go_wp2
              go_roundg rest.length
              case measure => simp
              case rel => exact ⟨n + 1, rest, by go_num, ha.tail, by rw [← HB.out]; rfl, rfl, rfl⟩
            · have e1 := byte_ne 32 hd rfl
              by_cases hd9 : d = 9
              · subst hd9
                go_wp2
                go_roundg rest.length
                case measure => simp
                case rel => exact ⟨n + 1, rest, by go_num, ha.tail, by rw [← HB.out]; rfl, rfl, rfl⟩
              · have e2 := byte_ne 9 hd9 rfl
                have hres : blanks0 t = d :: rest := by rw [← HB.out, blanks0_cons, if_neg (by simp [hd, hd9])]
                have HR := hid hres
                clear hres
                go_wp2
                go_ret2
                exact ⟨ret_si rfl (by rw [HR.out, List.length_cons]; omega), Below.refl _ _⟩
      · rw [if_neg (by simpa using h10)] at hr
        have n10 := byte_ne 10 h10 rfl
        by_cases h120 : c = 120
        · subst h120
          rw [if_pos (by decide)] at hr
          replace HF := hid (show ∀ u, Calls Tryz.prog 89 #[.string ⟨#[120]⟩, .string ⟨#[97, 98, 102, 110, 114, 116, 118]⟩, .int .i64 0] u fun e w' => e = .returned (.int .i64 (-1)) ∧ w' = u from HF.out)
          have hat := hatt
          clear hatc hatt
          have hd3 : ∀ (d : UInt8) u, Hid (Calls Tryz.prog 134 #[.int .u8 d.toNat, .int .i64 16] u fun e w' => e = .returned (.int .i64 (if dig16 d < 16 then (dig16 d : Int) else -1)) ∧ w' = u) := fun d u => digitR_fn d 16 (by decide) (by decide) u
          obtain ⟨V, hV⟩ : ∃ V, V = digs 16 2 0 t := ⟨_, rfl⟩
          rw [← hV] at hr
          have HV := hid hV
          have HR := hid hr
          clear hr hV
          go_enter Tryz.func98, Tryz.ntmps98
          go_wp2_with fail
          (with_reducible refine (HF.out _).mono ?_); rintro e w1 ⟨rfl, hw⟩; subst w1
          go_wp2_with fail
          go_loopg [3, 8] 2 (fun k nv vv wr => ∃ (n v j : Nat) (rest : Str), nv = .int .i64 (n : Nat) ∧ vv = .int .i64 (v : Nat) ∧ n = 2 + j ∧ j ≤ 2 ∧ v < 16 ^ j ∧ At (92 :: 120 :: t) rest n ∧ digs 16 (2 - j) v rest = V ∧ wr = w ∧ k = 2 - j)
          case atStart => exact ⟨2, 0, 0, t, rfl, rfl, rfl, Nat.zero_le _, by decide, hat, HV.out.symm, rfl, rfl⟩
          case round =>
            obtain ⟨n, v, j, rest, rfl, rfl, hnj, hj, hv, ha, hdg, hw, rfl⟩ := hrel
            clear hx1
            replace hw := hw.symm
            subst hw
            have HD := hid hdg
            have HP := hid hv
            have HN := hid hnj
            have hn2 : 2 ≤ n := by omega
            have hn3 : n ≤ 4 := by omega
            have hv4 : v < 4096 := Nat.lt_of_lt_of_le hv (show 16 ^ j ≤ 16 ^ 3 from Nat.pow_le_pow_right (by decide) (by omega))
            clear hdg hv hat hnj
            have hlen := ha.len
            simp only [List.length_cons] at hlen
            have hcv := fun u => one_back (UInt8.ofNat v) u
            rw [show ((UInt8.ofNat v).toNat : Int) = (v : Int) % 256 by rw [UInt8.toNat_ofNat']; omega] at hcv
            have fin : V = (v, rest) → (n = 2 → r = ([120], t)) ∧ (n ≠ 2 → r = ([UInt8.ofNat v], rest)) := by
              intro hVe
              have hr := HR.out
              rw [hVe] at hr
              dsimp only at hr
              refine ⟨fun h => ?_, fun h => ?_⟩
              · rw [hr, if_neg]
                first
                  | omega
                  | (simp only [List.length_cons]; omega)
              · rw [hr, if_pos]
                first
                  | omega
                  | (simp only [List.length_cons]; omega)
            cases rest with
            | nil =>
              have hge : ¬ (n < t.length + 2) := by simp at hlen; omega
              have hVe : V = (v, []) := by rw [← HD.out, digs_nil]
              obtain ⟨f1, f2⟩ := fin hVe
              clear fin hVe
              by_cases hn1 : n = 2
              · have hr1 := f1 hn1
                subst hr1
                subst hn1
                clear f1 f2
                go_wp2
                go_ret2
                exact ⟨ret_si rfl (by (try simp only [List.length_nil] at *); omega), Below.refl _ _⟩
              · have hr1 := f2 hn1
                subst hr1
                have hne : ((n : Int) == 2) = false := by rw [beq_eq_false_iff_ne]; omega
                clear f1 f2
                go_wp2
                go_ret2
                exact ⟨ret_si rfl (by (try simp only [List.length_nil] at *); omega), (Below.refl _ _).alloc (Nat.le_refl _) _⟩
            | cons d rest =>
              have hlt : n < t.length + 2 := by simp at hlen; omega
              have hxd := ha.byte
              simp only [List.length_cons] at hlen
              by_cases hjm : j = 2
              · have hge : ¬ ((n : Int) < 4) := by have := HN.out; omega
                have hVe : V = (v, d :: rest) := by rw [← HD.out, hjm]; rfl
                obtain ⟨f1, f2⟩ := fin hVe
                clear fin hVe
                have hn1 : n ≠ 2 := by have := HN.out; omega
                have hr1 := f2 hn1
                subst hr1
                have hne : ((n : Int) == 2) = false := by rw [beq_eq_false_iff_ne]; omega
                clear f1 f2
                go_wp2
                go_ret2
                exact ⟨ret_si rfl (by (try simp only [List.length_cons, List.length_nil] at *); omega), (Below.refl _ _).alloc (Nat.le_refl _) _⟩
              · have hlt2 : (n : Int) < 4 := by have := HN.out; omega
                have hstep : digs 16 (2 - j) v (d :: rest) = if dig16 d < 16 then digs 16 (2 - (j + 1)) (v * 16 + dig16 d) rest else (v, d :: rest) := by
                  rw [show 2 - j = (2 - (j + 1)) + 1 by omega, digs_step 16 _ v (by decide)]
                rw [HD.out] at hstep
                by_cases hdd : dig16 d < 16
                · rw [if_pos hdd] at hstep
                  have HS := hid hstep.symm
                  have hdl := dig16_le d
                  have hc := hd3 d w
                  rw [if_pos hdd] at hc
                  obtain ⟨q, hq⟩ : ∃ q, q = dig16 d := ⟨_, rfl⟩
                  rw [← hq] at hc HS hdl hdd
                  clear hstep hq fin
                  have hp2 : v * 16 + q < 16 ^ (j + 1) := by
                    have := HP.out
                    rw [Nat.pow_succ]
                    omega
                  have HP2 := hid hp2
                  clear hp2
                  go_wp2_with fail
                  (with_reducible refine hc.out.mono ?_); rintro e w1 ⟨rfl, hw⟩; subst w1
                  go_wp2_with fail
                  (with_reducible refine hc.out.mono ?_); rintro e w1 ⟨rfl, hw⟩; subst w1
                  go_wp2
                  go_roundg (2 - (j + 1))
                  case measure => omega
                  case rel => exact ⟨n + 1, v * 16 + q, j + 1, rest, by go_num, by go_num, by have := HN.out; omega, by omega, HP2.out, ha.tail, HS.out, rfl, rfl⟩
                · rw [if_neg hdd] at hstep
                  obtain ⟨f1, f2⟩ := fin hstep
                  have hc := hd3 d w
                  rw [if_neg hdd] at hc
                  clear fin hstep
                  by_cases hn1 : n = 2
                  · have hr1 := f1 hn1
                    subst hr1
                    subst hn1
                    clear f1 f2
                    go_wp2_with fail
                    (with_reducible refine hc.out.mono ?_); rintro e w1 ⟨rfl, hw⟩; subst w1
                    go_wp2
                    go_ret2
                    exact ⟨ret_si rfl (by (try simp only [List.length_cons, List.length_nil] at *); omega), Below.refl _ _⟩
                  · have hr1 := f2 hn1
                    subst hr1
                    have hne : ((n : Int) == 2) = false := by rw [beq_eq_false_iff_ne]; omega
                    clear f1 f2
                    go_wp2_with fail
                    (with_reducible refine hc.out.mono ?_); rintro e w1 ⟨rfl, hw⟩; subst w1
                    go_wp2
                    go_ret2
                    exact ⟨ret_si rfl (by (try simp only [List.length_cons, List.length_nil] at *); omega), (Below.refl _ _).alloc (Nat.le_refl _) _⟩
        · have n120 := byte_ne 120 h120 rfl
          rw [if_neg (by simpa using h120)] at hr
          have hat := hatc
          clear hatc hatt
          have hd3 : ∀ (d : UInt8) u, Hid (Calls Tryz.prog 134 #[.int .u8 d.toNat, .int .i64 8] u fun e w' => e = .returned (.int .i64 (if dig16 d < 8 then (dig16 d : Int) else -1)) ∧ w' = u) := fun d u => digitR_fn d 8 (by decide) (by decide) u
          obtain ⟨V, hV⟩ : ∃ V, V = digs 8 3 0 (c :: t) := ⟨_, rfl⟩
          rw [← hV] at hr
          have HV := hid hV
          have HR := hid hr
          clear hr hV
          go_enter Tryz.func98, Tryz.ntmps98
          go_wp2_with fail
          (with_reducible refine (HF.out _).mono ?_); rintro e w1 ⟨rfl, hw⟩; subst w1
          go_wp2_with fail
          go_loopg [3, 8] 3 (fun k nv vv wr => ∃ (n v j : Nat) (rest : Str), nv = .int .i64 (n : Nat) ∧ vv = .int .i64 (v : Nat) ∧ n = 1 + j ∧ j ≤ 3 ∧ v < 16 ^ j ∧ At (92 :: c :: t) rest n ∧ digs 8 (3 - j) v rest = V ∧ wr = w ∧ k = 3 - j)
          case atStart => exact ⟨1, 0, 0, (c :: t), rfl, rfl, rfl, Nat.zero_le _, by decide, hat, HV.out.symm, rfl, rfl⟩
          case round =>
            obtain ⟨n, v, j, rest, rfl, rfl, hnj, hj, hv, ha, hdg, hw, rfl⟩ := hrel
            clear hx1
            replace hw := hw.symm
            subst hw
            have HD := hid hdg
            have HP := hid hv
            have HN := hid hnj
            have hn2 : 1 ≤ n := by omega
            have hn3 : n ≤ 4 := by omega
            have hv4 : v < 4096 := Nat.lt_of_lt_of_le hv (show 16 ^ j ≤ 16 ^ 3 from Nat.pow_le_pow_right (by decide) (by omega))
            clear hdg hv hat hnj
            have hlen := ha.len
            simp only [List.length_cons] at hlen
            have hcv := fun u => one_back (UInt8.ofNat v) u
            rw [show ((UInt8.ofNat v).toNat : Int) = (v : Int) % 256 by rw [UInt8.toNat_ofNat']; omega] at hcv
            have fin : V = (v, rest) → (n = 1 → r = ([c], t)) ∧ (n ≠ 1 → r = ([UInt8.ofNat v], rest)) := by
              intro hVe
              have hr := HR.out
              rw [hVe] at hr
              dsimp only at hr
              refine ⟨fun h => ?_, fun h => ?_⟩
              · rw [hr, if_neg]
                first
                  | omega
                  | (simp only [List.length_cons]; omega)
              · rw [hr, if_pos]
                first
                  | omega
                  | (simp only [List.length_cons]; omega)
            cases rest with
            | nil =>
              have hge : ¬ (n < t.length + 2) := by simp at hlen; omega
              have hVe : V = (v, []) := by rw [← HD.out, digs_nil]
              obtain ⟨f1, f2⟩ := fin hVe
              clear fin hVe
              have hn1 : n ≠ 1 := by simp at hlen; omega
              have hr1 := f2 hn1
              subst hr1
              have hne : ((n : Int) == 1) = false := by rw [beq_eq_false_iff_ne]; omega
              clear f1 f2
              go_wp2
              go_ret2
              exact ⟨ret_si rfl (by (try simp only [List.length_cons, List.length_nil] at *); omega), (Below.refl _ _).alloc (Nat.le_refl _) _⟩
            | cons d rest =>
              have hlt : n < t.length + 2 := by simp at hlen; omega
              have hxd := ha.byte
              simp only [List.length_cons] at hlen
              by_cases hjm : j = 3
              · have hge : ¬ ((n : Int) < 4) := by have := HN.out; omega
                have hVe : V = (v, d :: rest) := by rw [← HD.out, hjm]; rfl
                obtain ⟨f1, f2⟩ := fin hVe
                clear fin hVe
                have hn1 : n ≠ 1 := by have := HN.out; omega
                have hr1 := f2 hn1
                subst hr1
                have hne : ((n : Int) == 1) = false := by rw [beq_eq_false_iff_ne]; omega
                clear f1 f2
                go_wp2
                go_ret2
                exact ⟨ret_si rfl (by (try simp only [List.length_cons] at *); omega), (Below.refl _ _).alloc (Nat.le_refl _) _⟩
              · have hlt2 : (n : Int) < 4 := by have := HN.out; omega
                have hstep : digs 8 (3 - j) v (d :: rest) = if dig16 d < 8 then digs 8 (3 - (j + 1)) (v * 8 + dig16 d) rest else (v, d :: rest) := by
                  rw [show 3 - j = (3 - (j + 1)) + 1 by omega, digs_step 8 _ v (by decide)]
                rw [HD.out] at hstep
                by_cases hdd : dig16 d < 8
                · rw [if_pos hdd] at hstep
                  have HS := hid hstep.symm
                  have hdl := dig16_le d
                  have hc := hd3 d w
                  rw [if_pos hdd] at hc
                  obtain ⟨q, hq⟩ : ∃ q, q = dig16 d := ⟨_, rfl⟩
                  rw [← hq] at hc HS hdl hdd
                  clear hstep hq fin
                  have hp2 : v * 8 + q < 16 ^ (j + 1) := by
                    have := HP.out
                    rw [Nat.pow_succ]
                    omega
                  have HP2 := hid hp2
                  clear hp2
                  go_wp2_with fail
                  (with_reducible refine hc.out.mono ?_); rintro e w1 ⟨rfl, hw⟩; subst w1
                  go_wp2_with fail
                  (with_reducible refine hc.out.mono ?_); rintro e w1 ⟨rfl, hw⟩; subst w1
                  go_wp2
                  go_roundg (3 - (j + 1))
                  case measure => omega
                  case rel => exact ⟨n + 1, v * 8 + q, j + 1, rest, by go_num, by go_num, by have := HN.out; omega, by omega, HP2.out, ha.tail, HS.out, rfl, rfl⟩
                · rw [if_neg hdd] at hstep
                  obtain ⟨f1, f2⟩ := fin hstep
                  have hc := hd3 d w
                  rw [if_neg hdd] at hc
                  clear fin hstep
                  by_cases hn1 : n = 1
                  · have hr1 := f1 hn1
                    subst hr1
                    subst hn1
                    clear f1 f2
                    go_wp2_with fail
                    (with_reducible refine hc.out.mono ?_); rintro e w1 ⟨rfl, hw⟩; subst w1
                    go_wp2
                    go_ret2
                    exact ⟨ret_si rfl (by (try simp only [List.length_cons] at *); omega), Below.refl _ _⟩
                  · have hr1 := f2 hn1
                    subst hr1
                    have hne : ((n : Int) == 1) = false := by rw [beq_eq_false_iff_ne]; omega
                    clear f1 f2
                    go_wp2_with fail
                    (with_reducible refine hc.out.mono ?_); rintro e w1 ⟨rfl, hw⟩; subst w1
                    go_wp2
                    go_ret2
                    exact ⟨ret_si rfl (by (try simp only [List.length_cons] at *); omega), (Below.refl _ _).alloc (Nat.le_refl _) _⟩
end Go.Proofs.YtheiageokcgbhaaGreatDoor.Pz
