/-
  Part K2 of the proofs of this seat: contracts of functions and plain facts, merged from 7 texts.
-/
import Derived.Shelf.LaysM
import Derived.Shelf.Strconv.Itoa3
import Derived.Shelf.Strings.Search3
import Derived.Ground.Names2Prog
import Derived.Ground.SlgnProg
import Derived.Test.YtabhkoklcjhlpaaGreatDoorProg
import Derived.Below
import Derived.Maps.AppendAt
import Derived.Laws.AppendOwnNone
import Derived.Maps.OwnIn
import Derived.Test.YtabhkoklcjhlpaaGreatDoorK0
import Derived.Test.YtabhkoklcjhlpaaGreatDoorK1
/-
  Contracts of the library, laid at this program by the kit's shelf tools.
-/
namespace Go.Proofs.YtabhkoklcjhlpaaGreatDoor.Pz
open Go.Shelf
def Tryz.lays144_ren : Go.Shelf.Ren := ⟨fun | 144 => 129 | 143 => 153 | 219 => 169 | 217 => 152 | 225 => 179 | 224 => 180 | 267 => 181 | 266 => 168 | 314 => 190 | n => n, fun | 9 => 9 | 4 => 4 | 3 => 3 | 5 => 5 | 46 => 215 | 146 => 232 | 51 => 199 | n => n, fun | 1 => 0 | n => n⟩
theorem Tryz.lays144 : Go.Proofs.Lays.n144 Tryz.prog Tryz.lays144_ren := {
  mixed := by kernel_rfl
  f143 := Tryz.func153.trans (congrArg some (by kernel_rfl))
  f144 := Tryz.func129.trans (congrArg some (by kernel_rfl))
  f217 := Tryz.func152.trans (congrArg some (by kernel_rfl))
  f219 := Tryz.func169.trans (congrArg some (by kernel_rfl))
  f224 := Tryz.func180.trans (congrArg some (by kernel_rfl))
  f225 := Tryz.func179.trans (congrArg some (by kernel_rfl))
  f266 := Tryz.func168.trans (congrArg some (by kernel_rfl))
  f267 := Tryz.func181.trans (congrArg some (by kernel_rfl))
  f314 := Tryz.func190.trans (congrArg some (by kernel_rfl))
  t3 := Tryz.underlying3
  a3 := Tryz.isAgg3
  z3 := Tryz.sizeOf3
  v3 := Tryz.zeroValue3
  t4 := Tryz.underlying4
  a4 := Tryz.isAgg4
  z4 := Tryz.sizeOf4
  v4 := Tryz.zeroValue4
  t5 := Tryz.underlying5
  a5 := Tryz.isAgg5
  z5 := Tryz.sizeOf5
  v5 := Tryz.zeroValue5
  t9 := Tryz.underlying9
  a9 := Tryz.isAgg9
  z9 := Tryz.sizeOf9
  v9 := Tryz.zeroValue9
  t46 := Tryz.underlying215
  a46 := Tryz.isAgg215
  z46 := Tryz.sizeOf215
  v46 := Tryz.zeroValue215
  t51 := Tryz.underlying199
  a51 := Tryz.isAgg199
  z51 := Tryz.sizeOf199
  v51 := Tryz.zeroValue199
  t146 := Tryz.underlying232
  a146 := Tryz.isAgg232
  z146 := Tryz.sizeOf232
  v146 := Tryz.zeroValue232
  g1 := by kernel_rfl }
open Go.RowKit Go.Lib in
theorem Tryz.strings_Contains (s sub : ByteArray) (m : Int) (w : World) (hs : s.size < 4294967281) (hm : w.cell? ⟨0, 0, none⟩ = some (.int .i64 m)) :
    Calls Tryz.prog 129 #[.string s, .string sub] w fun e w' => e = .returned (.bool (Lib.contains s.data.toList sub.data.toList)) ∧ w' = w := Any.strings_Contains Tryz.lays144 s sub m w hs hm
def Tryz.laysM171_ren : Go.Shelf.Ren := ⟨fun | 171 => 144 | 243 => 165 | 246 => 177 | 283 => 185 | 284 => 186 | 285 => 187 | 286 => 188 | 129 => 194 | 317 => 193 | 318 => 195 | 319 => 196 | 320 => 197 | 337 => 201 | 338 => 202 | n => n, fun | 3 => 3 | 9 => 9 | 2 => 2 | 4 => 4 | 171 => 227 | 0 => 0 | 53 => 214 | 37 => 54 | 5 => 5 | 173 => 230 | 212 => 236 | 51 => 199 | 20 => 20 | 213 => 237 | 46 => 215 | 232 => 245 | 233 => 246 | n => n, fun | 17 => 1 | 18 => 4 | 19 => 5 | n => n⟩
theorem Tryz.laysM171 : Go.Proofs.LaysM.n171 Tryz.prog Tryz.laysM171_ren := {
  mixed := by kernel_rfl
  f129 := Tryz.func194.trans (congrArg some (by kernel_rfl))
  f171 := Tryz.func144.trans (congrArg some (by kernel_rfl))
  f243 := Tryz.func165.trans (congrArg some (by kernel_rfl))
  f246 := Tryz.func177.trans (congrArg some (by kernel_rfl))
  f283 := Tryz.func185.trans (congrArg some (by kernel_rfl))
  f284 := Tryz.func186.trans (congrArg some (by kernel_rfl))
  f285 := Tryz.func187.trans (congrArg some (by kernel_rfl))
  f286 := Tryz.func188.trans (congrArg some (by kernel_rfl))
  f317 := Tryz.func193.trans (congrArg some (by kernel_rfl))
  f318 := Tryz.func195.trans (congrArg some (by kernel_rfl))
  f319 := Tryz.func196.trans (congrArg some (by kernel_rfl))
  f320 := Tryz.func197.trans (congrArg some (by kernel_rfl))
  f337 := Tryz.func201.trans (congrArg some (by kernel_rfl))
  f338 := Tryz.func202.trans (congrArg some (by kernel_rfl))
  t0 := Tryz.underlying0
  a0 := Tryz.isAgg0
  z0 := Tryz.sizeOf0
  v0 := Tryz.zeroValue0
  t2 := Tryz.underlying2
  a2 := Tryz.isAgg2
  z2 := Tryz.sizeOf2
  v2 := Tryz.zeroValue2
  t3 := Tryz.underlying3
  a3 := Tryz.isAgg3
  z3 := Tryz.sizeOf3
  v3 := Tryz.zeroValue3
  t4 := Tryz.underlying4
  a4 := Tryz.isAgg4
  z4 := Tryz.sizeOf4
  v4 := Tryz.zeroValue4
  t5 := Tryz.underlying5
  a5 := Tryz.isAgg5
  z5 := Tryz.sizeOf5
  v5 := Tryz.zeroValue5
  t9 := Tryz.underlying9
  a9 := Tryz.isAgg9
  z9 := Tryz.sizeOf9
  v9 := Tryz.zeroValue9
  t20 := Tryz.underlying20
  a20 := Tryz.isAgg20
  z20 := Tryz.sizeOf20
  v20 := Tryz.zeroValue20
  t37 := Tryz.underlying54
  a37 := Tryz.isAgg54
  z37 := Tryz.sizeOf54
  v37 := Tryz.zeroValue54
  t46 := Tryz.underlying215
  a46 := Tryz.isAgg215
  z46 := Tryz.sizeOf215
  v46 := Tryz.zeroValue215
  t51 := Tryz.underlying199
  a51 := Tryz.isAgg199
  z51 := Tryz.sizeOf199
  v51 := Tryz.zeroValue199
  t53 := Tryz.underlying214
  a53 := Tryz.isAgg214
  z53 := Tryz.sizeOf214
  v53 := Tryz.zeroValue214
  t171 := Tryz.underlying227
  a171 := Tryz.isAgg227
  z171 := Tryz.sizeOf227
  v171 := Tryz.zeroValue227
  t173 := Tryz.underlying230
  a173 := Tryz.isAgg230
  z173 := Tryz.sizeOf230
  v173 := Tryz.zeroValue230
  t212 := Tryz.underlying236
  a212 := Tryz.isAgg236
  z212 := Tryz.sizeOf236
  v212 := Tryz.zeroValue236
  t213 := Tryz.underlying237
  a213 := Tryz.isAgg237
  z213 := Tryz.sizeOf237
  t232 := Tryz.underlying245
  a232 := Tryz.isAgg245
  z232 := Tryz.sizeOf245
  v232 := Tryz.zeroValue245
  t233 := Tryz.underlying246
  a233 := Tryz.isAgg246
  z233 := Tryz.sizeOf246
  v233 := Tryz.zeroValue246
  g17 := by kernel_rfl
  g18 := by kernel_rfl
  g19 := by kernel_rfl
  i0 := by kernel_rfl
  i2 := by kernel_rfl
  i3 := by kernel_rfl
  i4 := by kernel_rfl
  i5 := by kernel_rfl
  i9 := by kernel_rfl
  i20 := by kernel_rfl
  i37 := by kernel_rfl
  i46 := by kernel_rfl
  i51 := by kernel_rfl
  i53 := by kernel_rfl
  i171 := by kernel_rfl
  i173 := by kernel_rfl
  i212 := by kernel_rfl
  i232 := by kernel_rfl
  i233 := by kernel_rfl
  m17 := by kernel_rfl
  m18 := by kernel_rfl
  m19 := by kernel_rfl }
open Go.RowKit Go.Sort Go.Lib in
theorem Tryz.strconv_Itoa (n : Int) (h0 : -9223372036854775808 ≤ n) (h1 : n ≤ 9223372036854775807) (w : World) (htab : Lib.TabIs Tryz.prog w "internal/strconv.uint64pow10" .u64 Lib.pow10Tab) :
    Calls Tryz.prog 144 #[.int .i64 n] w fun e w' => e = .returned (.string ⟨(Lib.itoa n).toArray⟩) ∧ ∃ k os, w' = grow (w.drewN k) os := Any.strconv_Itoa Tryz.laysM171 n h0 h1 w htab
end Go.Proofs.YtabhkoklcjhlpaaGreatDoor.Pz
/-
  list.isSpecial, list.balanced: what they answer. Condition of balanced: the library's variable internal/bytealg.MaxLen holds some int.
-/
namespace Go.Proofs.YtabhkoklcjhlpaaGreatDoor.Pz
open Go.RowKit
/-- the library's variable holds some int -/
def ML (w : World) : Prop := ∃ m, w.cell? ⟨0, 0, none⟩ = some (.int .i64 m)
theorem ML.below {w w' : World} (h : ML w) (hb : Below w.heap.size w w') : ML w' := by
  obtain ⟨m, hm⟩ := h
  refine ⟨m, ?_⟩
  have hlt : 0 < w.heap.size := by
    unfold World.cell? at hm
    rcases Nat.lt_or_ge 0 w.heap.size with h | h
    · exact h
    · rw [Array.getElem?_eq_none h] at hm; cases hm
  rw [hb.cell hlt]
  exact hm
theorem has_idx : ∀ (l : List UInt8) (c : UInt8), l.contains c = decide (0 ≤ Lib.indexByte l c)
  | [], _ => rfl
  | b :: l, c => by
    have ih := has_idx l c
    have hg := Lib.indexByte_ge l c
    rw [List.contains_cons, ih, Lib.indexByte]
    by_cases h : b = c
    · subst h
      simp
    · have e1 : (c == b) = false := by simpa using fun h' => h h'.symm
      have e2 : ¬ (b == c) = true := by simpa using h
      rw [e1, Bool.false_or, if_neg e2]
      by_cases h2 : (Lib.indexByte l c == -1) = true
      · rw [if_pos h2]
        have h2 : Lib.indexByte l c = -1 := by simpa using h2
        rw [h2]
      · rw [if_neg h2]
        have h2 : Lib.indexByte l c ≠ -1 := by simpa using h2
        rw [decide_eq_decide]
        omega
theorem special_idx (c : UInt8) : [34, 92, 123, 125, 36, 91, 93, 59].contains c = decide (0 ≤ Lib.indexByte [34, 92, 123, 125, 36, 91, 93, 59] c) := has_idx _ _
set_option maxRecDepth 100000 in
theorem special_fn (c : UInt8) (w : World) : Calls Tryz.prog 102 #[.int .u8 (c.toNat : Nat)] w fun e w' => e = .returned (.bool (special c)) ∧ w' = w := by
  obtain ⟨I, hI⟩ : ∃ I, I = Lib.indexByte [34, 92, 123, 125, 36, 91, 93, 59] c := ⟨_, rfl⟩
  have hc : Calls Tryz.prog 128 #[.string ⟨#[34, 92, 123, 125, 36, 91, 93, 59]⟩, .int .u8 c.toNat] w fun e w' => e = .returned (.int .i64 I) ∧ w' = w := by
    have h := Tryz.strings_IndexByte ⟨#[34, 92, 123, 125, 36, 91, 93, 59]⟩ (c.toNat : Int) w
    have e1 : ((c.toNat : Int)).toNat.toUInt8 = c := by simp
    rw [e1] at h
    rw [hI]
    exact h
  obtain ⟨W, hW⟩ : ∃ W, W = white c := ⟨_, rfl⟩
  obtain ⟨S, hS⟩ : ∃ S, S = special c := ⟨_, rfl⟩
  have hwc := white_fn c w
  have hS2 : S = (W || decide (0 ≤ I)) := by rw [hS, special, special_idx, hW, hI]
  rw [← hW] at hwc
  rw [← hS]
  have HC := hid hc
  have HW := hid hwc
  have HS := hid hS2
  clear hc hwc hS hS2 hW hI
  cases W with
  | true =>
    go_enter Tryz.func102, Tryz.ntmps102
    go_wp2_with fail
    (with_reducible refine HW.out.mono ?_); rintro e w1 ⟨rfl, hw⟩; subst w1
    go_wp2
    go_ret
    exact ⟨by rw [HS.out]; rfl, rfl⟩
  | false =>
    go_enter Tryz.func102, Tryz.ntmps102
    go_wp2_with fail
    (with_reducible refine HW.out.mono ?_); rintro e w1 ⟨rfl, hw⟩; subst w1
    go_wp2_with fail
    (with_reducible refine HC.out.mono ?_); rintro e w1 ⟨rfl, hw⟩; subst w1
    go_wp2
    go_ret
    exact ⟨by rw [HS.out]; rfl, rfl⟩
theorem pre_bn (c : UInt8) (t : Str) : ([92, 10] : Str).isPrefixOf (c :: t) = (c == 92 && t.head? == some 10) := by
  cases t with
  | nil => simp [List.isPrefixOf]
  | cons d t =>
    simp only [List.isPrefixOf, List.head?_cons, Bool.and_true]
    by_cases h1 : c = 92
    · subst h1
      by_cases h2 : d = 10
      · subst h2; rfl
      · have e1 : ((10 : UInt8) == d) = false := by simpa using fun h => h2 h.symm
        have e2 : (some d == some (10 : UInt8)) = false := by simpa using h2
        rw [e1, e2]
    · have e1 : ((92 : UInt8) == c) = false := by simpa using fun h => h1 h.symm
      have e2 : (c == 92) = false := by simpa using h1
      rw [e1, e2]
      rfl
theorem contains_bn : ∀ (s : Str), Lib.contains s [92, 10] = hasBN s
  | [] => rfl
  | c :: t => by
    have ih := contains_bn t
    unfold Lib.contains at *
    rw [hasBN, ← ih, Lib.index]
    have hg := Lib.index_ge t [92, 10]
    have hp := pre_bn c t
    rw [hp]
    by_cases h : (c == 92 && t.head? == some 10) = true
    · rw [if_pos h, h]; rfl
    · rw [if_neg h]
      rw [Bool.not_eq_true] at h
      rw [h, Bool.false_or]
      by_cases h2 : (Lib.index t [92, 10] == -1) = true
      · rw [if_pos h2]
        have h2 : Lib.index t [92, 10] = -1 := by simpa using h2
        rw [h2]
      · rw [if_neg h2]
        have h2 : Lib.index t [92, 10] ≠ -1 := by simpa using h2
        rw [decide_eq_decide]
        omega
theorem contains_fn (s : Str) (hs : s.length ≤ 1000000) (w : World) (hm : ML w) :
    Calls Tryz.prog 129 #[.string ⟨s.toArray⟩, .string ⟨#[92, 10]⟩] w fun e w' => e = .returned (.bool (hasBN s)) ∧ w' = w := by
  obtain ⟨m, hm⟩ := hm
  have h := Tryz.strings_Contains ⟨s.toArray⟩ ⟨#[92, 10]⟩ m w (by rw [Lib.size_mk]; omega) hm
  rw [show (⟨s.toArray⟩ : ByteArray).data.toList = s by simp, show (⟨#[92, 10]⟩ : ByteArray).data.toList = [92, 10] from rfl, contains_bn] at h
  exact h
theorem bal_cons (d : Nat) (c : UInt8) (t : Str) : bal d (c :: t) =
    if c == 92 then (match t with | [] => false | _ :: t' => bal d t')
    else if c == 123 then bal (d + 1) t
    else if c == 125 then (match d with | 0 => false | d' + 1 => bal d' t)
    else bal d t := bal.eq_def ..
set_option maxRecDepth 100000 in
set_option maxHeartbeats 2000000 in
theorem balanced_fn (s : Str) (hs : s.length ≤ 1000000) (w : World) (hm : ML w) :
    Calls Tryz.prog 103 #[.string ⟨s.toArray⟩] w fun e w' => e = .returned (.bool (balanced s)) ∧ w' = w := by
  have hsz : (⟨s.toArray⟩ : ByteArray).size = s.length := Lib.size_mk _
  obtain ⟨H, hH⟩ : ∃ H, H = hasBN s := ⟨_, rfl⟩
  obtain ⟨B, hB⟩ : ∃ B, B = bal 0 s := ⟨_, rfl⟩
  obtain ⟨R, hR⟩ : ∃ R, R = balanced s := ⟨_, rfl⟩
  have hc := contains_fn s hs w hm
  have hR2 : R = (B && !H) := by rw [hR, hB, hH]; rfl
  rw [← hH] at hc
  rw [← hR]
  have HC := hid hc
  have HB := hid hB
  have HR := hid hR2
  clear hc hB hR2 hR hH hm
  go_enter Tryz.func103, Tryz.ntmps103
  go_wp2_with fail
  go_loopg [3, 4] s.length (fun k dv iv wr => ∃ (i d : Nat) (rest : Str), dv = .int .i64 (d : Nat) ∧ iv = .int .i64 (i : Nat) ∧ At s rest i ∧ B = bal d rest ∧ wr = w ∧ k = rest.length ∧ d ≤ i)
  case atStart => exact ⟨0, 0, s, rfl, rfl, At.start s, HB.out, rfl, rfl, Nat.le_refl _⟩
  case round =>
    obtain ⟨i, d, rest, rfl, rfl, ha, hb, hw, rfl, hd⟩ := hrel
    subst hw
    have HB2 := hid hb
    clear hb HB
    have hle : i ≤ s.length := by have := ha.len; omega
    cases rest with
    | nil =>
      have hge : s.length ≤ i := ha.nil_iff.1 rfl
      have HB3 : B = (d == 0) := by rw [HB2.out]; rfl
      have HB4 := hid HB3
      clear HB3 HB2
      by_cases h0 : d = 0
      · subst h0
        go_wp2_with fail
        (with_reducible refine HC.out.mono ?_); rintro e w1 ⟨rfl, hw⟩; subst w1
        go_wp2
        go_ret
        exact ⟨by rw [HR.out, HB4.out]; rfl, rfl⟩
      · have hne : ((d : Int) == 0) = false := by rw [beq_eq_false_iff_ne]; omega
        go_wp2
        go_ret
        refine ⟨?_, rfl⟩
        rw [HR.out, HB4.out, show (d == 0) = false by simpa using h0]
        rfl
    | cons c t =>
      have hlt := ha.lt
      have hx := ha.byte
      have hlen := ha.len
      simp only [List.length_cons] at hlen
      by_cases h92 : c = 92
      · subst h92
        cases t with
        | nil =>
          have he : ((i : Int) + 1 == (s.length : Int)) = true := by rw [beq_iff_eq]; simp at hlen; omega
          go_wp2
          go_ret
          exact ⟨by rw [HR.out, HB2.out, bal_cons]; rfl, rfl⟩
        | cons e t =>
          simp only [List.length_cons] at hlen
          have he : ((i : Int) + 1 == (s.length : Int)) = false := by rw [beq_eq_false_iff_ne]; omega
          go_wp2
          go_roundg t.length
          case measure => simp; omega
          case rel => exact ⟨i + 2, d, t, rfl, by rw [Value.int.injEq]; exact ⟨rfl, by omega⟩, ha.tail.tail, by rw [HB2.out, bal_cons]; rfl, rfl, rfl, by omega⟩
      · have n92 := byte_ne 92 h92 rfl
        by_cases h123 : c = 123
        · subst h123
          go_wp2
          go_roundg t.length
          case measure => simp
          case rel => exact ⟨i + 1, d + 1, t, by go_num, by go_num, ha.tail, by rw [HB2.out, bal_cons]; rfl, rfl, rfl, by omega⟩
        · have n123 := byte_ne 123 h123 rfl
          by_cases h125 : c = 125
          · subst h125
            cases d with
            | zero =>
              go_wp2
              go_ret
              exact ⟨by rw [HR.out, HB2.out, bal_cons]; rfl, rfl⟩
            | succ d =>
              have hnn : ¬ (((d + 1 : Nat) : Int) - 1 < 0) := by omega
              go_wp2
              go_roundg t.length
              case measure => simp
              case rel => exact ⟨i + 1, d, t, by rw [Value.int.injEq]; exact ⟨rfl, by omega⟩, by go_num, ha.tail, by rw [HB2.out, bal_cons]; rfl, rfl, rfl, by omega⟩
          · have n125 := byte_ne 125 h125 rfl
            go_wp2
            go_roundg t.length
            case measure => simp
            case rel => exact ⟨i + 1, d, t, rfl, by go_num, ha.tail, by rw [HB2.out, bal_cons, if_neg (by simpa using h92), if_neg (by simpa using h123), if_neg (by simpa using h125)], rfl, rfl, by omega⟩
end Go.Proofs.YtabhkoklcjhlpaaGreatDoor.Pz
/-
  list.Quote: what it answers. Condition: the library's variable internal/bytealg.MaxLen holds some int.
-/
namespace Go.Proofs.YtabhkoklcjhlpaaGreatDoor.Pz
open Go.RowKit
theorem slash_yes {c : UInt8} {b : Bool} (t : Str) (h : special c = true ∨ (b = true ∧ c = 35)) : slash b (c :: t) = 92 :: slash1 c :: slash false t := by
  rw [slash, if_pos]
  rcases h with h | ⟨h1, h2⟩
  · rw [h]; rfl
  · rw [h1, h2]; rfl
theorem slash_no {c : UInt8} {b : Bool} (t : Str) (h : special c = false) (h2 : b = true → c ≠ 35) : slash b (c :: t) = c :: slash false t := by
  rw [slash, if_neg]
  rw [h, Bool.false_or, Bool.and_eq_true, beq_iff_eq]
  exact fun ⟨h3, h4⟩ => h2 h3 h4
theorem slash1_same {c : UInt8} (h : 14 ≤ c.toNat) : slash1 c = c := by
  unfold slash1
  have hn : ∀ k : UInt8, k.toNat < 14 → (c == k) = false := by
    intro k hk
    rw [beq_eq_false_iff_ne]
    rintro rfl
    omega
  rw [if_neg (by rw [hn 9 (by decide)]; simp), if_neg (by rw [hn 10 (by decide)]; simp), if_neg (by rw [hn 11 (by decide)]; simp), if_neg (by rw [hn 12 (by decide)]; simp), if_neg (by rw [hn 13 (by decide)]; simp)]
theorem special_split {c : UInt8} (h : special c = true) : c = 9 ∨ c = 10 ∨ c = 11 ∨ c = 12 ∨ c = 13 ∨ 14 ≤ c.toNat := by
  rcases slashy (.inl h) with rfl | rfl | rfl | rfl | rfl | rfl | rfl | rfl | rfl | rfl | rfl | rfl | rfl | rfl | rfl <;> simp
theorem slash_len : ∀ (s : Str) (b : Bool), (slash b s).length ≤ 2 * s.length
  | [], _ => Nat.le_refl _
  | c :: t, b => by
    have := slash_len t false
    rw [slash]
    split
    · simp only [List.length_cons]; omega
    · simp only [List.length_cons]; omega
theorem quote_len (s : Str) : (quote s).length ≤ 2 * s.length + 2 := by
  unfold quote
  split
  · simp
  · split
    · omega
    · split
      · simp; omega
      · have := slash_len s true; omega
theorem cat3 (s : Str) : (⟨#[123]⟩ : ByteArray) ++ ⟨s.toArray⟩ ++ ⟨#[125]⟩ = ⟨(123 :: (s ++ [125])).toArray⟩ := by
  rw [ByteArray.ext_iff]
  simp [ByteArray.data_append]
set_option maxRecDepth 100000 in
set_option maxHeartbeats 20000000 in
theorem quote_plain_fn (c0 : UInt8) (t0 : Str) (hs : (c0 :: t0).length ≤ 1000000) (hp : plainW (c0 :: t0) = true) (w : World) (hm : ML w) :
    Calls Tryz.prog 81 #[.string ⟨(c0 :: t0).toArray⟩] w fun e w' => e = .returned (.string ⟨(c0 :: t0).toArray⟩) ∧ Below w.heap.size w w' := by
  have hsz : (⟨(c0 :: t0).toArray⟩ : ByteArray).size = (c0 :: t0).length := Lib.size_mk _
  have hx0 : ∀ h, (⟨(c0 :: t0).toArray⟩ : ByteArray)[0]'h = c0 := fun h => rfl
  have hemp : (c0 :: t0).isEmpty = false := rfl
  have hpos : 0 < (c0 :: t0).length := by simp
  have hb := balanced_fn (c0 :: t0) hs w hm
  have hp2 : plainW (c0 :: t0) = ((c0 != 35) && (c0 :: t0).all fun c => !special c) := rfl
  rw [hp] at hp2
  clear hp
  have hst : At (c0 :: t0) (c0 :: t0) 0 := At.start _
  generalize c0 :: t0 = s at *
  have HB := hid hb
  have HP := hid hp2
  clear hb hp2
  have h35 : (c0 != 35) = ((c0.toNat : Int) != 35) := by
    by_cases h : c0 = 35
    · subst h; rfl
    · rw [byte_ne' 35 h rfl]; simpa using h
  have HP2 := hid (show true = (((c0.toNat : Int) != 35) && s.all fun c => !special c) by rw [HP.out, h35])
  replace HP := HP2
  clear HP2 h35
  go_enter Tryz.func81, Tryz.ntmps81
  go_wp2_with fail
  go_loopg [3, 4] s.length (fun k bv iv wr => ∃ (i : Nat) (b : Bool) (rest : Str), bv = .bool b ∧ iv = .int .i64 (i : Nat) ∧ At s rest i ∧ true = (b && rest.all fun c => !special c) ∧ wr = w ∧ k = rest.length)
  case atStart => exact ⟨0, ((c0.toNat : Int) != 35), s, rfl, rfl, hst, HP.out, rfl, rfl⟩
  case round =>
    obtain ⟨i, b, rest, rfl, rfl, ha, hb, hw, rfl⟩ := hrel
    replace hw := hw.symm
    subst hw
    have HB2 := hid hb
    clear hb HP
    have hle : i ≤ s.length := by have := ha.len; omega
    cases rest with
    | nil =>
      have hge : s.length ≤ i := ha.nil_iff.1 rfl
      cases b with
      | true =>
        go_wp2
        go_ret
        exact ⟨rfl, Below.refl _ _⟩
      | false =>
        exact absurd HB2.out (by simp)
    | cons c t =>
      have hlt := ha.lt
      have hx := ha.byte
      have hlen := ha.len
      cases b with
      | false =>
        exact absurd HB2.out (by simp)
      | true =>
        have hsp := special_fn c w
        have hq := HB2.out
        rw [List.all_cons, Bool.true_and] at hq
        obtain ⟨S, hS⟩ : ∃ S, S = special c := ⟨_, rfl⟩
        rw [← hS] at hsp hq
        have HS := hid hsp
        have HQ := hid hq
        clear hS hsp hq HB2
        go_wp2_with fail
        (with_reducible refine HS.out.mono ?_); rintro e w1 ⟨rfl, hw⟩; subst w1
        go_wp2
        go_roundg t.length
        case measure => simp
        case rel => exact ⟨i + 1, !S, t, rfl, by go_num, ha.tail, HQ.out, rfl, rfl⟩
set_option maxRecDepth 100000 in
set_option maxHeartbeats 20000000 in
theorem quote_brace_fn (c0 : UInt8) (t0 : Str) (hs : (c0 :: t0).length ≤ 1000000) (hp : plainW (c0 :: t0) = false) (hbal : balanced (c0 :: t0) = true) (w : World) (hm : ML w) :
    Calls Tryz.prog 81 #[.string ⟨(c0 :: t0).toArray⟩] w fun e w' => e = .returned (.string ⟨(123 :: (c0 :: t0 ++ [125])).toArray⟩) ∧ Below w.heap.size w w' := by
  have hsz : (⟨(c0 :: t0).toArray⟩ : ByteArray).size = (c0 :: t0).length := Lib.size_mk _
  have hx0 : ∀ h, (⟨(c0 :: t0).toArray⟩ : ByteArray)[0]'h = c0 := fun h => rfl
  have hemp : (c0 :: t0).isEmpty = false := rfl
  have hpos : 0 < (c0 :: t0).length := by simp
  have hb := balanced_fn (c0 :: t0) hs w hm
  rw [hbal] at hb
  have hcat : (⟨#[123]⟩ : ByteArray) ++ ⟨(c0 :: t0).toArray⟩ ++ ⟨#[125]⟩ = ⟨(123 :: (c0 :: t0 ++ [125])).toArray⟩ := cat3 _
  have hp2 : plainW (c0 :: t0) = ((c0 != 35) && (c0 :: t0).all fun c => !special c) := rfl
  rw [hp] at hp2
  clear hp
  have hst : At (c0 :: t0) (c0 :: t0) 0 := At.start _
  generalize c0 :: t0 = s at *
  have HB := hid hb
  have HP := hid hp2
  have HJ := hid hcat
  clear hcat
  clear hb hp2
  have h35 : (c0 != 35) = ((c0.toNat : Int) != 35) := by
    by_cases h : c0 = 35
    · subst h; rfl
    · rw [byte_ne' 35 h rfl]; simpa using h
  have HP2 := hid (show false = (((c0.toNat : Int) != 35) && s.all fun c => !special c) by rw [HP.out, h35])
  replace HP := HP2
  clear HP2 h35
  go_enter Tryz.func81, Tryz.ntmps81
  go_wp2_with fail
  go_loopg [3, 4] s.length (fun k bv iv wr => ∃ (i : Nat) (b : Bool) (rest : Str), bv = .bool b ∧ iv = .int .i64 (i : Nat) ∧ At s rest i ∧ false = (b && rest.all fun c => !special c) ∧ wr = w ∧ k = rest.length)
  case atStart => exact ⟨0, ((c0.toNat : Int) != 35), s, rfl, rfl, hst, HP.out, rfl, rfl⟩
  case round =>
    obtain ⟨i, b, rest, rfl, rfl, ha, hb, hw, rfl⟩ := hrel
    replace hw := hw.symm
    subst hw
    have HB2 := hid hb
    clear hb HP
    have hle : i ≤ s.length := by have := ha.len; omega
    cases rest with
    | nil =>
      have hge : s.length ≤ i := ha.nil_iff.1 rfl
      cases b with
      | true =>
        exact absurd HB2.out (by simp)
      | false =>
        go_wp2_with fail
        (with_reducible refine HB.out.mono ?_); rintro e w1 ⟨rfl, hw⟩; subst w1
        go_wp2
        go_ret
        exact ⟨rfl, Below.refl _ _⟩
    | cons c t =>
      have hlt := ha.lt
      have hx := ha.byte
      have hlen := ha.len
      cases b with
      | false =>
        go_wp2_with fail
        (with_reducible refine HB.out.mono ?_); rintro e w1 ⟨rfl, hw⟩; subst w1
        go_wp2
        go_ret
        exact ⟨rfl, Below.refl _ _⟩
      | true =>
        have hsp := special_fn c w
        have hq := HB2.out
        rw [List.all_cons, Bool.true_and] at hq
        obtain ⟨S, hS⟩ : ∃ S, S = special c := ⟨_, rfl⟩
        rw [← hS] at hsp hq
        have HS := hid hsp
        have HQ := hid hq
        clear hS hsp hq HB2
        go_wp2_with fail
        (with_reducible refine HS.out.mono ?_); rintro e w1 ⟨rfl, hw⟩; subst w1
        go_wp2
        go_roundg t.length
        case measure => simp
        case rel => exact ⟨i + 1, !S, t, rfl, by go_num, ha.tail, HQ.out, rfl, rfl⟩
set_option maxRecDepth 100000 in
set_option maxHeartbeats 20000000 in
theorem quote_slash_fn (c0 : UInt8) (t0 : Str) (hs : (c0 :: t0).length ≤ 1000000) (hp : plainW (c0 :: t0) = false) (hbal : balanced (c0 :: t0) = false) (w : World) (hm : ML w) :
    Calls Tryz.prog 81 #[.string ⟨(c0 :: t0).toArray⟩] w fun e w' => e = .returned (.string ⟨(slash true (c0 :: t0)).toArray⟩) ∧ Below w.heap.size w w' := by
  have hsz : (⟨(c0 :: t0).toArray⟩ : ByteArray).size = (c0 :: t0).length := Lib.size_mk _
  have hx0 : ∀ h, (⟨(c0 :: t0).toArray⟩ : ByteArray)[0]'h = c0 := fun h => rfl
  have hemp : (c0 :: t0).isEmpty = false := rfl
  have hpos : 0 < (c0 :: t0).length := by simp
  have hb := balanced_fn (c0 :: t0) hs w hm
  rw [hbal] at hb
  obtain ⟨J, hcat⟩ : ∃ J, J = slash true (c0 :: t0) := ⟨_, rfl⟩
  rw [← hcat]
  have hp2 : plainW (c0 :: t0) = ((c0 != 35) && (c0 :: t0).all fun c => !special c) := rfl
  rw [hp] at hp2
  clear hp
  have hst : At (c0 :: t0) (c0 :: t0) 0 := At.start _
  generalize c0 :: t0 = s at *
  have HB := hid hb
  have HP := hid hp2
  have HJ := hid hcat
  clear hcat
  clear hb hp2
  have h35 : (c0 != 35) = ((c0.toNat : Int) != 35) := by
    by_cases h : c0 = 35
    · subst h; rfl
    · rw [byte_ne' 35 h rfl]; simpa using h
  have HP2 := hid (show false = (((c0.toNat : Int) != 35) && s.all fun c => !special c) by rw [HP.out, h35])
  replace HP := HP2
  clear HP2 h35
  go_enter Tryz.func81, Tryz.ntmps81
  go_wp2_with fail
  go_loopg [3, 4] s.length (fun k bv iv wr => ∃ (i : Nat) (b : Bool) (rest : Str), bv = .bool b ∧ iv = .int .i64 (i : Nat) ∧ At s rest i ∧ false = (b && rest.all fun c => !special c) ∧ wr = w ∧ k = rest.length)
  case atStart => exact ⟨0, ((c0.toNat : Int) != 35), s, rfl, rfl, hst, HP.out, rfl, rfl⟩
  case round =>
    obtain ⟨i, b, rest, rfl, rfl, ha, hb, hw, rfl⟩ := hrel
    replace hw := hw.symm
    subst hw
    have HB2 := hid hb
    clear hb HP
    have hle : i ≤ s.length := by have := ha.len; omega
    cases rest with
    | nil =>
      have hge : s.length ≤ i := ha.nil_iff.1 rfl
      cases b with
      | true =>
        exact absurd HB2.out (by simp)
      | false =>
        go_wp2_with fail
        (with_reducible refine HB.out.mono ?_); rintro e w1 ⟨rfl, hw⟩; subst w1
        have hB0 := Bld.new w
        have hW0 : Below w.heap.size w (w.alloc (.cells #[.pointer none, .slice none 0 0] 111)) := (Below.refl _ _).alloc (Nat.le_refl _) _
        clear ha hx0
        go_wp2_with fail
        generalize w.alloc (.cells #[.pointer none, .slice none 0 0] 111) = w0 at *
        go_loopg [38] s.length (fun k jv wr => ∃ (j : Nat) (done rest : Str), jv = .int .i64 (j : Nat) ∧ At s rest j ∧ Bld wr w.heap.size done ∧ J = done ++ slash (j == 0) rest ∧ Below w.heap.size w wr ∧ k = rest.length ∧ done.length + 2 * rest.length ≤ 2 * s.length)
        case atStart => exact ⟨0, [], s, rfl, hst, hB0, by rw [HJ.out]; rfl, hW0, rfl, by simp⟩
        case round =>
          obtain ⟨j, done, rest, rfl, ha, hB, hj, hbl, rfl, hl⟩ := hrel
          have HD := hid hj
          clear hj hB0 hW0 w0
          have hle : j ≤ s.length := by have := ha.len; omega
          have hbs := hB.lt
          have wb92 : ∀ (u : World) (l : Str), Bld u w.heap.size l → l.length ≤ 1000000000 → Calls Tryz.prog 79 #[.pointer (some ⟨w.heap.size, 0, none⟩), .int .u8 92] u fun e w' => e = .returned .nilIface ∧ Bld w' w.heap.size (l ++ [92]) ∧ Kept w.heap.size u w' := fun u l h hl => wbyte_fn h 92 hl
          cases rest with
          | nil =>
            have hge : s.length ≤ j := ha.nil_iff.1 rfl
            have hc := hid (str_fn hB)
            go_wp2_with fail
            (with_reducible refine hc.out.mono ?_); rintro e w1 ⟨rfl, hB1, hk1⟩
            go_wp2
            go_ret
            exact ⟨by rw [HD.out]; simp [slash], hbl.trans hk1.1⟩
          | cons c t =>
            have hlt := ha.lt
            have hx := ha.byte
            have hlen := ha.len
            simp only [List.length_cons] at hl hlen
            have hsp := special_fn c wr
            obtain ⟨S, hS⟩ : ∃ S, special c = S := ⟨_, rfl⟩
            rw [hS] at hsp
            have HQ := hid hS
            have HS := hid hsp
            clear hS hsp
            cases S with
            | true =>
              rcases special_split HQ.out with rfl | rfl | rfl | rfl | rfl | h14
              · replace HS := hid (show Calls Tryz.prog 102 #[.int .u8 9] wr _ from HS.out)
                have hk : ∀ h, (⟨#[116, 110, 118, 102, 114]⟩ : ByteArray)[0]'h = 116 := fun _ => rfl
                go_wp2_with fail
                (with_reducible refine HS.out.mono ?_); rintro e w1 ⟨rfl, hw⟩; subst w1
                have hc1 := wb92 wr done hB (by omega)
                have HC1 := hid hc1
                clear hc1
                go_wp2_with fail
                (with_reducible refine HC1.out.mono ?_); rintro e w1 ⟨rfl, hB1, hk1⟩
                have hc2 : Calls Tryz.prog 79 #[.pointer (some ⟨w.heap.size, 0, none⟩), .int .u8 116] w1 fun e w' => e = .returned .nilIface ∧ Bld w' w.heap.size (done ++ [92] ++ [116]) ∧ Kept w.heap.size w1 w' := wbyte_fn hB1 116 (by simp; omega)
                have HC2 := hid hc2
                clear hc2
                go_wp2_with fail
                (with_reducible refine HC2.out.mono ?_); rintro e w2 ⟨rfl, hB2, hk2⟩
                go_wp2
                go_roundg t.length
                case measure => simp
                case rel => exact ⟨j + 1, done ++ [92] ++ [116], t, by go_num, ha.tail, hB2, by rw [HD.out, slash_yes t (.inl HQ.out)]; simp [slash1], hbl.trans (hk1.trans hk2).1, rfl, by simp; omega⟩
              · replace HS := hid (show Calls Tryz.prog 102 #[.int .u8 10] wr _ from HS.out)
                have hk : ∀ h, (⟨#[116, 110, 118, 102, 114]⟩ : ByteArray)[1]'h = 110 := fun _ => rfl
                go_wp2_with fail
                (with_reducible refine HS.out.mono ?_); rintro e w1 ⟨rfl, hw⟩; subst w1
                have hc1 := wb92 wr done hB (by omega)
                have HC1 := hid hc1
                clear hc1
                go_wp2_with fail
                (with_reducible refine HC1.out.mono ?_); rintro e w1 ⟨rfl, hB1, hk1⟩
                have hc2 : Calls Tryz.prog 79 #[.pointer (some ⟨w.heap.size, 0, none⟩), .int .u8 110] w1 fun e w' => e = .returned .nilIface ∧ Bld w' w.heap.size (done ++ [92] ++ [110]) ∧ Kept w.heap.size w1 w' := wbyte_fn hB1 110 (by simp; omega)
                have HC2 := hid hc2
                clear hc2
                go_wp2_with fail
                (with_reducible refine HC2.out.mono ?_); rintro e w2 ⟨rfl, hB2, hk2⟩
                go_wp2
                go_roundg t.length
                case measure => simp
                case rel => exact ⟨j + 1, done ++ [92] ++ [110], t, by go_num, ha.tail, hB2, by rw [HD.out, slash_yes t (.inl HQ.out)]; simp [slash1], hbl.trans (hk1.trans hk2).1, rfl, by simp; omega⟩
              · replace HS := hid (show Calls Tryz.prog 102 #[.int .u8 11] wr _ from HS.out)
                have hk : ∀ h, (⟨#[116, 110, 118, 102, 114]⟩ : ByteArray)[2]'h = 118 := fun _ => rfl
                go_wp2_with fail
                (with_reducible refine HS.out.mono ?_); rintro e w1 ⟨rfl, hw⟩; subst w1
                have hc1 := wb92 wr done hB (by omega)
                have HC1 := hid hc1
                clear hc1
                go_wp2_with fail
                (with_reducible refine HC1.out.mono ?_); rintro e w1 ⟨rfl, hB1, hk1⟩
                have hc2 : Calls Tryz.prog 79 #[.pointer (some ⟨w.heap.size, 0, none⟩), .int .u8 118] w1 fun e w' => e = .returned .nilIface ∧ Bld w' w.heap.size (done ++ [92] ++ [118]) ∧ Kept w.heap.size w1 w' := wbyte_fn hB1 118 (by simp; omega)
                have HC2 := hid hc2
                clear hc2
                go_wp2_with fail
                (with_reducible refine HC2.out.mono ?_); rintro e w2 ⟨rfl, hB2, hk2⟩
                go_wp2
                go_roundg t.length
                case measure => simp
                case rel => exact ⟨j + 1, done ++ [92] ++ [118], t, by go_num, ha.tail, hB2, by rw [HD.out, slash_yes t (.inl HQ.out)]; simp [slash1], hbl.trans (hk1.trans hk2).1, rfl, by simp; omega⟩
              · replace HS := hid (show Calls Tryz.prog 102 #[.int .u8 12] wr _ from HS.out)
                have hk : ∀ h, (⟨#[116, 110, 118, 102, 114]⟩ : ByteArray)[3]'h = 102 := fun _ => rfl
                go_wp2_with fail
                (with_reducible refine HS.out.mono ?_); rintro e w1 ⟨rfl, hw⟩; subst w1
                have hc1 := wb92 wr done hB (by omega)
                have HC1 := hid hc1
                clear hc1
                go_wp2_with fail
                (with_reducible refine HC1.out.mono ?_); rintro e w1 ⟨rfl, hB1, hk1⟩
                have hc2 : Calls Tryz.prog 79 #[.pointer (some ⟨w.heap.size, 0, none⟩), .int .u8 102] w1 fun e w' => e = .returned .nilIface ∧ Bld w' w.heap.size (done ++ [92] ++ [102]) ∧ Kept w.heap.size w1 w' := wbyte_fn hB1 102 (by simp; omega)
                have HC2 := hid hc2
                clear hc2
                go_wp2_with fail
                (with_reducible refine HC2.out.mono ?_); rintro e w2 ⟨rfl, hB2, hk2⟩
                go_wp2
                go_roundg t.length
                case measure => simp
                case rel => exact ⟨j + 1, done ++ [92] ++ [102], t, by go_num, ha.tail, hB2, by rw [HD.out, slash_yes t (.inl HQ.out)]; simp [slash1], hbl.trans (hk1.trans hk2).1, rfl, by simp; omega⟩
              · replace HS := hid (show Calls Tryz.prog 102 #[.int .u8 13] wr _ from HS.out)
                have hk : ∀ h, (⟨#[116, 110, 118, 102, 114]⟩ : ByteArray)[4]'h = 114 := fun _ => rfl
                go_wp2_with fail
                (with_reducible refine HS.out.mono ?_); rintro e w1 ⟨rfl, hw⟩; subst w1
                have hc1 := wb92 wr done hB (by omega)
                have HC1 := hid hc1
                clear hc1
                go_wp2_with fail
                (with_reducible refine HC1.out.mono ?_); rintro e w1 ⟨rfl, hB1, hk1⟩
                have hc2 : Calls Tryz.prog 79 #[.pointer (some ⟨w.heap.size, 0, none⟩), .int .u8 114] w1 fun e w' => e = .returned .nilIface ∧ Bld w' w.heap.size (done ++ [92] ++ [114]) ∧ Kept w.heap.size w1 w' := wbyte_fn hB1 114 (by simp; omega)
                have HC2 := hid hc2
                clear hc2
                go_wp2_with fail
                (with_reducible refine HC2.out.mono ?_); rintro e w2 ⟨rfl, hB2, hk2⟩
                go_wp2
                go_roundg t.length
                case measure => simp
                case rel => exact ⟨j + 1, done ++ [92] ++ [114], t, by go_num, ha.tail, hB2, by rw [HD.out, slash_yes t (.inl HQ.out)]; simp [slash1], hbl.trans (hk1.trans hk2).1, rfl, by simp; omega⟩
              · have hr : slash1 c = c := slash1_same h14
                have h9 : (9 : Int) ≤ (c.toNat : Int) := by omega
                have h13 : ¬ ((c.toNat : Int) ≤ 13) := by omega
                go_wp2_with fail
                (with_reducible refine HS.out.mono ?_); rintro e w1 ⟨rfl, hw⟩; subst w1
                have hc1 := wb92 wr done hB (by omega)
                have HC1 := hid hc1
                clear hc1
                go_wp2_with fail
                (with_reducible refine HC1.out.mono ?_); rintro e w1 ⟨rfl, hB1, hk1⟩
                have hc2 : Calls Tryz.prog 79 #[.pointer (some ⟨w.heap.size, 0, none⟩), .int .u8 c.toNat] w1 fun e w' => e = .returned .nilIface ∧ Bld w' w.heap.size (done ++ [92] ++ [c]) ∧ Kept w.heap.size w1 w' := wbyte_fn hB1 c (by simp; omega)
                have HC2 := hid hc2
                clear hc2
                go_wp2_with fail
                (with_reducible refine HC2.out.mono ?_); rintro e w2 ⟨rfl, hB2, hk2⟩
                go_wp2
                go_roundg t.length
                case measure => simp
                case rel => exact ⟨j + 1, done ++ [92] ++ [c], t, by go_num, ha.tail, hB2, by rw [HD.out, slash_yes t (.inl HQ.out)]; simp [hr], hbl.trans (hk1.trans hk2).1, rfl, by simp; omega⟩
            | false =>
              by_cases h0 : j = 0
              · subst h0
                by_cases h35 : c = 35
                · subst h35
                  replace HS := hid (show Calls Tryz.prog 102 #[.int .u8 35] wr _ from HS.out)
                  go_wp2_with fail
                  (with_reducible refine HS.out.mono ?_); rintro e w1 ⟨rfl, hw⟩; subst w1
                  have hc1 := wb92 wr done hB (by omega)
                  have HC1 := hid hc1
                  clear hc1
                  go_wp2_with fail
                  (with_reducible refine HC1.out.mono ?_); rintro e w1 ⟨rfl, hB1, hk1⟩
                  have hc2 : Calls Tryz.prog 79 #[.pointer (some ⟨w.heap.size, 0, none⟩), .int .u8 35] w1 fun e w' => e = .returned .nilIface ∧ Bld w' w.heap.size (done ++ [92] ++ [35]) ∧ Kept w.heap.size w1 w' := wbyte_fn hB1 35 (by simp; omega)
                  have HC2 := hid hc2
                  clear hc2
                  go_wp2_with fail
                  (with_reducible refine HC2.out.mono ?_); rintro e w2 ⟨rfl, hB2, hk2⟩
                  go_wp2
                  go_roundg t.length
                  case measure => simp
                  case rel => exact ⟨0 + 1, done ++ [92] ++ [35], t, by go_num, ha.tail, hB2, by rw [HD.out, slash_yes (b := ((0 : Nat) == 0)) t (.inr ⟨rfl, rfl⟩)]; simp [slash1], hbl.trans (hk1.trans hk2).1, rfl, by simp; omega⟩
                · have n35 := byte_ne 35 h35 rfl
                  go_wp2_with fail
                  (with_reducible refine HS.out.mono ?_); rintro e w1 ⟨rfl, hw⟩; subst w1
                  have hc2 := hid (wbyte_fn hB c (by omega))
                  go_wp2_with fail
                  (with_reducible refine hc2.out.mono ?_); rintro e w2 ⟨rfl, hB2, hk2⟩
                  go_wp2
                  go_roundg t.length
                  case measure => simp
                  case rel => exact ⟨0 + 1, done ++ [c], t, by go_num, ha.tail, hB2, by rw [HD.out, slash_no t HQ.out (fun _ => h35)]; simp, hbl.trans hk2.1, rfl, by simp; omega⟩
              · have hj0 : ((j : Int) == 0) = false := by rw [beq_eq_false_iff_ne]; omega
                go_wp2_with fail
                (with_reducible refine HS.out.mono ?_); rintro e w1 ⟨rfl, hw⟩; subst w1
                have hc2 := hid (wbyte_fn hB c (by omega))
                go_wp2_with fail
                (with_reducible refine hc2.out.mono ?_); rintro e w2 ⟨rfl, hB2, hk2⟩
                go_wp2
                go_roundg t.length
                case measure => simp
                case rel => exact ⟨j + 1, done ++ [c], t, by go_num, ha.tail, hB2, by rw [HD.out, slash_no t HQ.out (fun h => absurd (by simpa using h) h0)]; simp, hbl.trans hk2.1, rfl, by simp; omega⟩
    | cons c t =>
      have hlt := ha.lt
      have hx := ha.byte
      have hlen := ha.len
      cases b with
      | false =>
        go_wp2_with fail
        (with_reducible refine HB.out.mono ?_); rintro e w1 ⟨rfl, hw⟩; subst w1
        have hB0 := Bld.new w
        have hW0 : Below w.heap.size w (w.alloc (.cells #[.pointer none, .slice none 0 0] 111)) := (Below.refl _ _).alloc (Nat.le_refl _) _
        clear ha hx0
        go_wp2_with fail
        generalize w.alloc (.cells #[.pointer none, .slice none 0 0] 111) = w0 at *
        go_loopg [38] s.length (fun k jv wr => ∃ (j : Nat) (done rest : Str), jv = .int .i64 (j : Nat) ∧ At s rest j ∧ Bld wr w.heap.size done ∧ J = done ++ slash (j == 0) rest ∧ Below w.heap.size w wr ∧ k = rest.length ∧ done.length + 2 * rest.length ≤ 2 * s.length)
        case atStart => exact ⟨0, [], s, rfl, hst, hB0, by rw [HJ.out]; rfl, hW0, rfl, by simp⟩
        case round =>
          obtain ⟨j, done, rest, rfl, ha, hB, hj, hbl, rfl, hl⟩ := hrel
          have HD := hid hj
          clear hj hB0 hW0 w0
          have hle : j ≤ s.length := by have := ha.len; omega
          have hbs := hB.lt
          have wb92 : ∀ (u : World) (l : Str), Bld u w.heap.size l → l.length ≤ 1000000000 → Calls Tryz.prog 79 #[.pointer (some ⟨w.heap.size, 0, none⟩), .int .u8 92] u fun e w' => e = .returned .nilIface ∧ Bld w' w.heap.size (l ++ [92]) ∧ Kept w.heap.size u w' := fun u l h hl => wbyte_fn h 92 hl
          cases rest with
          | nil =>
            have hge : s.length ≤ j := ha.nil_iff.1 rfl
            have hc := hid (str_fn hB)
            go_wp2_with fail
            (with_reducible refine hc.out.mono ?_); rintro e w1 ⟨rfl, hB1, hk1⟩
            go_wp2
            go_ret
            exact ⟨by rw [HD.out]; simp [slash], hbl.trans hk1.1⟩
          | cons c t =>
            have hlt := ha.lt
            have hx := ha.byte
            have hlen := ha.len
            simp only [List.length_cons] at hl hlen
            have hsp := special_fn c wr
            obtain ⟨S, hS⟩ : ∃ S, special c = S := ⟨_, rfl⟩
            rw [hS] at hsp
            have HQ := hid hS
            have HS := hid hsp
            clear hS hsp
            cases S with
            | true =>
              rcases special_split HQ.out with rfl | rfl | rfl | rfl | rfl | h14
              · replace HS := hid (show Calls Tryz.prog 102 #[.int .u8 9] wr _ from HS.out)
                have hk : ∀ h, (⟨#[116, 110, 118, 102, 114]⟩ : ByteArray)[0]'h = 116 := fun _ => rfl
                go_wp2_with fail
                (with_reducible refine HS.out.mono ?_); rintro e w1 ⟨rfl, hw⟩; subst w1
                have hc1 := wb92 wr done hB (by omega)
                have HC1 := hid hc1
                clear hc1
                go_wp2_with fail
                (with_reducible refine HC1.out.mono ?_); rintro e w1 ⟨rfl, hB1, hk1⟩
                have hc2 : Calls Tryz.prog 79 #[.pointer (some ⟨w.heap.size, 0, none⟩), .int .u8 116] w1 fun e w' => e = .returned .nilIface ∧ Bld w' w.heap.size (done ++ [92] ++ [116]) ∧ Kept w.heap.size w1 w' := wbyte_fn hB1 116 (by simp; omega)
                have HC2 := hid hc2
                clear hc2
                go_wp2_with fail
                (with_reducible refine HC2.out.mono ?_); rintro e w2 ⟨rfl, hB2, hk2⟩
                go_wp2
                go_roundg t.length
                case measure => simp
                case rel => exact ⟨j + 1, done ++ [92] ++ [116], t, by go_num, ha.tail, hB2, by rw [HD.out, slash_yes t (.inl HQ.out)]; simp [slash1], hbl.trans (hk1.trans hk2).1, rfl, by simp; omega⟩
              · replace HS := hid (show Calls Tryz.prog 102 #[.int .u8 10] wr _ from HS.out)
                have hk : ∀ h, (⟨#[116, 110, 118, 102, 114]⟩ : ByteArray)[1]'h = 110 := fun _ => rfl
                go_wp2_with fail
                (with_reducible refine HS.out.mono ?_); rintro e w1 ⟨rfl, hw⟩; subst w1
                have hc1 := wb92 wr done hB (by omega)
                have HC1 := hid hc1
                clear hc1
                go_wp2_with fail
                (with_reducible refine HC1.out.mono ?_); rintro e w1 ⟨rfl, hB1, hk1⟩
                have hc2 : Calls Tryz.prog 79 #[.pointer (some ⟨w.heap.size, 0, none⟩), .int .u8 110] w1 fun e w' => e = .returned .nilIface ∧ Bld w' w.heap.size (done ++ [92] ++ [110]) ∧ Kept w.heap.size w1 w' := wbyte_fn hB1 110 (by simp; omega)
                have HC2 := hid hc2
                clear hc2
                go_wp2_with fail
                (with_reducible refine HC2.out.mono ?_); rintro e w2 ⟨rfl, hB2, hk2⟩
                go_wp2
                go_roundg t.length
                case measure => simp
                case rel => exact ⟨j + 1, done ++ [92] ++ [110], t, by go_num, ha.tail, hB2, by rw [HD.out, slash_yes t (.inl HQ.out)]; simp [slash1], hbl.trans (hk1.trans hk2).1, rfl, by simp; omega⟩
              · replace HS := hid (show Calls Tryz.prog 102 #[.int .u8 11] wr _ from HS.out)
                have hk : ∀ h, (⟨#[116, 110, 118, 102, 114]⟩ : ByteArray)[2]'h = 118 := fun _ => rfl
                go_wp2_with fail
                (with_reducible refine HS.out.mono ?_); rintro e w1 ⟨rfl, hw⟩; subst w1
                have hc1 := wb92 wr done hB (by omega)
                have HC1 := hid hc1
                clear hc1
                go_wp2_with fail
                (with_reducible refine HC1.out.mono ?_); rintro e w1 ⟨rfl, hB1, hk1⟩
                have hc2 : Calls Tryz.prog 79 #[.pointer (some ⟨w.heap.size, 0, none⟩), .int .u8 118] w1 fun e w' => e = .returned .nilIface ∧ Bld w' w.heap.size (done ++ [92] ++ [118]) ∧ Kept w.heap.size w1 w' := wbyte_fn hB1 118 (by simp; omega)
                have HC2 := hid hc2
                clear hc2
                go_wp2_with fail
                (with_reducible refine HC2.out.mono ?_); rintro e w2 ⟨rfl, hB2, hk2⟩
                go_wp2
                go_roundg t.length
                case measure => simp
                case rel => exact ⟨j + 1, done ++ [92] ++ [118], t, by go_num, ha.tail, hB2, by rw [HD.out, slash_yes t (.inl HQ.out)]; simp [slash1], hbl.trans (hk1.trans hk2).1, rfl, by simp; omega⟩
              · replace HS := hid (show Calls Tryz.prog 102 #[.int .u8 12] wr _ from HS.out)
                have hk : ∀ h, (⟨#[116, 110, 118, 102, 114]⟩ : ByteArray)[3]'h = 102 := fun _ => rfl
                go_wp2_with fail
                (with_reducible refine HS.out.mono ?_); rintro e w1 ⟨rfl, hw⟩; subst w1
                have hc1 := wb92 wr done hB (by omega)
                have HC1 := hid hc1
                clear hc1
                go_wp2_with fail
                (with_reducible refine HC1.out.mono ?_); rintro e w1 ⟨rfl, hB1, hk1⟩
                have hc2 : Calls Tryz.prog 79 #[.pointer (some ⟨w.heap.size, 0, none⟩), .int .u8 102] w1 fun e w' => e = .returned .nilIface ∧ Bld w' w.heap.size (done ++ [92] ++ [102]) ∧ Kept w.heap.size w1 w' := wbyte_fn hB1 102 (by simp; omega)
                have HC2 := hid hc2
                clear hc2
                go_wp2_with fail
                (with_reducible refine HC2.out.mono ?_); rintro e w2 ⟨rfl, hB2, hk2⟩
                go_wp2
                go_roundg t.length
                case measure => simp
                case rel => exact ⟨j + 1, done ++ [92] ++ [102], t, by go_num, ha.tail, hB2, by rw [HD.out, slash_yes t (.inl HQ.out)]; simp [slash1], hbl.trans (hk1.trans hk2).1, rfl, by simp; omega⟩
              · replace HS := hid (show Calls Tryz.prog 102 #[.int .u8 13] wr _ from HS.out)
                have hk : ∀ h, (⟨#[116, 110, 118, 102, 114]⟩ : ByteArray)[4]'h = 114 := fun _ => rfl
                go_wp2_with fail
                (with_reducible refine HS.out.mono ?_); rintro e w1 ⟨rfl, hw⟩; subst w1
                have hc1 := wb92 wr done hB (by omega)
                have HC1 := hid hc1
                clear hc1
                go_wp2_with fail
                (with_reducible refine HC1.out.mono ?_); rintro e w1 ⟨rfl, hB1, hk1⟩
                have hc2 : Calls Tryz.prog 79 #[.pointer (some ⟨w.heap.size, 0, none⟩), .int .u8 114] w1 fun e w' => e = .returned .nilIface ∧ Bld w' w.heap.size (done ++ [92] ++ [114]) ∧ Kept w.heap.size w1 w' := wbyte_fn hB1 114 (by simp; omega)
                have HC2 := hid hc2
                clear hc2
                go_wp2_with fail
                (with_reducible refine HC2.out.mono ?_); rintro e w2 ⟨rfl, hB2, hk2⟩
                go_wp2
                go_roundg t.length
                case measure => simp
                case rel => exact ⟨j + 1, done ++ [92] ++ [114], t, by go_num, ha.tail, hB2, by rw [HD.out, slash_yes t (.inl HQ.out)]; simp [slash1], hbl.trans (hk1.trans hk2).1, rfl, by simp; omega⟩
              · have hr : slash1 c = c := slash1_same h14
                have h9 : (9 : Int) ≤ (c.toNat : Int) := by omega
                have h13 : ¬ ((c.toNat : Int) ≤ 13) := by omega
                go_wp2_with fail
                (with_reducible refine HS.out.mono ?_); rintro e w1 ⟨rfl, hw⟩; subst w1
                have hc1 := wb92 wr done hB (by omega)
                have HC1 := hid hc1
                clear hc1
                go_wp2_with fail
                (with_reducible refine HC1.out.mono ?_); rintro e w1 ⟨rfl, hB1, hk1⟩
                have hc2 : Calls Tryz.prog 79 #[.pointer (some ⟨w.heap.size, 0, none⟩), .int .u8 c.toNat] w1 fun e w' => e = .returned .nilIface ∧ Bld w' w.heap.size (done ++ [92] ++ [c]) ∧ Kept w.heap.size w1 w' := wbyte_fn hB1 c (by simp; omega)
                have HC2 := hid hc2
                clear hc2
                go_wp2_with fail
                (with_reducible refine HC2.out.mono ?_); rintro e w2 ⟨rfl, hB2, hk2⟩
                go_wp2
                go_roundg t.length
                case measure => simp
                case rel => exact ⟨j + 1, done ++ [92] ++ [c], t, by go_num, ha.tail, hB2, by rw [HD.out, slash_yes t (.inl HQ.out)]; simp [hr], hbl.trans (hk1.trans hk2).1, rfl, by simp; omega⟩
            | false =>
              by_cases h0 : j = 0
              · subst h0
                by_cases h35 : c = 35
                · subst h35
                  replace HS := hid (show Calls Tryz.prog 102 #[.int .u8 35] wr _ from HS.out)
                  go_wp2_with fail
                  (with_reducible refine HS.out.mono ?_); rintro e w1 ⟨rfl, hw⟩; subst w1
                  have hc1 := wb92 wr done hB (by omega)
                  have HC1 := hid hc1
                  clear hc1
                  go_wp2_with fail
                  (with_reducible refine HC1.out.mono ?_); rintro e w1 ⟨rfl, hB1, hk1⟩
                  have hc2 : Calls Tryz.prog 79 #[.pointer (some ⟨w.heap.size, 0, none⟩), .int .u8 35] w1 fun e w' => e = .returned .nilIface ∧ Bld w' w.heap.size (done ++ [92] ++ [35]) ∧ Kept w.heap.size w1 w' := wbyte_fn hB1 35 (by simp; omega)
                  have HC2 := hid hc2
                  clear hc2
                  go_wp2_with fail
                  (with_reducible refine HC2.out.mono ?_); rintro e w2 ⟨rfl, hB2, hk2⟩
                  go_wp2
                  go_roundg t.length
                  case measure => simp
                  case rel => exact ⟨0 + 1, done ++ [92] ++ [35], t, by go_num, ha.tail, hB2, by rw [HD.out, slash_yes (b := ((0 : Nat) == 0)) t (.inr ⟨rfl, rfl⟩)]; simp [slash1], hbl.trans (hk1.trans hk2).1, rfl, by simp; omega⟩
                · have n35 := byte_ne 35 h35 rfl
                  go_wp2_with fail
                  (with_reducible refine HS.out.mono ?_); rintro e w1 ⟨rfl, hw⟩; subst w1
                  have hc2 := hid (wbyte_fn hB c (by omega))
                  go_wp2_with fail
                  (with_reducible refine hc2.out.mono ?_); rintro e w2 ⟨rfl, hB2, hk2⟩
                  go_wp2
                  go_roundg t.length
                  case measure => simp
                  case rel => exact ⟨0 + 1, done ++ [c], t, by go_num, ha.tail, hB2, by rw [HD.out, slash_no t HQ.out (fun _ => h35)]; simp, hbl.trans hk2.1, rfl, by simp; omega⟩
              · have hj0 : ((j : Int) == 0) = false := by rw [beq_eq_false_iff_ne]; omega
                go_wp2_with fail
                (with_reducible refine HS.out.mono ?_); rintro e w1 ⟨rfl, hw⟩; subst w1
                have hc2 := hid (wbyte_fn hB c (by omega))
                go_wp2_with fail
                (with_reducible refine hc2.out.mono ?_); rintro e w2 ⟨rfl, hB2, hk2⟩
                go_wp2
                go_roundg t.length
                case measure => simp
                case rel => exact ⟨j + 1, done ++ [c], t, by go_num, ha.tail, hB2, by rw [HD.out, slash_no t HQ.out (fun h => absurd (by simpa using h) h0)]; simp, hbl.trans hk2.1, rfl, by simp; omega⟩
      | true =>
        have hsp := special_fn c w
        have hq := HB2.out
        rw [List.all_cons, Bool.true_and] at hq
        obtain ⟨S, hS⟩ : ∃ S, S = special c := ⟨_, rfl⟩
        rw [← hS] at hsp hq
        have HS := hid hsp
        have HQ := hid hq
        clear hS hsp hq HB2
        go_wp2_with fail
        (with_reducible refine HS.out.mono ?_); rintro e w1 ⟨rfl, hw⟩; subst w1
        go_wp2
        go_roundg t.length
        case measure => simp
        case rel => exact ⟨i + 1, !S, t, rfl, by go_num, ha.tail, HQ.out, rfl, rfl⟩
theorem quote_fn (s : Str) (hs : s.length ≤ 1000000) (w : World) (hm : ML w) :
    Calls Tryz.prog 81 #[.string ⟨s.toArray⟩] w fun e w' => e = .returned (.string ⟨(quote s).toArray⟩) ∧ Below w.heap.size w w' := by
  cases s with
  | nil =>
    go_enter Tryz.func81, Tryz.ntmps81
    go_wp2
    go_ret
    exact ⟨rfl, Below.refl _ _⟩
  | cons c0 t0 =>
    unfold quote
    rw [if_neg (by simp)]
    by_cases h1 : plainW (c0 :: t0) = true
    · rw [if_pos h1]
      exact quote_plain_fn c0 t0 hs h1 w hm
    · rw [if_neg h1]
      by_cases h2 : balanced (c0 :: t0) = true
      · rw [if_pos h2]
        exact quote_brace_fn c0 t0 hs (by simpa using h1) h2 w hm
      · rw [if_neg h2]
        exact quote_slash_fn c0 t0 hs (by simpa using h1) (by simpa using h2) w hm
end Go.Proofs.YtabhkoklcjhlpaaGreatDoor.Pz
/-
  list.Join: what it answers, where no limit is met. strings.Join, parse.Quoted. Condition: the library's variable internal/bytealg.MaxLen holds some int.
-/
namespace Go.Proofs.YtabhkoklcjhlpaaGreatDoor.Pz
open Go.RowKit
theorem add_block (p : Addr) (i : Nat) : (p.add i).block = p.block := by
  unfold Addr.add
  split <;> rfl
/-- a slice of texts in memory -/
def StrsAt (w : World) (v : Value) (l : List Str) : Prop := ∃ a cap, v = .slice a l.length cap ∧ l.length ≤ cap ∧ ∀ i (h : i < l.length), ∃ p : Addr, a = some p ∧ p.block < w.heap.size ∧ w.cell? (p.add i) = some (.string ⟨l[i].toArray⟩)
theorem StrsAt.below {w w' : World} {v : Value} {l : List Str} (h : StrsAt w v l) (hb : Below w.heap.size w w') : StrsAt w' v l := by
  obtain ⟨a, cap, rfl, hc, h⟩ := h
  refine ⟨a, cap, rfl, hc, fun i hi => ?_⟩
  obtain ⟨p, h1, h2, h3⟩ := h i hi
  have := hb.size
  exact ⟨p, h1, by omega, by rw [hb.cell (p := p.add i) (by rw [add_block]; exact h2)]; exact h3⟩
theorem quotedL_snoc : ∀ (l : List Str) (s : Str), quotedL (l ++ [s]) = if l.isEmpty then quote s else quotedL l ++ 32 :: quote s
  | [], _ => rfl
  | [_], _ => rfl
  | a :: b :: l, s => by
    have ih := quotedL_snoc (b :: l) s
    rw [if_neg (by simp)] at ih ⊢
    rw [show a :: b :: l ++ [s] = a :: b :: (l ++ [s]) from rfl, quotedL_two, quotedL_two, show b :: (l ++ [s]) = b :: l ++ [s] from rfl, ih]
    simp
theorem quotedL_take (l : List Str) (i : Nat) (h : i < l.length) : quotedL (l.take (i + 1)) = if i = 0 then quote l[i] else quotedL (l.take i) ++ 32 :: quote l[i] := by
  rw [List.take_succ_eq_append_getElem h, quotedL_snoc]
  by_cases h0 : i = 0
  · subst h0; rfl
  · rw [if_neg h0, if_neg]
    rw [List.isEmpty_iff, List.take_eq_nil_iff]
    rintro (h1 | h1)
    · exact h0 h1
    · rw [h1] at h; simp at h
theorem quotedL_take_le (l : List Str) : ∀ (j i : Nat), i + j = l.length → (quotedL (l.take i)).length ≤ (quotedL l).length
  | 0, i, h => by rw [List.take_of_length_le (by omega)]; exact Nat.le_refl _
  | j + 1, i, h => by
    have ih := quotedL_take_le l j (i + 1) (by omega)
    rw [quotedL_take l i (by omega)] at ih
    split at ih
    · rename_i h0
      subst h0
      exact Nat.zero_le _
    · simp only [List.length_append, List.length_cons] at ih
      omega
set_option maxRecDepth 100000 in
set_option maxHeartbeats 2000000 in
theorem join_fn (l : List Str) (v : Value) (w : World) (hm : ML w) (hv : StrsAt w v l) (h1 : l.length ≤ 10000) (h2 : ∀ s ∈ l, s.length ≤ 65536) (h3 : (quotedL l).length ≤ 65536) :
    Calls Tryz.prog 48 #[v] w fun e w' => e = .returned (.tuple #[.string ⟨(quotedL l).toArray⟩, .int .i64 0]) ∧ Below w.heap.size w w' := by
  obtain ⟨a, cap, rfl, hcap, hcell⟩ := hv
  obtain ⟨n, hn⟩ : ∃ n, n = l.length := ⟨_, rfl⟩
  have hlen : ¬ ((n : Int) > 10000) := by omega
  have HV := hid hcell
  have HT := hid (quotedL_take l)
  have HL := hid (quotedL_take_le l)
  have H2 := hid h2
  have H3 := hid h3
  have HM := hid hm
  have hB0 := Bld.new w
  have hW0 : Below w.heap.size w (w.alloc (.cells #[.pointer none, .slice none 0 0] 111)) := (Below.refl _ _).alloc (Nat.le_refl _) _
  have HN := hid hn
  rw [← hn] at hcap ⊢
  clear hcell h2 h3 hm h1 hn
  go_enter Tryz.func48, Tryz.ntmps48
  go_wp2_with fail
  generalize w.alloc (.cells #[.pointer none, .slice none 0 0] 111) = w0 at *
  go_loopg [12] n (fun k iv wr => ∃ (i : Nat), iv = .int .i64 (i : Nat) ∧ i ≤ n ∧ Bld wr w.heap.size (quotedL (l.take i)) ∧ Below w.heap.size w wr ∧ k = n - i)
  case atStart => exact ⟨0, rfl, Nat.zero_le _, hB0, hW0, by simp⟩
  case round =>
    obtain ⟨i, rfl, hi, hB, hbl, rfl⟩ := hrel
    clear hB0 hW0 w0
    have hbs := hB.lt
    rcases Nat.lt_or_ge i n with hlt | hge
    · have hlt' : i < l.length := by rw [← HN.out]; exact hlt
      obtain ⟨p, rfl, hbb, hcw⟩ := HV.out i hlt'
      have hcw1 : wr.cell? (p.add i) = some (.string ⟨l[i].toArray⟩) := by rw [hbl.cell (p := p.add i) (by rw [add_block]; exact hbb)]; exact hcw
      have hs := H2.out l[i] (List.getElem_mem hlt')
      have ht := HT.out i hlt'
      have hle := HL.out (n - (i + 1)) (i + 1) (by rw [← HN.out]; omega)
      have hl3 := H3.out
      have hqm : ML wr := HM.out.below hbl
      generalize l[i] = s at hcw hcw1 hs ht
      have hsz : (⟨s.toArray⟩ : ByteArray).size = s.length := Lib.size_mk _
      have hs2 : ¬ ((s.length : Int) > 65536) := by omega
      have hq := fun u hu => quote_fn s (by omega) u hu
      obtain ⟨Q, hQ⟩ : ∃ Q, Q = quotedL (l.take (i + 1)) := ⟨_, rfl⟩
      obtain ⟨Q0, hQ0⟩ : ∃ Q, Q = quotedL (l.take i) := ⟨_, rfl⟩
      rw [← hQ, ← hQ0] at ht
      rw [← hQ] at hle
      rw [← hQ0] at hB
      have HQ := hid hQ
      have HQ0 := hid hQ0
      have HT2 := hid ht
      have HC := hid hq
      clear hQ hQ0 ht hq hcw
      have hQle : Q.length ≤ 65536 := by omega
      clear hle hl3
      by_cases h0 : i = 0
      · subst h0
        replace hcw1 : wr.cell? p = some (.string ⟨s.toArray⟩) := hcw1
        have ht := hid (HT2.out.trans (if_pos rfl))
        have hz : Q0 = [] := HQ0.out
        subst hz
        go_wp2_with fail
        (with_reducible refine (HC.out _ hqm).mono ?_); rintro e w1 ⟨rfl, hb1⟩
        have hB1 := hB.below hb1
        have hbl1 := hbl.trans (hb1.mono (by omega))
        have hc2 := hid (wstr_fn hB1 (quote s) (by rw [ht.out] at hQle; simp at hQle ⊢; omega))
        go_wp2_with fail
        (with_reducible refine hc2.out.mono ?_); rintro e w2 ⟨rfl, hB2, hk2⟩
        rw [show ([] : Str) ++ quote s = Q by rw [ht.out]; simp] at hB2
        have hc3 := hid (len_fn hB2)
        go_wp2_with fail
        (with_reducible refine hc3.out.mono ?_); rintro e w3 ⟨rfl, hw⟩; subst w3
        have hQ65 : ¬ ((Q.length : Int) > 65536) := by omega
        go_wp2
        go_roundg (n - (0 + 1))
        case measure => omega
        case rel => exact ⟨0 + 1, by go_num, by omega, by rw [← HQ.out]; exact hB2, hbl1.trans hk2.1, rfl⟩
      · have ht := hid (HT2.out.trans (if_neg h0))
        have hi0 : (0 : Int) < (i : Int) := by omega
        have hQ0le : Q0.length ≤ 65536 := by rw [HT2.out, if_neg h0] at hQle; simp at hQle; omega
        have hc1 : Calls Tryz.prog 79 #[.pointer (some ⟨w.heap.size, 0, none⟩), .int .u8 32] wr fun e w' => e = .returned .nilIface ∧ Bld w' w.heap.size (Q0 ++ [32]) ∧ Kept w.heap.size wr w' := wbyte_fn hB 32 (by omega)
        have HC1 := hid hc1
        clear hc1
        go_wp2_with fail
        (with_reducible refine HC1.out.mono ?_); rintro e wx ⟨rfl, hBx, hkx⟩
        have hblx := hbl.trans hkx.1
        replace hqm : ML wx := HM.out.below hblx
        have hbsx := hBx.lt
        clear hB hbl hbs hkx
        go_wp2_with fail
        (with_reducible refine (HC.out _ hqm).mono ?_); rintro e w1 ⟨rfl, hb1⟩
        have hB1 := hBx.below hb1
        have hbl1 := hblx.trans (hb1.mono (by omega))
        have hc2 := hid (wstr_fn hB1 (quote s) (by rw [ht.out] at hQle; simp at hQle ⊢; omega))
        go_wp2_with fail
        (with_reducible refine hc2.out.mono ?_); rintro e w2 ⟨rfl, hB2, hk2⟩
        rw [show (Q0 ++ [32]) ++ quote s = Q by rw [ht.out]; simp] at hB2
        have hc3 := hid (len_fn hB2)
        go_wp2_with fail
        (with_reducible refine hc3.out.mono ?_); rintro e w3 ⟨rfl, hw⟩; subst w3
        have hQ65 : ¬ ((Q.length : Int) > 65536) := by omega
        go_wp2
        go_roundg (n - (i + 1))
        case measure => omega
        case rel => exact ⟨i + 1, by go_num, by omega, by rw [← HQ.out]; exact hB2, hbl1.trans hk2.1, rfl⟩
    · obtain rfl : i = n := by omega
      have hc := hid (str_fn hB)
      have hR : quotedL (l.take i) = quotedL l := by rw [List.take_of_length_le (by rw [← HN.out]; exact Nat.le_refl _)]
      have HR := hid hR
      clear hR
      go_wp2_with fail
      (with_reducible refine hc.out.mono ?_); rintro e w1 ⟨rfl, hB1, hk1⟩
      go_wp2
      go_ret2
      rw [HR.out]
      exact ⟨rfl, hbl.trans hk1.1⟩
end Go.Proofs.YtabhkoklcjhlpaaGreatDoor.Pz
/-
  What was read, in memory: rows of tokens, of words, of commands.
-/
namespace Go.Proofs.YtabhkoklcjhlpaaGreatDoor.Pz
open Go Go.RowKit
/-- below block number B all blocks but one stand as they stood -/
structure But (rb B : Nat) (w w' : World) : Prop where
  os : w'.os = w.os
  tape : w'.tape = w.tape
  output : w'.output = w.output
  size : w.heap.size ≤ w'.heap.size
  block : ∀ k, k < B → k ≠ rb → w'.heap[k]? = w.heap[k]?
theorem But.refl (rb B : Nat) (w : World) : But rb B w w := ⟨rfl, rfl, rfl, Nat.le_refl _, fun _ _ _ => rfl⟩
theorem But.trans {rb B : Nat} {a b c : World} (h : But rb B a b) (k : But rb B b c) : But rb B a c :=
  ⟨k.os.trans h.os, k.tape.trans h.tape, k.output.trans h.output, Nat.le_trans h.size k.size, fun i hi hr => (k.block i hi hr).trans (h.block i hi hr)⟩
theorem But.mono {rb B B' : Nat} {w w' : World} (h : But rb B w w') (hB : B' ≤ B) : But rb B' w w' := ⟨h.os, h.tape, h.output, h.size, fun k hk => h.block k (Nat.lt_of_lt_of_le hk hB)⟩
theorem but_of_below {B : Nat} {w w' : World} (h : Below B w w') (rb : Nat) : But rb B w w' := ⟨h.os, h.tape, h.output, h.size, fun k hk _ => h.block k hk⟩
/-- where the one block is new, all old ones stand -/
theorem But.below {rb B : Nat} {w w' : World} (h : But rb B w w') (hr : B ≤ rb) : Below B w w' := ⟨h.os, h.tape, h.output, h.size, fun k hk => h.block k hk (by omega)⟩
theorem But.drew {rb B : Nat} {a w : World} (h : But rb B a w) : But rb B a w.drew := ⟨h.os, h.tape, h.output, h.size, h.block⟩
theorem But.alloc {rb B : Nat} {a w : World} (h : But rb B a w) (hB : B ≤ w.heap.size) (o : Obj) : But rb B a (w.alloc o) :=
  h.trans ⟨rfl, rfl, rfl, by simp, fun k hk _ => Below.heap_alloc _ _ _ (by omega)⟩
theorem But.setCell {rb B : Nat} {a w : World} (h : But rb B a w) {p : Addr} (hp : p.block = rb ∨ B ≤ p.block) (u : Value) : But rb B a (w.setCell p u) :=
  h.trans ⟨rfl, rfl, rfl, by simp [World.setCell], fun k hk hr => Below.heap_setCell _ _ _ _ (by omega)⟩
theorem But.grown {rb B : Nat} {a w w' : World} {row : Option Nat} (h : But rb B a w) (hg : w.grownBy w' row) (hB : B ≤ w.heap.size) (hr : ∀ k, row = some k → B ≤ k) : But rb B a w' :=
  h.trans ⟨hg.os, hg.tape, hg.output, hg.size, fun k hk _ => hg.block k (by omega) (fun e => by have := hr k e.symm; omega)⟩
theorem But.cell {rb B : Nat} {w w' : World} (h : But rb B w w') {p : Addr} (hp : p.block < B) (hr : p.block ≠ rb) : w'.cell? p = w.cell? p := World.cell?_of_block (w := w) (h.block p.block hp hr)
/-- a row stands where its block stands -/
theorem ownsRow_heap {w w' : World} {base : Nat} {e : TypeId} {size : Nat} {v : Value} {n : Nat} {xs : List Value} (h : w.ownsRow base e size v n xs) (hh : ∀ g, v.ownBlock = some g → w'.heap[g]? = w.heap[g]?) : w'.ownsRow base e size v n xs := by
  refine ⟨h.1, ?_⟩
  rcases h.2 with hn | ⟨g, cap, cur, rfl, hb, hgg, rest⟩
  · exact .inl hn
  · exact .inr ⟨g, cap, cur, rfl, hb, (hh g rfl).trans hgg, rest⟩
/-- a slice of elements of several cells: its block is one of those that are allowed -/
def RowIs {α : Type} (E : TypeId) (sz : Nat) (elt : List Value → α → Prop) (w : World) (ok : Nat → Prop) (v : Value) (xs : List α) : Prop :=
  ∃ css : List (List Value), w.ownsRow 0 E sz v xs.length css.flatten ∧ (∀ g, v.ownBlock = some g → ok g) ∧ css.length = xs.length ∧ ∀ i (h1 : i < css.length) (h2 : i < xs.length), elt css[i] xs[i] ∧ css[i].length = sz
/-- the cells of a token, and all that lies below it -/
inductive TokIs (TE : TypeId) (w : World) (ok : Nat → Prop) : List Value → Tok → Prop
  | mk (k : Nat) (s : Str) (h : Bool) (ix : List Tok) (v : Value) (css : List (List Value)) (hrow : w.ownsRow 0 TE 4 v ix.length css.flatten) (hok : ∀ g, v.ownBlock = some g → ok g)
      (hl : css.length = ix.length) (hs : ∀ i (h1 : i < css.length) (h2 : i < ix.length), TokIs TE w ok css[i] ix[i]) :
      TokIs TE w ok [.int .i64 (k : Int), .string ⟨s.toArray⟩, .bool h, v] (.mk k s h ix)
theorem TokIs.keep {TE : TypeId} {w w' : World} {ok ok' : Nat → Prop} {cs : List Value} {t : Tok} (h : TokIs TE w ok cs t) (hk : ∀ g, ok g → ok' g) (hh : ∀ g, ok g → w'.heap[g]? = w.heap[g]?) : TokIs TE w' ok' cs t := by
  induction h with
  | mk k s h ix v css hrow hok hl hs ih => exact .mk k s h ix v css (ownsRow_heap hrow fun g hg => hh g (hok g hg)) (fun g hg => hk g (hok g hg)) hl ih
theorem TokIs.len {TE : TypeId} {w : World} {ok : Nat → Prop} {cs : List Value} {t : Tok} (h : TokIs TE w ok cs t) : cs.length = 4 := by
  cases h; rfl
def ToksIs (TE : TypeId) (w : World) (ok : Nat → Prop) (v : Value) (ts : List Tok) : Prop := RowIs TE 4 (TokIs TE w ok) w ok v ts
theorem TokIs.of {TE : TypeId} {w : World} {ok : Nat → Prop} {v : Value} {ix : List Tok} (h : ToksIs TE w ok v ix) (k : Nat) (s : Str) (b : Bool) : TokIs TE w ok [.int .i64 (k : Int), .string ⟨s.toArray⟩, .bool b, v] (.mk k s b ix) := by
  obtain ⟨css, h1, h2, h3, h4⟩ := h
  exact .mk k s b ix v css h1 h2 h3 fun i a b => (h4 i a b).1
theorem RowIs.keep {α : Type} {E : TypeId} {sz : Nat} {elt elt' : List Value → α → Prop} {w w' : World} {ok ok' : Nat → Prop} {v : Value} {xs : List α} (h : RowIs E sz elt w ok v xs) (hk : ∀ g, ok g → ok' g) (hh : ∀ g, ok g → w'.heap[g]? = w.heap[g]?)
    (he : ∀ cs x, elt cs x → elt' cs x) : RowIs E sz elt' w' ok' v xs := by
  obtain ⟨css, h1, h2, h3, h4⟩ := h
  exact ⟨css, ownsRow_heap h1 fun g hg => hh g (h2 g hg), fun g hg => hk g (h2 g hg), h3, fun i a b => ⟨he _ _ (h4 i a b).1, (h4 i a b).2⟩⟩
theorem RowIs.nil {α : Type} {E : TypeId} {sz : Nat} {elt : List Value → α → Prop} {w : World} {ok : Nat → Prop} : RowIs E sz elt w ok (.slice none 0 0) [] := by
  refine ⟨[], World.ownsRow_nil _ _ _ _, ?_, rfl, ?_⟩
  · intro g hg
    simp [Value.ownBlock] at hg
  · intro i h1
    simp at h1
/-- behind an append of one element -/
theorem RowIs.snoc {α : Type} {E : TypeId} {sz : Nat} {elt : List Value → α → Prop} {w' : World} {ok : Nat → Prop} {v' : Value} {xs : List α} {x : α} {css : List (List Value)} {cs : List Value}
    (hrow : w'.ownsRow 0 E sz v' (xs.length + 1) (css.flatten ++ cs)) (hok : ∀ g, v'.ownBlock = some g → ok g) (hl : css.length = xs.length)
    (hold : ∀ i (h1 : i < css.length) (h2 : i < xs.length), elt css[i] xs[i] ∧ css[i].length = sz) (hx : elt cs x) (hc : cs.length = sz) : RowIs E sz elt w' ok v' (xs ++ [x]) := by
  refine ⟨css ++ [cs], by simpa using hrow, hok, by simp [hl], fun i h1 h2 => ?_⟩
  rcases Nat.lt_or_ge i css.length with hi | hi
  · rw [List.getElem_append_left hi, List.getElem_append_left (by omega)]
    exact hold i hi (by omega)
  · have : i = css.length := by simp at h1; omega
    subst this
    simp only [List.getElem_concat_length]
    have e2 : (xs ++ [x])[css.length]'h2 = x := by
      rw [List.getElem_append_right (by omega)]
      simp [hl]
    rw [e2]
    exact ⟨hx, hc⟩
theorem RowIs.app {α : Type} {E : TypeId} {sz : Nat} {elt : List Value → α → Prop} {w' : World} {ok : Nat → Prop} {v' : Value} {xs ys : List α} {css ds : List (List Value)}
    (hrow : w'.ownsRow 0 E sz v' (xs.length + ys.length) (css.flatten ++ ds.flatten)) (hok : ∀ g, v'.ownBlock = some g → ok g) (hl : css.length = xs.length) (hl2 : ds.length = ys.length)
    (h1 : ∀ i (h1 : i < css.length) (h2 : i < xs.length), elt css[i] xs[i] ∧ css[i].length = sz) (h2 : ∀ i (h1 : i < ds.length) (h2 : i < ys.length), elt ds[i] ys[i] ∧ ds[i].length = sz) : RowIs E sz elt w' ok v' (xs ++ ys) := by
  refine ⟨css ++ ds, by simpa using hrow, hok, by simp [hl, hl2], fun i a b => ?_⟩
  rcases Nat.lt_or_ge i css.length with hi | hi
  · rw [List.getElem_append_left hi, List.getElem_append_left (by omega)]
    exact h1 i hi (by omega)
  · rw [List.getElem_append_right hi]
    have e2 : (xs ++ ys)[i]'b = ys[i - css.length]'(by simp at b; omega) := by
      rw [List.getElem_append_right (by omega)]
      simp [hl]
    rw [e2]
    exact h2 _ _ _
/-- the cells of element i in the flat row -/
theorem flat_get {css : List (List Value)} {sz : Nat} (hs : ∀ i (h : i < css.length), css[i].length = sz) : ∀ (i j : Nat) (h : i < css.length), j < sz → css.flatten[i * sz + j]? = css[i][j]? := by
  induction css with
  | nil => intro i j h; simp at h
  | cons c cs ih =>
    intro i j h hj
    have hc : c.length = sz := hs 0 (by simp)
    rw [List.flatten_cons]
    cases i with
    | zero =>
      rw [List.getElem?_append_left (by omega)]
      simp
    | succ i =>
      rw [List.getElem?_append_right (by rw [hc, Nat.succ_mul]; omega), hc, show (i + 1) * sz + j - sz = i * sz + j by rw [Nat.succ_mul]; omega]
      rw [ih (fun k hk => by have := hs (k + 1) (by simp; omega); simpa using this) i j (by simpa using h) hj]
      simp
/-- a cell of a row -/
theorem RowIs.cell {α : Type} {E : TypeId} {sz : Nat} {elt : List Value → α → Prop} {w : World} {ok : Nat → Prop} {v : Value} {xs : List α} (h : RowIs E sz elt w ok v xs) :
    ∃ a cap, v = .slice a xs.length cap ∧ xs.length ≤ cap ∧ ∀ i (hi : i < xs.length), ∃ g cs, a = some ⟨g, 0, none⟩ ∧ elt cs xs[i] ∧ cs.length = sz ∧ g < w.heap.size ∧ ∀ j u, cs[j]? = some u → w.cell? ⟨g, i * sz + j, none⟩ = some u := by
  obtain ⟨css, h1, h2, h3, h4⟩ := h
  obtain ⟨hl, ⟨rfl, h0⟩ | ⟨g, cap, cur, rfl, hb, hh, hc, hm, hs, ht⟩⟩ := h1
  · obtain rfl : xs = [] := List.length_eq_zero_iff.1 h0
    exact ⟨none, 0, rfl, Nat.le_refl _, fun i hi => absurd hi (by simp)⟩
  · refine ⟨some ⟨g, 0, none⟩, cap, rfl, hc, fun i hi => ?_⟩
    obtain ⟨q1, q2⟩ := h4 i (by omega) hi
    refine ⟨g, css[i]'(by omega), rfl, q1, q2, (Array.getElem?_eq_some_iff.1 hh).1, fun j u hu => ?_⟩
    have hj : j < sz := by
      rcases Nat.lt_or_ge j sz with h' | h'
      · exact h'
      · rw [List.getElem?_eq_none (by omega)] at hu; cases hu
    have hf := flat_get (css := css) (sz := sz) (fun i h => (h4 i h (by omega)).2) i j (by omega) hj
    rw [hu, ← ht, List.getElem?_take] at hf
    split at hf
    · rw [cell_of_row w g (i * sz + j) cur E (0, 0) hh]
      simpa using hf
    · cases hf
theorem ToksIs.keep {TE : TypeId} {w w' : World} {ok ok' : Nat → Prop} {v : Value} {ts : List Tok} (h : ToksIs TE w ok v ts) (hk : ∀ g, ok g → ok' g) (hh : ∀ g, ok g → w'.heap[g]? = w.heap[g]?) : ToksIs TE w' ok' v ts :=
  RowIs.keep h hk hh fun _ _ he => he.keep hk hh
/-- the cells of a word -/
def WdIs (TE : TypeId) (w : World) (ok : Nat → Prop) (cs : List Value) (x : Wd) : Prop := ∃ v, cs = [.bool x.spread, v] ∧ ToksIs TE w ok v x.toks
theorem WdIs.keep {TE : TypeId} {w w' : World} {ok ok' : Nat → Prop} {cs : List Value} {x : Wd} (h : WdIs TE w ok cs x) (hk : ∀ g, ok g → ok' g) (hh : ∀ g, ok g → w'.heap[g]? = w.heap[g]?) : WdIs TE w' ok' cs x := by
  obtain ⟨v, rfl, h⟩ := h
  exact ⟨v, rfl, h.keep hk hh⟩
def WdsIs (TE WE : TypeId) (w : World) (ok : Nat → Prop) (v : Value) (ws : List Wd) : Prop := RowIs WE 2 (WdIs TE w ok) w ok v ws
theorem WdsIs.keep {TE WE : TypeId} {w w' : World} {ok ok' : Nat → Prop} {v : Value} {ws : List Wd} (h : WdsIs TE WE w ok v ws) (hk : ∀ g, ok g → ok' g) (hh : ∀ g, ok g → w'.heap[g]? = w.heap[g]?) : WdsIs TE WE w' ok' v ws :=
  RowIs.keep h hk hh fun _ _ he => he.keep hk hh
/-- the cells of a command of a text of n bytes -/
def CmdIs (TE WE : TypeId) (n : Nat) (w : World) (ok : Nat → Prop) (cs : List Value) (c : Cmd) : Prop := ∃ v, cs = [.int .i64 ((n : Int) - (c.back : Int)), v] ∧ WdsIs TE WE w ok v c.words
theorem CmdIs.keep {TE WE : TypeId} {n : Nat} {w w' : World} {ok ok' : Nat → Prop} {cs : List Value} {c : Cmd} (h : CmdIs TE WE n w ok cs c) (hk : ∀ g, ok g → ok' g) (hh : ∀ g, ok g → w'.heap[g]? = w.heap[g]?) : CmdIs TE WE n w' ok' cs c := by
  obtain ⟨v, rfl, h⟩ := h
  exact ⟨v, rfl, h.keep hk hh⟩
def CmdsIs (TE WE CE : TypeId) (n : Nat) (w : World) (ok : Nat → Prop) (v : Value) (cs : List Cmd) : Prop := RowIs CE 2 (CmdIs TE WE n w ok) w ok v cs
theorem CmdsIs.keep {TE WE CE : TypeId} {n : Nat} {w w' : World} {ok ok' : Nat → Prop} {v : Value} {cs : List Cmd} (h : CmdsIs TE WE CE n w ok v cs) (hk : ∀ g, ok g → ok' g) (hh : ∀ g, ok g → w'.heap[g]? = w.heap[g]?) : CmdsIs TE WE CE n w' ok' v cs :=
  RowIs.keep h hk hh fun _ _ he => he.keep hk hh
end Go.Proofs.YtabhkoklcjhlpaaGreatDoor.Pz
/-
  Rows of texts of the call's own, and what is put behind them.
-/
namespace Go.Proofs.YtabhkoklcjhlpaaGreatDoor.Pz
open Go.RowKit
theorem Tryz.infoS : (Tryz.prog.info? 9).map (fun i => (i.zero, i.size, i.bytes)) = some (some (.string ⟨#[]⟩), 1, 16) := by kernel_rfl
def strCells (l : List Str) : List Value := l.map fun s => .string ⟨s.toArray⟩
theorem add_none (b o i : Nat) : (⟨b, o, none⟩ : Addr).add i = ⟨b, o + i, none⟩ := by
  simp [Addr.add]
theorem ownsRow_base {w : World} {base : Nat} {e : TypeId} {size : Nat} {v : Value} {n : Nat} {xs : List Value} (h : w.ownsRow base e size v n xs) : ∀ g, v.ownBlock = some g → base ≤ g := by
  intro g hg
  rcases h.2 with ⟨rfl, _⟩ | ⟨g', cap, cur, rfl, hb, hgg, rest⟩
  · simp [Value.ownBlock] at hg
  · simp only [Value.ownBlock, Option.some.injEq] at hg
    omega
theorem ownsRow_heap2 {w w' : World} {base : Nat} {e : TypeId} {size : Nat} {v : Value} {n : Nat} {xs : List Value} (h : w.ownsRow base e size v n xs)
    (hh : ∀ g cur, v.ownBlock = some g → w.heap[g]? = some (.cells cur e (0, 0)) → w'.heap[g]? = some (.cells cur e (0, 0))) : w'.ownsRow base e size v n xs := by
  refine ⟨h.1, ?_⟩
  rcases h.2 with hn | ⟨g, cap, cur, rfl, hb, hgg, rest⟩
  · exact .inl hn
  · exact .inr ⟨g, cap, cur, rfl, hb, hh g cur rfl hgg, rest⟩
theorem ownsRow_lt {w : World} {base : Nat} {e : TypeId} {size : Nat} {v : Value} {n : Nat} {xs : List Value} (h : w.ownsRow base e size v n xs) : ∀ g, v.ownBlock = some g → g < w.heap.size ∧ ∃ cur, w.heap[g]? = some (.cells cur e (0, 0)) := by
  intro g hg
  rcases h.2 with ⟨rfl, _⟩ | ⟨g', cap, cur, rfl, hb, hgg, rest⟩
  · simp [Value.ownBlock] at hg
  · simp only [Value.ownBlock, Option.some.injEq] at hg
    subst hg
    exact ⟨(Array.getElem?_eq_some_iff.1 hgg).1, cur, hgg⟩
theorem strCells_app (a b : List Str) : strCells (a ++ b) = strCells a ++ strCells b := by simp [strCells]
theorem strCells_len (a : List Str) : (strCells a).length = a.length := by simp [strCells]
theorem strCells_one (a : List Str) : ∀ u ∈ strCells a, u.oneCell' = true := by
  intro u hu
  obtain ⟨s, _, rfl⟩ := List.mem_map.1 hu
  rfl
/-- a row of texts of the call's own -/
def RowS (B : Nat) (w : World) (v : Value) (l : List Str) : Prop := w.ownsRow B 9 1 v l.length (strCells l)
theorem RowS.nil (B : Nat) (w : World) : RowS B w (.slice none 0 0) [] := World.ownsRow_nil _ _ _ _
theorem RowS.lt {B : Nat} {w : World} {v : Value} {l : List Str} (h : RowS B w v l) : ∀ g, v.ownBlock = some g → g < w.heap.size ∧ B ≤ g := fun g hg => ⟨(ownsRow_lt h g hg).1, ownsRow_base h g hg⟩
theorem RowS.below {B C : Nat} {w w' : World} {v : Value} {l : List Str} (h : RowS B w v l) (hb : Below C w w') (hC : ∀ g, v.ownBlock = some g → g < C) : RowS B w' v l := ownsRow_heap h fun g hg => hb.block g (hC g hg)
theorem RowS.on {B : Nat} {w w' : World} {v : Value} {l : List Str} (h : RowS B w v l) (hb : Below w.heap.size w w') : RowS B w' v l := h.below hb fun g hg => (h.lt g hg).1
/-- the blocks that another row of the call's own leaves -/
theorem RowS.grown {C : Nat} {w w' : World} {v u : Value} {l : List Str} (h : RowS C w u l) (hg : w.grownBy w' v.ownBlock) (hv : ∀ g, v.ownBlock = some g → u.ownBlock ≠ some g) : RowS C w' u l := by
  refine ownsRow_heap h fun g hgu => hg.block g (h.lt g hgu).1 fun e => hv g e.symm hgu
theorem app_one {w : World} {N : Nat} (hN : w.heap.size = N) {ops : Array Oper} {rest : List Oper} {o : Oper} {a : Act} {Q : Exit → Act → World → Prop} (hgd : o.guard = none) (s x : Operand)
    (ho : o.op = .call { callee := .builtin .append, args := #[s, x], argTypes := #[22, 22] }) (B : Nat) (v : Value) (l : List Str) (q : Str)
    (hs : a.eval s = v) (hown : RowS B w v l) (hx : a.eval x = .slice (some ⟨N, 0, none⟩) 1 1) (hB : B ≤ w.heap.size) (hl : l.length ≤ 10000000)
    (h : ∀ v' w', RowS B w' v' (l ++ [q]) → w.grownBy w' v.ownBlock → (∀ g, v'.ownBlock = some g → v.ownBlock = some g ∨ w.heap.size ≤ g) → wpList Tryz.prog ops Q rest (a.put o.dst v') w') :
    wpList Tryz.prog ops Q (o :: rest) a (w.alloc (.cells #[.string ⟨q.toArray⟩] 9)) := by
  obtain ⟨i0, hi, hz0, hz1, hz2⟩ := info_parts Tryz.infoS
  subst hN
  have hown' : (w.alloc (.cells #[.string ⟨q.toArray⟩] 9)).ownsRow B 9 1 v l.length (strCells l) := World.ownsRow.alloc hown _
  refine wpList_append_own_at _ hgd s x 22 ho B 9 i0 (.string ⟨#[]⟩) 1 16 Tryz.underlying22 hi hz0 hz1 hz2 rfl (by decide) v l.length (strCells l) hs hown' ⟨w.heap.size, 0, none⟩ 1 1 [.string ⟨q.toArray⟩] hx rfl (cell_one_new _ _ _) (strCells_one [q]) ?_ ?_ ?_ ?_
  · unfold maxLen; omega
  · omega
  · simp; omega
  · intro v' w' hrow hg _ hat
    refine h v' w' ?_ ?_ ?_
    · show w'.ownsRow B 9 1 v' (l ++ [q]).length (strCells (l ++ [q]))
      rw [strCells_app, List.length_append]
      exact hrow
    · refine ⟨hg.os, hg.tape, hg.output, ?_, fun k hk hr => ?_⟩
      · have := hg.size; simp at this; omega
      · rw [hg.block k (by simp; omega) hr]
        exact Below.heap_alloc _ _ _ (by omega)
    · intro g hgv
      rcases hat with h2 | h2
      · exact .inl (by rw [← h2]; exact hgv)
      · rw [h2] at hgv
        have := Option.some.inj hgv
        simp at this
        exact .inr (by omega)
theorem app_row {w : World} {ops : Array Oper} {rest : List Oper} {o : Oper} {a : Act} {Q : Exit → Act → World → Prop} (hgd : o.guard = none) (s x : Operand)
    (ho : o.op = .call { callee := .builtin .append, args := #[s, x], argTypes := #[22, 22] }) (B C : Nat) (v u : Value) (l m : List Str)
    (hs : a.eval s = v) (hown : RowS B w v l) (hx : a.eval x = u) (hrow : RowS C w u m) (hB : B ≤ w.heap.size) (hl : l.length + m.length ≤ 10000000)
    (h : ∀ v' w', RowS B w' v' (l ++ m) → w.grownBy w' v.ownBlock → (∀ g, v'.ownBlock = some g → v.ownBlock = some g ∨ w.heap.size ≤ g) → wpList Tryz.prog ops Q rest (a.put o.dst v') w') :
    wpList Tryz.prog ops Q (o :: rest) a w := by
  obtain ⟨i0, hi, hz0, hz1, hz2⟩ := info_parts Tryz.infoS
  rcases hrow.2 with ⟨rfl, hm0⟩ | ⟨g, cap, cur, rfl, hb, hg, rest'⟩
  · obtain rfl : m = [] := List.length_eq_zero_iff.1 hm0
    refine wpList_append_own_none hgd s x 22 ho B 9 i0 1 Tryz.underlying22 hi v l.length (strCells l) hs hown hx ?_
    exact h v w (by simpa using hown) ⟨rfl, rfl, rfl, Nat.le_refl _, fun _ _ _ => rfl⟩ fun g hg => .inl hg
  · refine wpList_append_own_at w hgd s x 22 ho B 9 i0 (.string ⟨#[]⟩) 1 16 Tryz.underlying22 hi hz0 hz1 hz2 rfl (by decide) v l.length (strCells l) hs hown ⟨g, 0, none⟩ m.length cap (strCells m) hx (by rw [strCells_len]; omega) (fun j u hj => World.ownsRow.cells hrow rfl j u hj) (strCells_one m) ?_ ?_ hB ?_
    · unfold maxLen; omega
    · omega
    · intro v' w' hrow' hg' _ hat
      refine h v' w' ?_ hg' ?_
      · show w'.ownsRow B 9 1 v' (l ++ m).length (strCells (l ++ m))
        rw [strCells_app, List.length_append]
        exact hrow'
      · intro g2 hgv
        rcases hat with h2 | h2
        · exact .inl (by rw [← h2]; exact hgv)
        · rw [h2] at hgv
          have := Option.some.inj hgv
          exact .inr (by omega)
theorem RowS.shape {B : Nat} {w : World} {v : Value} {l : List Str} (h : RowS B w v l) : ∃ a c, v = .slice a l.length c := by
  rcases h.2 with ⟨rfl, h0⟩ | ⟨g, cap, cur, rfl, _⟩
  · exact ⟨none, 0, by rw [h0]⟩
  · exact ⟨_, _, rfl⟩
theorem RowS.at {B : Nat} {w : World} {a : Option Addr} {n c : Nat} {l : List Str} (h : RowS B w (.slice a n c) l) {i : Nat} (hi : i < l.length) : ∃ g, a = some ⟨g, 0, none⟩ ∧ n = l.length ∧ w.cell? ⟨g, i, none⟩ = some (.string ⟨l[i].toArray⟩) := by
  rcases h.2 with ⟨_, h0⟩ | ⟨g, cap, cur, e, _⟩
  · omega
  · have hc := World.ownsRow.cells h (show (Value.slice a n c).ownBlock = some g by rw [e]; rfl) i (.string ⟨l[i].toArray⟩) (by simp [strCells, hi])
    simp only [Value.slice.injEq] at e
    rw [add_none, Nat.zero_add] at hc
    exact ⟨g, e.1, e.2.1, hc⟩
theorem RowS.mono {B C : Nat} {w : World} {v : Value} {l : List Str} (h : RowS B w v l) (hb : C ≤ B) : RowS C w v l := by
  refine ⟨h.1, ?_⟩
  rcases h.2 with hn | ⟨g, cap, cur, e, hB, rest⟩
  · exact .inl hn
  · exact .inr ⟨g, cap, cur, e, by omega, rest⟩
end Go.Proofs.YtabhkoklcjhlpaaGreatDoor.Pz
/-
  list.elements, list.Split.
-/
namespace Go.Proofs.YtabhkoklcjhlpaaGreatDoor.Pz
open Go.RowKit Go.Shelf
attribute [local go_sem] Oper.semAt_some
set_option maxHeartbeats 1000000 in
theorem elements_fn (s : Str) (w : World) : Calls Tryz.prog 90 #[.string ⟨s.toArray⟩] w fun e w' => ∃ q, e = .returned (.func (.func 116) #[] #[.pointer (some ⟨w.heap.size, 0, none⟩), .pointer (some ⟨q, 0, none⟩)]) ∧ Below w.heap.size w w' ∧
    w'.heap[w.heap.size]? = some (.cells #[.string ⟨s.toArray⟩] 9 (0, 0)) ∧ w'.heap[q]? = some (.cells rdCells 159 (0, 0)) ∧ w.heap.size < q := by
  have hmf : ∀ (fn : Fn) (first cap : Array Value) (w : World), (Instr.makeFunc fn first cap).run Tryz.prog w = .ok (.func fn first cap) w := fun _ _ _ _ => rfl
  obtain ⟨w1, hw1⟩ : ∃ w1, w1 = w.alloc (.cells #[.string ⟨s.toArray⟩] 9) := ⟨_, rfl⟩
  have hb1 : Below w.heap.size w w1 := by rw [hw1]; exact belowA _ _
  have h1 : w1.heap[w.heap.size]? = some (.cells #[.string ⟨s.toArray⟩] 9 (0, 0)) := by rw [hw1]; exact heap_alloc_new _ _
  have hs1 : w1.heap.size = w.heap.size + 1 := by rw [hw1]; simp
  have hr := hid (readers_fn w1)
  have HW1 := hid hw1
  have HB1 := hid hb1
  have H1 := hid h1
  have HS1 := hid hs1
  clear hw1 hb1 h1 hs1
  go_enter Tryz.func90, Tryz.ntmps90
  go_wp2_with fail
  rw [← HW1.out]
  (with_reducible refine hr.out.mono ?_); rintro e w2 ⟨rfl, hb2⟩
  have hs2 := hb2.size
  have H2 := hid ((hb2.block _ (by have := HS1.out; omega)).trans H1.out)
  have HB2 := hid (HB1.out.trans (hb2.mono (by have := HS1.out; omega)))
  clear hb2
  go_wp2
  go_ret
  refine ⟨w2.heap.size, rfl, HB2.out.trans ((belowA _ _).mono HB2.out.size), (Below.heap_alloc _ _ _ (by have := HS1.out; omega)).trans H2.out, heap_alloc_new _ _, by have := HS1.out; omega⟩
theorem app_oneIn {F : Fence} {nF : Nat} {w : World} {N : Nat} (hN : w.heap.size = N) {ops : Array Oper} {rest : List Oper} {o : Oper} {a : Act} {Q : Exit → Act → World → Prop} (hgd : o.guard = none) (s x : Operand)
    (ho : o.op = .call { callee := .builtin .append, args := #[s, x], argTypes := #[22, 22] }) (B : Nat) (v : Value) (l : List Str) (q : Str)
    (hs : a.eval s = v) (hown : RowS B w v l) (hx : a.eval x = .slice (some ⟨N, 0, none⟩) 1 1) (hB : B ≤ w.heap.size) (hl : l.length ≤ 10000000)
    (h : ∀ v' w', RowS B w' v' (l ++ [q]) → w.grownBy w' v.ownBlock → (∀ g, v'.ownBlock = some g → v.ownBlock = some g ∨ w.heap.size ≤ g) → wpListIn F nF Tryz.prog ops Q rest (a.put o.dst v') w') :
    wpListIn F nF Tryz.prog ops Q (o :: rest) a (w.alloc (.cells #[.string ⟨q.toArray⟩] 9)) := by
  obtain ⟨i0, hi, hz0, hz1, hz2⟩ := info_parts Tryz.infoS
  subst hN
  have hown' : (w.alloc (.cells #[.string ⟨q.toArray⟩] 9)).ownsRow B 9 1 v l.length (strCells l) := World.ownsRow.alloc hown _
  refine wpListIn_append_own_at _ hgd s x 22 ho B 9 i0 (.string ⟨#[]⟩) 1 16 Tryz.underlying22 hi hz0 hz1 hz2 rfl (by decide) v l.length (strCells l) hs hown' ⟨w.heap.size, 0, none⟩ 1 1 [.string ⟨q.toArray⟩] hx rfl (cell_one_new _ _ _) (strCells_one [q]) ?_ ?_ ?_ ?_
  · unfold maxLen; omega
  · omega
  · simp; omega
  · intro v' w' hrow hg _ hat
    refine h v' w' ?_ ?_ ?_
    · show w'.ownsRow B 9 1 v' (l ++ [q]).length (strCells (l ++ [q]))
      rw [strCells_app, List.length_append]
      exact hrow
    · refine ⟨hg.os, hg.tape, hg.output, ?_, fun k hk hr => ?_⟩
      · have := hg.size; simp at this; omega
      · rw [hg.block k (by simp; omega) hr]
        exact Below.heap_alloc _ _ _ (by omega)
    · intro g hgv
      rcases hat with h2 | h2
      · exact .inl (by rw [← h2]; exact hgv)
      · rw [h2] at hgv
        have := Option.some.inj hgv
        simp at this
        exact .inr (by omega)
theorem elements_stops {B p q : Nat} {s : Str} (hs : s.length ≤ 1000000) {w : World} (N : Nat) (hp : w.heap[p]? = some (.cells #[.string ⟨s.toArray⟩] 9 (0, 0))) (hq : w.heap[q]? = some (.cells rdCells 159 (0, 0))) (hB : B ≤ w.heap.size) :
    SeqStopsK Fence.wide N Tryz.prog 116 #[.pointer (some ⟨p, 0, none⟩), .pointer (some ⟨q, 0, none⟩)] (encI s.length) (KpL B p q) (fun xs => xs = itemsE s) (fun pre => pre <+: itemsE s) (itemsE s).length w := by
  intro l J Jx W hW hJ hJx hY h0
  refine (elements1_in l B p q s hs J Jx W N hY ((hW.block p (Array.getElem?_eq_some_iff.1 hp).1).trans hp) ((hW.block q (Array.getElem?_eq_some_iff.1 hq).1).trans hq) (Nat.le_trans hB hW.size)
    (fun s W1 W2 h hb => hJ s W1 W2 none h ⟨hb.os, hb.tape, hb.output, hb.size, fun k hk _ => hb.block k hk⟩ (fun r e => by cases e)) h0).mono ?_
  rintro e W' ⟨he, h | ⟨pre, hpre, h⟩⟩
  · exact ⟨he, .inl ⟨_, rfl, h⟩⟩
  · exact ⟨he, .inr ⟨pre, hpre, h⟩⟩
/-- a block of cells stands where other things turn -/
theorem cells_turn {X Y : World} {row : Option Nat} {B k : Nat} {cs : Array Value} {t : TypeId} {fz : Nat × Nat} (hg : X.grownBy Y row) (hr : ∀ r, row = some r → B ≤ r ∧ ∃ o : Obj, X.heap[r]? = some o ∧ o.isCells = false) (h : X.heap[k]? = some (.cells cs t fz)) : Y.heap[k]? = some (.cells cs t fz) := by
  rw [hg.block k (Array.getElem?_eq_some_iff.1 h).1 fun e => ?_]
  · exact h
  · obtain ⟨_, o, ho, hc⟩ := hr k e.symm
    rw [h] at ho
    cases ho
    cases hc
theorem below_turn {w X Y : World} {row : Option Nat} {B : Nat} (hb : Below B w X) (hB : B ≤ w.heap.size) (hg : X.grownBy Y row) (hr : ∀ r, row = some r → B ≤ r ∧ ∃ o : Obj, X.heap[r]? = some o ∧ o.isCells = false) : Below B w Y := hb.grown hg (Nat.le_trans hB hb.size) fun k e => (hr k e).1
/-- between two rounds of 'Split' -/
structure SpAt (b M : Nat) (w : World) (v : Value) (pre : List Item) (W : World) : Prop where
  big : M ≤ W.heap.size
  l : W.heap[b]? = some (.cells #[v] 22 (0, 0))
  row : RowS M W v ((pre.map (fun x => x.2.1)).take 10000)
  at0 : W.heap[b + 1]? = some (.cells #[.int .i64 0] 3 (0, 0))
  e0 : W.heap[b + 1 + 1]? = some (.cells #[.int .i64 0] 31 (0, 0))
  many : W.heap[b + 1 + 1 + 1]? = some (.cells #[.bool (decide (10000 < pre.length))] 4 (0, 0))
  low : Below b w W
  oks : ∀ x ∈ pre, x.2.2 = true
/-- 'Split' has met a wrong element -/
structure SpEnd (b n : Nat) (w : World) (pre : List Item) (W : World) : Prop where
  l : W.heap[b]? = some (.cells #[.slice none 0 0] 22 (0, 0))
  at0 : ∃ (q : List Item) (k : Nat) (y : Str), pre = q ++ [(k, y, false)] ∧ W.heap[b + 1]? = some (.cells #[.int .i64 ((n : Int) - (k : Int))] 3 (0, 0))
  e0 : W.heap[b + 1 + 1]? = some (.cells #[.int .i64 2] 31 (0, 0))
  low : Below b w W
theorem SpAt.own {b B M : Nat} {w : World} (hB : b ≤ B) (hbw : b ≤ w.heap.size) : OwnFrom B (fun pre W => ∃ v, SpAt b M w v pre W) := by
  rintro pre X Y row ⟨v, h⟩ hg hr
  have hr' : ∀ r, row = some r → b ≤ r ∧ ∃ o : Obj, X.heap[r]? = some o ∧ o.isCells = false := fun r e => ⟨Nat.le_trans hB (hr r e).1, (hr r e).2⟩
  exact ⟨v, Nat.le_trans h.big hg.size, cells_turn hg hr h.l, ownsRow_heap2 h.row fun g cur _ hc => cells_turn hg hr hc, cells_turn hg hr h.at0, cells_turn hg hr h.e0, cells_turn hg hr h.many, below_turn h.low hbw hg hr', h.oks⟩
theorem SpEnd.own {b B n : Nat} {w : World} (hB : b ≤ B) (hbw : b ≤ w.heap.size) : OwnFrom B (fun pre W => SpEnd b n w pre W) := by
  rintro pre X Y row h hg hr
  have hr' : ∀ r, row = some r → b ≤ r ∧ ∃ o : Obj, X.heap[r]? = some o ∧ o.isCells = false := fun r e => ⟨Nat.le_trans hB (hr r e).1, (hr r e).2⟩
  obtain ⟨q, k, y, e, h1⟩ := h.at0
  exact ⟨cells_turn hg hr h.l, ⟨q, k, y, e, cells_turn hg hr h1⟩, cells_turn hg hr h.e0, below_turn h.low hbw hg hr'⟩
/-- what 'Split' returns -/
def SplitQ (s : Str) (w : World) (e : Ending) (w' : World) : Prop := Below w.heap.size w w' ∧ ∃ v, e = .returned (.tuple #[v, .int .i64 (splitE s).2.1, .int .i64 (splitE s).2.2]) ∧ RowS w.heap.size w' v (splitE s).1
/-- the temporaries in a round -/
def spTmps (s : Str) (b q Bx : Nat) (x : Item) : Array Value := #[.string ⟨s.toArray⟩, undef, .pointer (some ⟨b, 0, none⟩), .pointer (some ⟨b + 1, 0, none⟩), .pointer (some ⟨b + 1 + 1, 0, none⟩), .pointer (some ⟨b + 1 + 1 + 1, 0, none⟩),
  .int .i64 ((s.length : Int) - (x.1 : Int)), .pointer (some ⟨Bx, 0, none⟩), .string ⟨s.toArray⟩, .func (.func 116) #[] #[.pointer (some ⟨b + 1 + 1 + 1 + 1, 0, none⟩), .pointer (some ⟨q, 0, none⟩)],
  .int .i64 ((s.length : Int) - (x.1 : Int)), .agg #[.string ⟨x.2.1.toArray⟩, .bool x.2.2], undef, undef, undef, undef, undef, undef, undef, undef, undef, undef, undef, undef, undef, undef, undef, undef]
set_option maxRecDepth 100000 in
theorem split_end {s : Str} {b D M : Nat} {w W : World} {v u26 u27 : Value} {l : List Str} {z1 z2 : Int} {q : Nat} (hb : b = w.heap.size) (hM : b ≤ M) (hMD : M ≤ D) (h0 : W.heap[b]? = some (.cells #[v] 22 (0, 0))) (h1 : W.heap[b + 1]? = some (.cells #[.int .i64 z1] 3 (0, 0)))
    (h2 : W.heap[b + 1 + 1]? = some (.cells #[.int .i64 z2] 31 (0, 0))) (hK : W.heap[D]? = some (.deferred (some []))) (hrow : RowS M W v l) (hlow : Below b w W) (hsp : splitE s = (l, z1, z2)) :
    bodyPostM Fence.wide 5 Tryz.prog Tryz.f55 (SplitQ s w) Exit.ret
      { tmps := #[.string ⟨s.toArray⟩, undef, .pointer (some ⟨b, 0, none⟩), .pointer (some ⟨b + 1, 0, none⟩), .pointer (some ⟨b + 1 + 1, 0, none⟩), .pointer (some ⟨b + 1 + 1 + 1, 0, none⟩), undef, undef, .string ⟨s.toArray⟩,
          .func (.func 116) #[] #[.pointer (some ⟨b + 1 + 1 + 1 + 1, 0, none⟩), .pointer (some ⟨q, 0, none⟩)], undef, undef, undef, undef, undef, undef, undef, undef, undef, undef, undef, undef, undef, undef, undef, undef, u26, u27],
        defers := [{ target := .collected D, args := #[] }] } W := by
  have hne : ∀ k, (∃ (cs : Array Value) (t : TypeId), W.heap[k]? = some (Obj.cells cs t (0, 0))) → (W.putObj D (.deferred none)).heap[k]? = W.heap[k]? := fun k hk => World.putObj_heap_other (by
    rintro rfl
    obtain ⟨cs, t, hk⟩ := hk
    rw [hK] at hk
    cases hk)
  have g0 := (hne b ⟨_, _, h0⟩).trans h0
  have g1 := (hne (b + 1) ⟨_, _, h1⟩).trans h1
  have g2 := (hne (b + 1 + 1) ⟨_, _, h2⟩).trans h2
  have c0 : (W.putObj D (.deferred none)).cell? ⟨b, 0, none⟩ = some v := by rw [Lib.cell_of_heap g0]; rfl
  have c1 : (W.putObj D (.deferred none)).cell? ⟨b + 1, 0, none⟩ = some (.int .i64 z1) := by rw [Lib.cell_of_heap g1]; rfl
  have c2 : (W.putObj D (.deferred none)).cell? ⟨b + 1 + 1, 0, none⟩ = some (.int .i64 z2) := by rw [Lib.cell_of_heap g2]; rfl
  refine ⟨by simp, .inl ⟨_, _, rfl, run_takeDeferred hK, ?_⟩⟩
  refine ⟨.tuple #[v, .int .i64 z1, .int .i64 z2], ?_, ?_, v, by rw [hsp], by rw [hsp]; exact RowS.mono (B := M) (show RowS M _ v l from ownsRow_heap2 hrow fun g cur hg hc => (hne g ⟨_, _, hc⟩).trans hc) (by omega)⟩
  · simp [results, Tryz.results55, asAddr, go_sem, c0, c1, c2]
  · rw [← hb]
    exact hlow.trans ⟨rfl, rfl, rfl, by rw [World.putObj_size]; exact Nat.le_refl _, fun k hk => World.putObj_heap_other (by omega)⟩
set_option maxRecDepth 100000 in
set_option maxHeartbeats 1000000 in
theorem split_fn (s : Str) (hs : s.length ≤ 1000000) (w : World) : Calls Tryz.prog 55 #[.string ⟨s.toArray⟩] w (SplitQ s w) := by
  refine (callsIn_wide (n := 5)).1 ?_
  refine callsIn_of_wp_marks Tryz.func55 rfl trivial ?_ rfl
  simp only [Tryz.ntmps55, List.size_toArray, List.length_cons, List.length_nil, Nat.reduceAdd, Nat.reduceSub, Array.replicate_succ, Array.replicate_zero, List.push_toArray, List.append_toArray, List.nil_append, List.cons_append]
  obtain ⟨W0, hW0⟩ : ∃ W0, W0 = (((w.alloc (.cells #[.slice none 0 0] 22)).alloc (.cells #[.int .i64 0] 3)).alloc (.cells #[.int .i64 0] 31)).alloc (.cells #[.bool false] 4) := ⟨_, rfl⟩
  have hs0 : W0.heap.size = w.heap.size + 1 + 1 + 1 + 1 := by rw [hW0]; simp
  have h0 : W0.heap[w.heap.size]? = some (.cells #[.slice none 0 0] 22 (0, 0)) := by rw [hW0, Below.heap_alloc _ _ _ (by simp <;> omega), Below.heap_alloc _ _ _ (by simp <;> omega), Below.heap_alloc _ _ _ (by simp)]; exact heap_alloc_new _ _
  have h1 : W0.heap[w.heap.size + 1]? = some (.cells #[.int .i64 0] 3 (0, 0)) := by
    rw [hW0, Below.heap_alloc _ _ _ (by simp <;> omega), Below.heap_alloc _ _ _ (by simp)]
    simpa using heap_alloc_new (w.alloc (.cells #[.slice none 0 0] 22)) (.cells #[.int .i64 0] 3)
  have h2 : W0.heap[w.heap.size + 1 + 1]? = some (.cells #[.int .i64 0] 31 (0, 0)) := by
    rw [hW0, Below.heap_alloc _ _ _ (by simp)]
    simpa using heap_alloc_new ((w.alloc (.cells #[.slice none 0 0] 22)).alloc (.cells #[.int .i64 0] 3)) (.cells #[.int .i64 0] 31)
  have h3 : W0.heap[w.heap.size + 1 + 1 + 1]? = some (.cells #[.bool false] 4 (0, 0)) := by
    rw [hW0]
    simpa using heap_alloc_new (((w.alloc (.cells #[.slice none 0 0] 22)).alloc (.cells #[.int .i64 0] 3)).alloc (.cells #[.int .i64 0] 31)) (.cells #[.bool false] 4)
  have hb0 : Below w.heap.size w W0 := by rw [hW0]; exact ((((Below.refl _ _).alloc (Nat.le_refl _) _).alloc (by simp) _).alloc (by simp; omega) _).alloc (by simp; omega) _
  have HE := hid (elements_fn s W0)
  have HW0 := hid hW0
  have H0 := hid h0
  have H1 := hid h1
  have H2 := hid h2
  have H3 := hid h3
  have HB0 := hid hb0
  have HS0 := hid hs0
  clear hW0 h0 h1 h2 h3 hb0 hs0
  gi_wp2_with (refine ⟨trivial, ?_⟩; gi_at_call 90; rw [← HW0.out]; refine (callsIn_wide.2 HE.out).mono ?_; rintro e w1 ⟨q, rfl, hbe, hep, heq, hql⟩)
  rw [HS0.out] at hep hql
  rw [HS0.out]
  have hsz1 := hbe.size
  rw [HS0.out] at hsz1
  have kp : ∀ k, k < w.heap.size + 1 + 1 + 1 + 1 → w1.heap[k]? = W0.heap[k]? := fun k hk => hbe.block k (by rw [HS0.out]; exact hk)
  have hbw : Below w.heap.size w w1 := HB0.out.trans (hbe.mono (by rw [HS0.out]; omega))
  have hI0 : ∃ v, SpAt w.heap.size w1.heap.size w v [] w1 := ⟨_, Nat.le_refl _, (kp _ (by omega)).trans H0.out, RowS.nil _ _, (kp _ (by omega)).trans H1.out, (kp _ (by omega)).trans H2.out, (kp _ (by omega)).trans H3.out, hbw, fun x hx => absurd hx (by simp)⟩
  obtain ⟨b, hb⟩ : ∃ b, b = w.heap.size := ⟨_, rfl⟩
  have HBE := hid hb
  rw [← hb] at hep hql hsz1 hI0 ⊢
  have hbw1 : b ≤ w.heap.size := by omega
  have hepl := (Array.getElem?_eq_some_iff.1 hep).1
  have hequ := (Array.getElem?_eq_some_iff.1 heq).1
  clear hbe kp HE H0 H1 H2 H3 HB0 HW0 HS0 hb
  refine wpIn_rangeFunc_ownH rfl (by omega) (gf := 116) (lb := #[.pointer (some ⟨b + 1 + 1 + 1 + 1, 0, none⟩), .pointer (some ⟨q, 0, none⟩)]) rfl trivial (enters_of Tryz.func116 (by kernel_rfl) rfl)
    (elements_stops (B := b) hs _ hep heq (by omega)) KpL.trans (fun W l o o' hl h h1 h2 => ⟨belowK_b (w := w1) (by omega) W l o o' hl h h1 h2, World.putObj_heap_other (by have := (Array.getElem?_eq_some_iff.1 hep).1; omega), World.putObj_heap_other (by have := (Array.getElem?_eq_some_iff.1 heq).1; omega)⟩) (Below.refl _ _) (fun _ => rfl)
    (fun pre W => ∃ v, SpAt b w1.heap.size w v pre W) (fun c pre W => c = .ret ∧ SpEnd b s.length w pre W)
    (SpAt.own (by omega) hbw1) (fun c s' X Y row h hg hr => ⟨h.1, SpEnd.own (B := w1.heap.size) (by omega) hbw1 s' X Y row h.2 hg hr⟩) hI0
    (fun x a' W => ∃ Bx, b + 1 + 1 + 1 < Bx ∧ W.heap[Bx]? = some (.cells #[.string ⟨x.2.1.toArray⟩, .bool x.2.2] 135 (0, 0)) ∧ a' = { tmps := spTmps s b q Bx x, defers := [] })
    (fun x a' s' X Y row h hg hr => by obtain ⟨Bx, h1, h2, h3⟩ := h; exact ⟨Bx, h1, cells_turn hg hr h2, h3⟩) ?assign ?body ?done ?stop
  case assign =>
    rintro l pre x W K ⟨v, hi⟩ hK
    unfold encI
    gi_wp2
    exact hK _ _ ((KeepsOthers.alloc _ _).from _) (KpL.of (belowA _ _) (by have := hi.big; omega) (by have := hi.big; omega) (by have := hi.big; omega)) ((SpAt.own (B := b) (Nat.le_refl _) hbw1).alloc _ ⟨v, hi⟩) ⟨W.heap.size, by have := hi.big; omega, heap_alloc_new _ _, rfl⟩
  case body =>
    rintro l pre ⟨k, y, ok⟩ a' W hl hr ⟨v, hi⟩ ⟨Bx, hBx, hX, rfl⟩ hlt
    dsimp only at hX
    have x0 : W.cell? ⟨Bx, 0, none⟩ = some (.string ⟨y.toArray⟩) := by rw [Lib.cell_of_heap hX]; rfl
    have x1 : W.cell? ⟨Bx, 1, none⟩ = some (.bool ok) := by rw [Lib.cell_of_heap hX]; rfl
    have l0 : W.cell? ⟨b, 0, none⟩ = some v := by rw [Lib.cell_of_heap hi.l]; rfl
    have l1 : W.frozen? ⟨b, 0, none⟩ = false := Lib.frozen_of_heap hi.l 0
    have HI := hid hi
    unfold spTmps
    dsimp only
    cases ok with
    | false =>
      have a0 : W.cell? ⟨b + 1, 0, none⟩ = some (.int .i64 0) := by rw [Lib.cell_of_heap hi.at0]; rfl
      have a1 : W.frozen? ⟨b + 1, 0, none⟩ = false := Lib.frozen_of_heap hi.at0 0
      have e0 : W.cell? ⟨b + 1 + 1, 0, none⟩ = some (.int .i64 0) := by rw [Lib.cell_of_heap hi.e0]; rfl
      have e1 : W.frozen? ⟨b + 1 + 1, 0, none⟩ = false := Lib.frozen_of_heap hi.e0 0
      clear hi
      gi_wp2
      refine ⟨(((KeepsOthers.setCell _ _ _).trans (KeepsOthers.setCell _ _ _)).trans (KeepsOthers.setCell _ _ _)).from _, rfl, ?_, ⟨pre, k, y, rfl, ?_⟩, ?_, ?_⟩
      · have d1 : ¬ b + 1 + 1 = b := by omega
        simp [World.setCell, Array.getElem?_modify, HI.out.l, d1]
      · simp [World.setCell, Array.getElem?_modify, HI.out.at0]
      · have d1 : ¬ b = b + 1 + 1 := by omega
        simp [World.setCell, Array.getElem?_modify, HI.out.e0, d1]
      · exact ((HI.out.low.setCell (Nat.le_refl _) _).setCell (by show b ≤ b + 1; omega) _).setCell (by show b ≤ b + 1 + 1; omega) _
    | true =>
      have m0 : W.cell? ⟨b + 1 + 1 + 1, 0, none⟩ = some (.bool (decide (10000 < pre.length))) := by rw [Lib.cell_of_heap hi.many]; rfl
      have m1 : W.frozen? ⟨b + 1 + 1 + 1, 0, none⟩ = false := Lib.frozen_of_heap hi.many 0
      obtain ⟨av, cv, ev⟩ := hi.row.shape
      obtain ⟨n, hn⟩ : ∃ n, n = ((pre.map (fun x => x.2.1)).take 10000).length := ⟨_, rfl⟩
      have hn2 : n = min 10000 pre.length := by rw [hn, List.length_take, List.length_map]
      rw [← hn] at ev
      subst ev
      have HN := hid hn
      have HN2 := hid hn2
      have hil := items_len s.length s (Nat.le_refl _)
      clear hn hi hn2
      by_cases hp : pre.length < 10000
      · have hnb : n < 10000 := by have := HN2.out; omega
        have hne : ((n : Int) == 10000) = false := by rw [beq_eq_false_iff_ne]; omega
        have hbW : b ≤ W.heap.size := by have := HI.out.big; omega
        have hnl : ((pre.map (fun x => x.2.1)).take 10000).length ≤ 10000000 := by rw [List.length_take, List.length_map]; omega
        have HX := hid hX
        gi_wp2_with (gi_at_builtin; refine app_oneIn rfl rfl (.tmp 12) (.tmp 15) rfl w1.heap.size _ _ y rfl HI.out.row rfl HI.out.big hnl ?_; intro v9 w9 hr9 hg9 hv9; obtain ⟨a9, c9, e9⟩ := RowS.shape hr9; obtain ⟨n9, hn9⟩ : ∃ n9, n9 = (List.take 10000 (List.map (fun x : Item => x.2.1) pre) ++ [y]).length := ⟨_, rfl⟩; rw [← hn9] at e9; subst e9; have hob := HI.out.row.lt; have hob9 : w9.heap[b]? = some (.cells #[.slice av n cv] 22 (0, 0)) := (hg9.block b (by have := HI.out.big; omega) (fun e => by have := (hob b e.symm).2; omega)).trans HI.out.l; have co9 : w9.cell? ⟨b, 0, none⟩ = some (.slice av n cv) := (by rw [Lib.cell_of_heap hob9]; rfl); have fo9 : w9.frozen? ⟨b, 0, none⟩ = false := Lib.frozen_of_heap hob9 0; have HR9 := hid hr9; have HG9 := hid hg9; have HV9 := hid hv9; have HOB := hid hob; have HOB9 := hid hob9; clear hr9 hg9 hv9 hob hob9 hn9)
        have same : ∀ g, g < w1.heap.size → w9.heap[g]? = W.heap[g]? := fun g hg => HG9.out.block g (by have := HI.out.big; omega) (fun e => by have := (HOB.out g e.symm).2; omega)
        have hset : ∀ g, g ≠ b → (w9.setCell ⟨b, 0, none⟩ (.slice a9 n9 c9)).heap[g]? = w9.heap[g]? := fun g hg => Below.heap_setCell _ _ _ _ fun e => hg e
        have hbl : Below b W w9 := ⟨HG9.out.os, HG9.out.tape, HG9.out.output, HG9.out.size, fun g hg => same g (by omega)⟩
        have hk9 : KeepsOthers W w9 := KeepsOthers.of_grownBy HG9.out fun j o e ho => by
          obtain ⟨_, cur, hc⟩ := ownsRow_lt HI.out.row j e
          rw [hc] at ho
          cases ho
          rfl
        have hmp : ((pre ++ [(k, y, true)] : List Item).map (fun x => x.2.1)).take 10000 = (pre.map (fun x => x.2.1)).take 10000 ++ [y] := by
          rw [List.map_append, List.take_of_length_le (by rw [List.length_append, List.length_map]; simp; omega), List.take_of_length_le (by rw [List.length_map]; omega)]
          rfl
        refine ⟨(hk9.trans (KeepsOthers.setCell _ _ _)).from _, ⟨hbl.setCell (Nat.le_refl _) _, ?_, ?_⟩, .slice a9 n9 c9, ?_, ?_, ?_, ?_, ?_, ?_, ?_, ?_⟩
        · exact (hset _ (by omega)).trans (same _ (by omega))
        · exact (hset _ (by omega)).trans (same _ (by omega))
        · have := HI.out.big
          have := HG9.out.size
          simp [World.setCell]
          omega
        · simp [World.setCell, Array.getElem?_modify, HOB9.out]
        · rw [hmp]
          exact ownsRow_heap HR9.out fun g hg => hset g (by have := (HR9.out.lt g hg).2; omega)
        · exact ((hset _ (by omega)).trans (same _ (by omega))).trans HI.out.at0
        · exact ((hset _ (by omega)).trans (same _ (by omega))).trans HI.out.e0
        · have hd : decide (10000 < (pre ++ [(k, y, true)] : List Item).length) = decide (10000 < pre.length) := by
            rw [decide_eq_false (show ¬ 10000 < (pre ++ [(k, y, true)] : List Item).length by rw [List.length_append]; simp; omega), decide_eq_false (show ¬ 10000 < pre.length by omega)]
          rw [hd]
          exact ((hset _ (by omega)).trans (same _ (by omega))).trans HI.out.many
        · exact (HI.out.low.trans hbl).setCell (Nat.le_refl _) _
        · intro z hz
          rcases List.mem_append.1 hz with hz | hz
          · exact HI.out.oks z hz
          · rw [List.mem_singleton.1 hz]
      · have hne : ((n : Int) == 10000) = true := by rw [beq_iff_eq]; have := HN2.out; omega
        gi_wp2
        have hmp : ((pre ++ [(k, y, true)] : List Item).map (fun x => x.2.1)).take 10000 = (pre.map (fun x => x.2.1)).take 10000 := by rw [List.map_append, List.take_append_of_le_length (by rw [List.length_map]; omega)]
        refine ⟨(KeepsOthers.setCell _ _ _).from _, ⟨(Below.refl _ _).setCell (by show b ≤ b + 1 + 1 + 1; omega) _, ?_, ?_⟩, .slice av n cv, ?_, ?_, ?_, ?_, ?_, ?_, ?_, ?_⟩
        · exact Below.heap_setCell _ _ _ _ (by show b + 1 + 1 + 1 + 1 ≠ b + 1 + 1 + 1; omega)
        · exact Below.heap_setCell _ _ _ _ (by show q ≠ b + 1 + 1 + 1; omega)
        · have := HI.out.big
          simp [World.setCell]
          exact this
        · exact (Below.heap_setCell _ _ _ _ (by show b ≠ b + 1 + 1 + 1; omega)).trans HI.out.l
        · rw [hmp]
          refine ownsRow_heap2 HI.out.row fun g cur hg hc => ?_
          have hgn : g ≠ b + 1 + 1 + 1 := by
            rintro rfl
            have := HI.out.many
            rw [hc] at this
            simp only [Option.some.injEq, Obj.cells.injEq] at this
            exact absurd this.2.1 (by decide)
          exact (Below.heap_setCell _ _ _ _ (fun e => hgn e)).trans hc
        · exact (Below.heap_setCell _ _ _ _ (by show b + 1 ≠ b + 1 + 1 + 1; omega)).trans HI.out.at0
        · exact (Below.heap_setCell _ _ _ _ (by show b + 1 + 1 ≠ b + 1 + 1 + 1; omega)).trans HI.out.e0
        · have hd : decide (10000 < (pre ++ [(k, y, true)] : List Item).length) = true := decide_eq_true (by rw [List.length_append]; simp; omega)
          rw [hd]
          simp [World.setCell, Array.getElem?_modify, HI.out.many]
        · exact HI.out.low.setCell (by show b ≤ b + 1 + 1 + 1; omega) _
        · intro z hz
          rcases List.mem_append.1 hz with hz | hz
          · exact HI.out.oks z hz
          · rw [List.mem_singleton.1 hz]
  case done =>
    rintro D xs W hD rfl ⟨v, hi⟩ hK
    have m0 : W.cell? ⟨b + 1 + 1 + 1, 0, none⟩ = some (.bool (decide (10000 < (itemsE s).length))) := by rw [Lib.cell_of_heap hi.many]; rfl
    have l0 : W.cell? ⟨b, 0, none⟩ = some v := by rw [Lib.cell_of_heap hi.l]; rfl
    have l1 : W.frozen? ⟨b, 0, none⟩ = false := Lib.frozen_of_heap hi.l 0
    have a0 : W.cell? ⟨b + 1, 0, none⟩ = some (.int .i64 0) := by rw [Lib.cell_of_heap hi.at0]; rfl
    have a1 : W.frozen? ⟨b + 1, 0, none⟩ = false := Lib.frozen_of_heap hi.at0 0
    have e0 : W.cell? ⟨b + 1 + 1, 0, none⟩ = some (.int .i64 0) := by rw [Lib.cell_of_heap hi.e0]; rfl
    have e1 : W.frozen? ⟨b + 1 + 1, 0, none⟩ = false := Lib.frozen_of_heap hi.e0 0
    obtain ⟨av, cv, ev⟩ := hi.row.shape
    obtain ⟨n, hn⟩ : ∃ n, n = (((itemsE s).map (fun x => x.2.1)).take 10000).length := ⟨_, rfl⟩
    rw [← hn] at ev
    subst ev
    have HN := hid hn
    have HI := hid hi
    clear hn hi
    by_cases hm : 10000 < (itemsE s).length
    · rw [decide_eq_true hm] at m0
      gi_wp2
      have hxs := items_list s.length s (Nat.le_refl _)
      have hsp : splitE s = ([], 0, 4) := by
        rcases hxs with ⟨xs, e1, e2, _⟩ | ⟨k, q', y, _, e2, _⟩
        · unfold splitE
          rw [e1]
          dsimp only
          rw [if_neg (by rw [← e2, List.length_map]; omega)]
        · exact absurd (HI.out.oks (k, y, false) (by rw [e2]; simp)) (by simp)
      refine split_end HBE.out (M := w1.heap.size) (by omega) hD ?_ ?_ ?_ ?_ (RowS.nil _ _) ?_ hsp
      · have d1 : ¬ b + 1 + 1 = b := by omega
        simp [World.setCell, Array.getElem?_modify, HI.out.l, d1]
      · simp [World.setCell, Array.getElem?_modify, HI.out.at0]
      · have d1 : ¬ b = b + 1 + 1 := by omega
        simp [World.setCell, Array.getElem?_modify, HI.out.e0, d1]
      · exact (((KeepsOthers.setCell _ _ _).trans (KeepsOthers.setCell _ _ _)).trans (KeepsOthers.setCell _ _ _)).same D _ hK rfl
      · exact ((HI.out.low.setCell (Nat.le_refl _) _).setCell (by show b ≤ b + 1; omega) _).setCell (by show b ≤ b + 1 + 1; omega) _
    · rw [decide_eq_false hm] at m0
      gi_wp2
      have hxs := items_list s.length s (Nat.le_refl _)
      have hsp : splitE s = ((itemsE s).map (fun x => x.2.1), 0, 0) := by
        rcases hxs with ⟨xs, e1, e2, _⟩ | ⟨k, q', y, _, e2, _⟩
        · unfold splitE
          rw [e1]
          dsimp only
          rw [if_pos (by rw [← e2, List.length_map]; omega), e2]
        · exact absurd (HI.out.oks (k, y, false) (by rw [e2]; simp)) (by simp)
      have htk : ((itemsE s).map (fun x => x.2.1)).take 10000 = (itemsE s).map (fun x => x.2.1) := List.take_of_length_le (by rw [List.length_map]; omega)
      have hrw : RowS w1.heap.size W (.slice av n cv) ((itemsE s).map (fun x => x.2.1)) := by
        have h9 := HI.out.row
        rw [htk] at h9
        exact h9
      have hset : ∀ g, g ≠ b → g ≠ b + 1 → g ≠ b + 1 + 1 → (((W.setCell ⟨b, 0, none⟩ (.slice av n cv)).setCell ⟨b + 1, 0, none⟩ (.int .i64 0)).setCell ⟨b + 1 + 1, 0, none⟩ (.int .i64 0)).heap[g]? = W.heap[g]? := fun g x1 x2 x3 =>
        (Below.heap_setCell _ _ _ _ fun e => x3 e).trans ((Below.heap_setCell _ _ _ _ fun e => x2 e).trans (Below.heap_setCell _ _ _ _ fun e => x1 e))
      refine split_end HBE.out (M := w1.heap.size) (by omega) hD ?_ ?_ ?_ ?_ (l := (itemsE s).map (fun x : Item => x.2.1)) (v := .slice av n cv) (ownsRow_heap (w := W) hrw fun g hg => by have := (hrw.lt g hg).2; exact hset g (by omega) (by omega) (by omega)) ?_ hsp
      · have d1 : ¬ b + 1 + 1 = b := by omega
        simp [World.setCell, Array.getElem?_modify, HI.out.l, d1]
      · simp [World.setCell, Array.getElem?_modify, HI.out.at0]
      · have d1 : ¬ b = b + 1 + 1 := by omega
        simp [World.setCell, Array.getElem?_modify, HI.out.e0, d1]
      · exact (((KeepsOthers.setCell _ _ _).trans (KeepsOthers.setCell _ _ _)).trans (KeepsOthers.setCell _ _ _)).same D _ hK rfl
      · exact ((HI.out.low.setCell (Nat.le_refl _) _).setCell (by show b ≤ b + 1; omega) _).setCell (by show b ≤ b + 1 + 1; omega) _
  case stop =>
    rintro D c pre W hD hpre ⟨rfl, he⟩ hK
    gi_wp2
    obtain ⟨q', k, y, rfl, h1⟩ := he.at0
    have hsp : splitE s = ([], (s.length : Int) - (k : Int), 2) := by
      unfold splitE
      rw [items_wrong hpre]
    exact split_end HBE.out (M := w1.heap.size) (by omega) hD he.l h1 he.e0 hK (RowS.nil _ _) he.low hsp
end Go.Proofs.YtabhkoklcjhlpaaGreatDoor.Pz
