/-
  Part K17 of the proofs of this seat: contracts of functions and plain facts, merged from 5 texts.
-/
import Derived.Shelf.LaysM
import Derived.Shelf.Strconv.Itoa3
import Derived.Shelf.Strings.Search3
import Derived.Test.YtkgpmkkodpjdfaaGreatDoorProg
import Derived.BigQuiet
import Derived.Test.YtkgpmkkodpjdfaaGreatDoorK16
namespace Go.Proofs.YtkgpmkkodpjdfaaGreatDoor.Pz
open Go.Shelf
def Tryz.lays144_ren : Go.Shelf.Ren := ⟨fun | 144 => 125 | 143 => 140 | 219 => 147 | 217 => 91 | 225 => 154 | 224 => 153 | 267 => 155 | 266 => 113 | 314 => 156 | n => n, fun | 9 => 9 | 4 => 4 | 3 => 3 | 5 => 5 | 46 => 163 | 146 => 176 | 51 => 160 | n => n, fun | 1 => 0 | n => n⟩
theorem Tryz.lays144 : Go.Proofs.Lays.n144 Tryz.prog Tryz.lays144_ren := {
  mixed := by kernel_rfl
  f143 := Tryz.func140.trans (congrArg some (by kernel_rfl))
  f144 := Tryz.func125.trans (congrArg some (by kernel_rfl))
  f217 := Tryz.func91.trans (congrArg some (by kernel_rfl))
  f219 := Tryz.func147.trans (congrArg some (by kernel_rfl))
  f224 := Tryz.func153.trans (congrArg some (by kernel_rfl))
  f225 := Tryz.func154.trans (congrArg some (by kernel_rfl))
  f266 := Tryz.func113.trans (congrArg some (by kernel_rfl))
  f267 := Tryz.func155.trans (congrArg some (by kernel_rfl))
  f314 := Tryz.func156.trans (congrArg some (by kernel_rfl))
  t3 := Tryz.underlying3
  a3 := Tryz.isAgg3
  z3 := Tryz.sizeOf3
  v3 := Tryz.zeroValue3
  t4 := Tryz.underlying4
  a4 := Tryz.isAgg4
  z4 := Tryz.sizeOf4
  v4 := Tryz.zeroValue4
  t5 := Tryz.underlying5
  a5 := Tryz.isAgg5
  z5 := Tryz.sizeOf5
  v5 := Tryz.zeroValue5
  t9 := Tryz.underlying9
  a9 := Tryz.isAgg9
  z9 := Tryz.sizeOf9
  v9 := Tryz.zeroValue9
  t46 := Tryz.underlying163
  a46 := Tryz.isAgg163
  z46 := Tryz.sizeOf163
  v46 := Tryz.zeroValue163
  t51 := Tryz.underlying160
  a51 := Tryz.isAgg160
  z51 := Tryz.sizeOf160
  v51 := Tryz.zeroValue160
  t146 := Tryz.underlying176
  a146 := Tryz.isAgg176
  z146 := Tryz.sizeOf176
  v146 := Tryz.zeroValue176
  g1 := by kernel_rfl }
open Go.RowKit Go.Lib in
theorem Tryz.strings_Contains (s sub : ByteArray) (m : Int) (w : World) (hs : s.size < 4294967281) (hm : w.cell? ⟨0, 0, none⟩ = some (.int .i64 m)) :
    Calls Tryz.prog 125 #[.string s, .string sub] w fun e w' => e = .returned (.bool (Lib.contains s.data.toList sub.data.toList)) ∧ w' = w := Any.strings_Contains Tryz.lays144 s sub m w hs hm
def Tryz.laysM171_ren : Go.Shelf.Ren := ⟨fun | 171 => 41 | 243 => 78 | 246 => 101 | 283 => 121 | 284 => 122 | 285 => 123 | 286 => 124 | 129 => 136 | 317 => 135 | 318 => 137 | 319 => 138 | 320 => 139 | 337 => 145 | 338 => 146 | n => n, fun | 3 => 3 | 9 => 9 | 2 => 2 | 4 => 4 | 171 => 145 | 0 => 0 | 53 => 146 | 37 => 75 | 5 => 5 | 173 => 149 | 212 => 159 | 51 => 160 | 20 => 20 | 213 => 161 | 46 => 163 | 232 => 174 | 233 => 175 | n => n, fun | 17 => 1 | 18 => 4 | 19 => 5 | n => n⟩
theorem Tryz.laysM171 : Go.Proofs.LaysM.n171 Tryz.prog Tryz.laysM171_ren := {
  mixed := by kernel_rfl
  f129 := Tryz.func136.trans (congrArg some (by kernel_rfl))
  f171 := Tryz.func41.trans (congrArg some (by kernel_rfl))
  f243 := Tryz.func78.trans (congrArg some (by kernel_rfl))
  f246 := Tryz.func101.trans (congrArg some (by kernel_rfl))
  f283 := Tryz.func121.trans (congrArg some (by kernel_rfl))
  f284 := Tryz.func122.trans (congrArg some (by kernel_rfl))
  f285 := Tryz.func123.trans (congrArg some (by kernel_rfl))
  f286 := Tryz.func124.trans (congrArg some (by kernel_rfl))
  f317 := Tryz.func135.trans (congrArg some (by kernel_rfl))
  f318 := Tryz.func137.trans (congrArg some (by kernel_rfl))
  f319 := Tryz.func138.trans (congrArg some (by kernel_rfl))
  f320 := Tryz.func139.trans (congrArg some (by kernel_rfl))
  f337 := Tryz.func145.trans (congrArg some (by kernel_rfl))
  f338 := Tryz.func146.trans (congrArg some (by kernel_rfl))
  t0 := Tryz.underlying0
  a0 := Tryz.isAgg0
  z0 := Tryz.sizeOf0
  v0 := Tryz.zeroValue0
  t2 := Tryz.underlying2
  a2 := Tryz.isAgg2
  z2 := Tryz.sizeOf2
  v2 := Tryz.zeroValue2
  t3 := Tryz.underlying3
  a3 := Tryz.isAgg3
  z3 := Tryz.sizeOf3
  v3 := Tryz.zeroValue3
  t4 := Tryz.underlying4
  a4 := Tryz.isAgg4
  z4 := Tryz.sizeOf4
  v4 := Tryz.zeroValue4
  t5 := Tryz.underlying5
  a5 := Tryz.isAgg5
  z5 := Tryz.sizeOf5
  v5 := Tryz.zeroValue5
  t9 := Tryz.underlying9
  a9 := Tryz.isAgg9
  z9 := Tryz.sizeOf9
  v9 := Tryz.zeroValue9
  t20 := Tryz.underlying20
  a20 := Tryz.isAgg20
  z20 := Tryz.sizeOf20
  v20 := Tryz.zeroValue20
  t37 := Tryz.underlying75
  a37 := Tryz.isAgg75
  z37 := Tryz.sizeOf75
  v37 := Tryz.zeroValue75
  t46 := Tryz.underlying163
  a46 := Tryz.isAgg163
  z46 := Tryz.sizeOf163
  v46 := Tryz.zeroValue163
  t51 := Tryz.underlying160
  a51 := Tryz.isAgg160
  z51 := Tryz.sizeOf160
  v51 := Tryz.zeroValue160
  t53 := Tryz.underlying146
  a53 := Tryz.isAgg146
  z53 := Tryz.sizeOf146
  v53 := Tryz.zeroValue146
  t171 := Tryz.underlying145
  a171 := Tryz.isAgg145
  z171 := Tryz.sizeOf145
  v171 := Tryz.zeroValue145
  t173 := Tryz.underlying149
  a173 := Tryz.isAgg149
  z173 := Tryz.sizeOf149
  v173 := Tryz.zeroValue149
  t212 := Tryz.underlying159
  a212 := Tryz.isAgg159
  z212 := Tryz.sizeOf159
  v212 := Tryz.zeroValue159
  t213 := Tryz.underlying161
  a213 := Tryz.isAgg161
  z213 := Tryz.sizeOf161
  t232 := Tryz.underlying174
  a232 := Tryz.isAgg174
  z232 := Tryz.sizeOf174
  v232 := Tryz.zeroValue174
  t233 := Tryz.underlying175
  a233 := Tryz.isAgg175
  z233 := Tryz.sizeOf175
  v233 := Tryz.zeroValue175
  g17 := by kernel_rfl
  g18 := by kernel_rfl
  g19 := by kernel_rfl
  i0 := by kernel_rfl
  i2 := by kernel_rfl
  i3 := by kernel_rfl
  i4 := by kernel_rfl
  i5 := by kernel_rfl
  i9 := by kernel_rfl
  i20 := by kernel_rfl
  i37 := by kernel_rfl
  i46 := by kernel_rfl
  i51 := by kernel_rfl
  i53 := by kernel_rfl
  i171 := by kernel_rfl
  i173 := by kernel_rfl
  i212 := by kernel_rfl
  i232 := by kernel_rfl
  i233 := by kernel_rfl
  m17 := by kernel_rfl
  m18 := by kernel_rfl
  m19 := by kernel_rfl }
open Go.RowKit Go.Sort Go.Lib in
theorem Tryz.strconv_Itoa (n : Int) (h0 : -9223372036854775808 ≤ n) (h1 : n ≤ 9223372036854775807) (w : World) (htab : Lib.TabIs Tryz.prog w "internal/strconv.uint64pow10" .u64 Lib.pow10Tab) :
    Calls Tryz.prog 41 #[.int .i64 n] w fun e w' => e = .returned (.string ⟨(Lib.itoa n).toArray⟩) ∧ ∃ k os, w' = grow (w.drewN k) os := Any.strconv_Itoa Tryz.laysM171 n h0 h1 w htab
open Go.RowKit
def ML (w : World) : Prop := ∃ m, w.cell? ⟨0, 0, none⟩ = some (.int .i64 m)
theorem ML.below {w w' : World} (h : ML w) (hb : Below w.heap.size w w') : ML w' := by
  obtain ⟨m, hm⟩ := h
  refine ⟨m, ?_⟩
  have hlt : 0 < w.heap.size := by
    unfold World.cell? at hm
    rcases Nat.lt_or_ge 0 w.heap.size with h | h
    · exact h
    · rw [Array.getElem?_eq_none h] at hm; cases hm
  rw [hb.cell hlt]
  exact hm
theorem has_idx : ∀ (l : List UInt8) (c : UInt8), l.contains c = decide (0 ≤ Lib.indexByte l c)
  | [], _ => rfl
  | b :: l, c => by
    have ih := has_idx l c
    have hg := Lib.indexByte_ge l c
    rw [List.contains_cons, ih, Lib.indexByte]
    by_cases h : b = c
    · subst h
      simp
    · have e1 : (c == b) = false := by simpa using fun h' => h h'.symm
      have e2 : ¬ (b == c) = true := by simpa using h
      rw [e1, Bool.false_or, if_neg e2]
      by_cases h2 : (Lib.indexByte l c == -1) = true
      · rw [if_pos h2]
        have h2 : Lib.indexByte l c = -1 := by simpa using h2
        rw [h2]
      · rw [if_neg h2]
        have h2 : Lib.indexByte l c ≠ -1 := by simpa using h2
        rw [decide_eq_decide]
        omega
theorem special_idx (c : UInt8) : [34, 92, 123, 125, 36, 91, 93, 59].contains c = decide (0 ≤ Lib.indexByte [34, 92, 123, 125, 36, 91, 93, 59] c) := has_idx _ _
set_option maxRecDepth 100000 in
theorem special_fn (c : UInt8) (w : World) : Calls Tryz.prog 102 #[.int .u8 (c.toNat : Nat)] w fun e w' => e = .returned (.bool (special c)) ∧ w' = w := by
  obtain ⟨I, hI⟩ : ∃ I, I = Lib.indexByte [34, 92, 123, 125, 36, 91, 93, 59] c := ⟨_, rfl⟩
  have hc : Calls Tryz.prog 67 #[.string ⟨#[34, 92, 123, 125, 36, 91, 93, 59]⟩, .int .u8 c.toNat] w fun e w' => e = .returned (.int .i64 I) ∧ w' = w := by
    have h := Tryz.strings_IndexByte ⟨#[34, 92, 123, 125, 36, 91, 93, 59]⟩ (c.toNat : Int) w
    have e1 : ((c.toNat : Int)).toNat.toUInt8 = c := by simp
    rw [e1] at h
    rw [hI]
    exact h
  obtain ⟨W, hW⟩ : ∃ W, W = white c := ⟨_, rfl⟩
  obtain ⟨S, hS⟩ : ∃ S, S = special c := ⟨_, rfl⟩
  have hwc := white_fn c w
  have hS2 : S = (W || decide (0 ≤ I)) := by rw [hS, special, special_idx, hW, hI]
  rw [← hW] at hwc
  rw [← hS]
  have HC := hid hc
  have HW := hid hwc
  have HS := hid hS2
  clear hc hwc hS hS2 hW hI
  cases W with
  | true =>
    go_enter Tryz.func102, Tryz.ntmps102
    go_wp2_with fail
    (with_reducible refine HW.out.mono ?_); rintro e w1 ⟨rfl, hw⟩; subst w1
    go_wp2
    go_ret
    exact ⟨by rw [HS.out]; rfl, rfl⟩
  | false =>
    go_enter Tryz.func102, Tryz.ntmps102
    go_wp2_with fail
    (with_reducible refine HW.out.mono ?_); rintro e w1 ⟨rfl, hw⟩; subst w1
    go_wp2_with fail
    (with_reducible refine HC.out.mono ?_); rintro e w1 ⟨rfl, hw⟩; subst w1
    go_wp2
    go_ret
    exact ⟨by rw [HS.out]; rfl, rfl⟩
theorem pre_bn (c : UInt8) (t : Str) : ([92, 10] : Str).isPrefixOf (c :: t) = (c == 92 && t.head? == some 10) := by
  cases t with
  | nil => simp [List.isPrefixOf]
  | cons d t =>
    simp only [List.isPrefixOf, List.head?_cons, Bool.and_true]
    by_cases h1 : c = 92
    · subst h1
      by_cases h2 : d = 10
      · subst h2; rfl
      · have e1 : ((10 : UInt8) == d) = false := by simpa using fun h => h2 h.symm
        have e2 : (some d == some (10 : UInt8)) = false := by simpa using h2
        rw [e1, e2]
    · have e1 : ((92 : UInt8) == c) = false := by simpa using fun h => h1 h.symm
      have e2 : (c == 92) = false := by simpa using h1
      rw [e1, e2]
      rfl
theorem contains_bn : ∀ (s : Str), Lib.contains s [92, 10] = hasBN s
  | [] => rfl
  | c :: t => by
    have ih := contains_bn t
    unfold Lib.contains at *
    rw [hasBN, ← ih, Lib.index]
    have hg := Lib.index_ge t [92, 10]
    have hp := pre_bn c t
    rw [hp]
    by_cases h : (c == 92 && t.head? == some 10) = true
    · rw [if_pos h, h]; rfl
    · rw [if_neg h]
      rw [Bool.not_eq_true] at h
      rw [h, Bool.false_or]
      by_cases h2 : (Lib.index t [92, 10] == -1) = true
      · rw [if_pos h2]
        have h2 : Lib.index t [92, 10] = -1 := by simpa using h2
        rw [h2]
      · rw [if_neg h2]
        have h2 : Lib.index t [92, 10] ≠ -1 := by simpa using h2
        rw [decide_eq_decide]
        omega
theorem contains_fn (s : Str) (hs : s.length ≤ 1000000) (w : World) (hm : ML w) :
    Calls Tryz.prog 125 #[.string ⟨s.toArray⟩, .string ⟨#[92, 10]⟩] w fun e w' => e = .returned (.bool (hasBN s)) ∧ w' = w := by
  obtain ⟨m, hm⟩ := hm
  have h := Tryz.strings_Contains ⟨s.toArray⟩ ⟨#[92, 10]⟩ m w (by rw [Lib.size_mk]; omega) hm
  rw [show (⟨s.toArray⟩ : ByteArray).data.toList = s by simp, show (⟨#[92, 10]⟩ : ByteArray).data.toList = [92, 10] from rfl, contains_bn] at h
  exact h
theorem bal_cons (d : Nat) (c : UInt8) (t : Str) : bal d (c :: t) =
    if c == 92 then (match t with | [] => false | _ :: t' => bal d t')
    else if c == 123 then bal (d + 1) t
    else if c == 125 then (match d with | 0 => false | d' + 1 => bal d' t)
    else bal d t := bal.eq_def ..
set_option maxRecDepth 100000 in
set_option maxHeartbeats 2000000 in
theorem balanced_fn (s : Str) (hs : s.length ≤ 1000000) (w : World) (hm : ML w) :
    Calls Tryz.prog 103 #[.string ⟨s.toArray⟩] w fun e w' => e = .returned (.bool (balanced s)) ∧ w' = w := by
  have hsz : (⟨s.toArray⟩ : ByteArray).size = s.length := Lib.size_mk _
  obtain ⟨H, hH⟩ : ∃ H, H = hasBN s := ⟨_, rfl⟩
  obtain ⟨B, hB⟩ : ∃ B, B = bal 0 s := ⟨_, rfl⟩
  obtain ⟨R, hR⟩ : ∃ R, R = balanced s := ⟨_, rfl⟩
  have hc := contains_fn s hs w hm
  have hR2 : R = (B && !H) := by rw [hR, hB, hH]; rfl
  rw [← hH] at hc
  rw [← hR]
  have HC := hid hc
  have HB := hid hB
  have HR := hid hR2
  clear hc hB hR2 hR hH hm
  go_enter Tryz.func103, Tryz.ntmps103
  go_wp2_with fail
  go_loopg [3, 4] s.length (fun k dv iv wr => ∃ (i d : Nat) (rest : Str), dv = .int .i64 (d : Nat) ∧ iv = .int .i64 (i : Nat) ∧ At s rest i ∧ B = bal d rest ∧ wr = w ∧ k = rest.length ∧ d ≤ i)
  case atStart => exact ⟨0, 0, s, rfl, rfl, At.start s, HB.out, rfl, rfl, Nat.le_refl _⟩
  case round =>
    obtain ⟨i, d, rest, rfl, rfl, ha, hb, hw, rfl, hd⟩ := hrel
    subst hw
    have HB2 := hid hb
    clear hb HB
    have hle : i ≤ s.length := by have := ha.len; omega
    cases rest with
    | nil =>
      have hge : s.length ≤ i := ha.nil_iff.1 rfl
      have HB3 : B = (d == 0) := by rw [HB2.out]; rfl
      have HB4 := hid HB3
      clear HB3 HB2
      by_cases h0 : d = 0
      · subst h0
        go_wp2_with fail
        (with_reducible refine HC.out.mono ?_); rintro e w1 ⟨rfl, hw⟩; subst w1
        go_wp2
        go_ret
        exact ⟨by rw [HR.out, HB4.out]; rfl, rfl⟩
      · have hne : ((d : Int) == 0) = false := by rw [beq_eq_false_iff_ne]; omega
        go_wp2
        go_ret
        refine ⟨?_, rfl⟩
        rw [HR.out, HB4.out, show (d == 0) = false by simpa using h0]
        rfl
    | cons c t =>
      have hlt := ha.lt
      have hx := ha.byte
      have hlen := ha.len
      simp only [List.length_cons] at hlen
      by_cases h92 : c = 92
      · subst h92
        cases t with
        | nil =>
          have he : ((i : Int) + 1 == (s.length : Int)) = true := by rw [beq_iff_eq]; simp at hlen; omega
          go_wp2
          go_ret
          exact ⟨by rw [HR.out, HB2.out, bal_cons]; rfl, rfl⟩
        | cons e t =>
          simp only [List.length_cons] at hlen
          have he : ((i : Int) + 1 == (s.length : Int)) = false := by rw [beq_eq_false_iff_ne]; omega
          go_wp2
          go_roundg t.length
          case measure => simp; omega
          case rel => exact ⟨i + 2, d, t, rfl, by rw [Value.int.injEq]; exact ⟨rfl, by omega⟩, ha.tail.tail, by rw [HB2.out, bal_cons]; rfl, rfl, rfl, by omega⟩
      · have n92 := byte_ne 92 h92 rfl
        by_cases h123 : c = 123
        · subst h123
          go_wp2
          go_roundg t.length
          case measure => simp
          case rel => exact ⟨i + 1, d + 1, t, by go_num, by go_num, ha.tail, by rw [HB2.out, bal_cons]; rfl, rfl, rfl, by omega⟩
        · have n123 := byte_ne 123 h123 rfl
          by_cases h125 : c = 125
          · subst h125
            cases d with
            | zero =>
              go_wp2
              go_ret
              exact ⟨by rw [HR.out, HB2.out, bal_cons]; rfl, rfl⟩
            | succ d =>
              have hnn : ¬ (((d + 1 : Nat) : Int) - 1 < 0) := by omega
              go_wp2
              go_roundg t.length
              case measure => simp
              case rel => exact ⟨i + 1, d, t, by rw [Value.int.injEq]; exact ⟨rfl, by omega⟩, by go_num, ha.tail, by rw [HB2.out, bal_cons]; rfl, rfl, rfl, by omega⟩
          · have n125 := byte_ne 125 h125 rfl
            go_wp2
            go_roundg t.length
            case measure => simp
            case rel => exact ⟨i + 1, d, t, rfl, by go_num, ha.tail, by rw [HB2.out, bal_cons, if_neg (by simpa using h92), if_neg (by simpa using h123), if_neg (by simpa using h125)], rfl, rfl, by omega⟩
theorem slash_yes {c : UInt8} {b : Bool} (t : Str) (h : special c = true ∨ (b = true ∧ c = 35)) : slash b (c :: t) = 92 :: slash1 c :: slash false t := by
  rw [slash, if_pos]
  rcases h with h | ⟨h1, h2⟩
  · rw [h]; rfl
  · rw [h1, h2]; rfl
theorem slash_no {c : UInt8} {b : Bool} (t : Str) (h : special c = false) (h2 : b = true → c ≠ 35) : slash b (c :: t) = c :: slash false t := by
  rw [slash, if_neg]
  rw [h, Bool.false_or, Bool.and_eq_true, beq_iff_eq]
  exact fun ⟨h3, h4⟩ => h2 h3 h4
theorem slash1_same {c : UInt8} (h : 14 ≤ c.toNat) : slash1 c = c := by
  unfold slash1
  have hn : ∀ k : UInt8, k.toNat < 14 → (c == k) = false := by
    intro k hk
    rw [beq_eq_false_iff_ne]
    rintro rfl
    omega
  rw [if_neg (by rw [hn 9 (by decide)]; simp), if_neg (by rw [hn 10 (by decide)]; simp), if_neg (by rw [hn 11 (by decide)]; simp), if_neg (by rw [hn 12 (by decide)]; simp), if_neg (by rw [hn 13 (by decide)]; simp)]
theorem special_split {c : UInt8} (h : special c = true) : c = 9 ∨ c = 10 ∨ c = 11 ∨ c = 12 ∨ c = 13 ∨ 14 ≤ c.toNat := by
  rcases slashy (.inl h) with rfl | rfl | rfl | rfl | rfl | rfl | rfl | rfl | rfl | rfl | rfl | rfl | rfl | rfl | rfl <;> simp
theorem slash_len : ∀ (s : Str) (b : Bool), (slash b s).length ≤ 2 * s.length
  | [], _ => Nat.le_refl _
  | c :: t, b => by
    have := slash_len t false
    rw [slash]
    split
    · simp only [List.length_cons]; omega
    · simp only [List.length_cons]; omega
theorem quote_len (s : Str) : (quote s).length ≤ 2 * s.length + 2 := by
  unfold quote
  split
  · simp
  · split
    · omega
    · split
      · simp; omega
      · have := slash_len s true; omega
theorem cat3 (s : Str) : (⟨#[123]⟩ : ByteArray) ++ ⟨s.toArray⟩ ++ ⟨#[125]⟩ = ⟨(123 :: (s ++ [125])).toArray⟩ := by
  rw [ByteArray.ext_iff]
  simp [ByteArray.data_append]
set_option maxRecDepth 100000 in
set_option maxHeartbeats 20000000 in
theorem quote_plain_fn (c0 : UInt8) (t0 : Str) (hs : (c0 :: t0).length ≤ 1000000) (hp : plainW (c0 :: t0) = true) (w : World) (hm : ML w) :
    Calls Tryz.prog 79 #[.string ⟨(c0 :: t0).toArray⟩] w fun e w' => e = .returned (.string ⟨(c0 :: t0).toArray⟩) ∧ Below w.heap.size w w' := by
  have hsz : (⟨(c0 :: t0).toArray⟩ : ByteArray).size = (c0 :: t0).length := Lib.size_mk _
  have hx0 : ∀ h, (⟨(c0 :: t0).toArray⟩ : ByteArray)[0]'h = c0 := fun h => rfl
  have hemp : (c0 :: t0).isEmpty = false := rfl
  have hpos : 0 < (c0 :: t0).length := by simp
  have hb := balanced_fn (c0 :: t0) hs w hm
  have hp2 : plainW (c0 :: t0) = ((c0 != 35) && (c0 :: t0).all fun c => !special c) := rfl
  rw [hp] at hp2
  clear hp
  have hst : At (c0 :: t0) (c0 :: t0) 0 := At.start _
  generalize c0 :: t0 = s at *
  have HB := hid hb
  have HP := hid hp2
  clear hb hp2
  have h35 : (c0 != 35) = ((c0.toNat : Int) != 35) := by
    by_cases h : c0 = 35
    · subst h; rfl
    · rw [byte_ne' 35 h rfl]; simpa using h
  have HP2 := hid (show true = (((c0.toNat : Int) != 35) && s.all fun c => !special c) by rw [HP.out, h35])
  replace HP := HP2
  clear HP2 h35
  go_enter Tryz.func79, Tryz.ntmps79
  go_wp2_with fail
  go_loopg [3, 4] s.length (fun k bv iv wr => ∃ (i : Nat) (b : Bool) (rest : Str), bv = .bool b ∧ iv = .int .i64 (i : Nat) ∧ At s rest i ∧ true = (b && rest.all fun c => !special c) ∧ wr = w ∧ k = rest.length)
  case atStart => exact ⟨0, ((c0.toNat : Int) != 35), s, rfl, rfl, hst, HP.out, rfl, rfl⟩
  case round =>
    obtain ⟨i, b, rest, rfl, rfl, ha, hb, hw, rfl⟩ := hrel
    replace hw := hw.symm
    subst hw
    have HB2 := hid hb
    clear hb HP
    have hle : i ≤ s.length := by have := ha.len; omega
    cases rest with
    | nil =>
      have hge : s.length ≤ i := ha.nil_iff.1 rfl
      cases b with
      | true =>
        go_wp2
        go_ret
        exact ⟨rfl, Below.refl _ _⟩
      | false =>
        exact absurd HB2.out (by simp)
    | cons c t =>
      have hlt := ha.lt
      have hx := ha.byte
      have hlen := ha.len
      cases b with
      | false =>
        exact absurd HB2.out (by simp)
      | true =>
        have hsp := special_fn c w
        have hq := HB2.out
        rw [List.all_cons, Bool.true_and] at hq
        obtain ⟨S, hS⟩ : ∃ S, S = special c := ⟨_, rfl⟩
        rw [← hS] at hsp hq
        have HS := hid hsp
        have HQ := hid hq
        clear hS hsp hq HB2
        go_wp2_with fail
        (with_reducible refine HS.out.mono ?_); rintro e w1 ⟨rfl, hw⟩; subst w1
        go_wp2
        go_roundg t.length
        case measure => simp
        case rel => exact ⟨i + 1, !S, t, rfl, by go_num, ha.tail, HQ.out, rfl, rfl⟩
set_option maxRecDepth 100000 in
set_option maxHeartbeats 20000000 in
theorem quote_brace_fn (c0 : UInt8) (t0 : Str) (hs : (c0 :: t0).length ≤ 1000000) (hp : plainW (c0 :: t0) = false) (hbal : balanced (c0 :: t0) = true) (w : World) (hm : ML w) :
    Calls Tryz.prog 79 #[.string ⟨(c0 :: t0).toArray⟩] w fun e w' => e = .returned (.string ⟨(123 :: (c0 :: t0 ++ [125])).toArray⟩) ∧ Below w.heap.size w w' := by
  have hsz : (⟨(c0 :: t0).toArray⟩ : ByteArray).size = (c0 :: t0).length := Lib.size_mk _
  have hx0 : ∀ h, (⟨(c0 :: t0).toArray⟩ : ByteArray)[0]'h = c0 := fun h => rfl
  have hemp : (c0 :: t0).isEmpty = false := rfl
  have hpos : 0 < (c0 :: t0).length := by simp
  have hb := balanced_fn (c0 :: t0) hs w hm
  rw [hbal] at hb
  have hcat : (⟨#[123]⟩ : ByteArray) ++ ⟨(c0 :: t0).toArray⟩ ++ ⟨#[125]⟩ = ⟨(123 :: (c0 :: t0 ++ [125])).toArray⟩ := cat3 _
  have hp2 : plainW (c0 :: t0) = ((c0 != 35) && (c0 :: t0).all fun c => !special c) := rfl
  rw [hp] at hp2
  clear hp
  have hst : At (c0 :: t0) (c0 :: t0) 0 := At.start _
  generalize c0 :: t0 = s at *
  have HB := hid hb
  have HP := hid hp2
  have HJ := hid hcat
  clear hcat
  clear hb hp2
  have h35 : (c0 != 35) = ((c0.toNat : Int) != 35) := by
    by_cases h : c0 = 35
    · subst h; rfl
    · rw [byte_ne' 35 h rfl]; simpa using h
  have HP2 := hid (show false = (((c0.toNat : Int) != 35) && s.all fun c => !special c) by rw [HP.out, h35])
  replace HP := HP2
  clear HP2 h35
  go_enter Tryz.func79, Tryz.ntmps79
  go_wp2_with fail
  go_loopg [3, 4] s.length (fun k bv iv wr => ∃ (i : Nat) (b : Bool) (rest : Str), bv = .bool b ∧ iv = .int .i64 (i : Nat) ∧ At s rest i ∧ false = (b && rest.all fun c => !special c) ∧ wr = w ∧ k = rest.length)
  case atStart => exact ⟨0, ((c0.toNat : Int) != 35), s, rfl, rfl, hst, HP.out, rfl, rfl⟩
  case round =>
    obtain ⟨i, b, rest, rfl, rfl, ha, hb, hw, rfl⟩ := hrel
    replace hw := hw.symm
    subst hw
    have HB2 := hid hb
    clear hb HP
    have hle : i ≤ s.length := by have := ha.len; omega
    cases rest with
    | nil =>
      have hge : s.length ≤ i := ha.nil_iff.1 rfl
      cases b with
      | true =>
        exact absurd HB2.out (by simp)
      | false =>
        go_wp2_with fail
        (with_reducible refine HB.out.mono ?_); rintro e w1 ⟨rfl, hw⟩; subst w1
        go_wp2
        go_ret
        exact ⟨rfl, Below.refl _ _⟩
    | cons c t =>
      have hlt := ha.lt
      have hx := ha.byte
      have hlen := ha.len
      cases b with
      | false =>
        go_wp2_with fail
        (with_reducible refine HB.out.mono ?_); rintro e w1 ⟨rfl, hw⟩; subst w1
        go_wp2
        go_ret
        exact ⟨rfl, Below.refl _ _⟩
      | true =>
        have hsp := special_fn c w
        have hq := HB2.out
        rw [List.all_cons, Bool.true_and] at hq
        obtain ⟨S, hS⟩ : ∃ S, S = special c := ⟨_, rfl⟩
        rw [← hS] at hsp hq
        have HS := hid hsp
        have HQ := hid hq
        clear hS hsp hq HB2
        go_wp2_with fail
        (with_reducible refine HS.out.mono ?_); rintro e w1 ⟨rfl, hw⟩; subst w1
        go_wp2
        go_roundg t.length
        case measure => simp
        case rel => exact ⟨i + 1, !S, t, rfl, by go_num, ha.tail, HQ.out, rfl, rfl⟩
set_option maxRecDepth 100000 in
set_option maxHeartbeats 20000000 in
theorem quote_slash_fn (c0 : UInt8) (t0 : Str) (hs : (c0 :: t0).length ≤ 1000000) (hp : plainW (c0 :: t0) = false) (hbal : balanced (c0 :: t0) = false) (w : World) (hm : ML w) :
    Calls Tryz.prog 79 #[.string ⟨(c0 :: t0).toArray⟩] w fun e w' => e = .returned (.string ⟨(slash true (c0 :: t0)).toArray⟩) ∧ Below w.heap.size w w' := by
  have hsz : (⟨(c0 :: t0).toArray⟩ : ByteArray).size = (c0 :: t0).length := Lib.size_mk _
  have hx0 : ∀ h, (⟨(c0 :: t0).toArray⟩ : ByteArray)[0]'h = c0 := fun h => rfl
  have hemp : (c0 :: t0).isEmpty = false := rfl
  have hpos : 0 < (c0 :: t0).length := by simp
  have hb := balanced_fn (c0 :: t0) hs w hm
  rw [hbal] at hb
  obtain ⟨J, hcat⟩ : ∃ J, J = slash true (c0 :: t0) := ⟨_, rfl⟩
  rw [← hcat]
  have hp2 : plainW (c0 :: t0) = ((c0 != 35) && (c0 :: t0).all fun c => !special c) := rfl
  rw [hp] at hp2
  clear hp
  have hst : At (c0 :: t0) (c0 :: t0) 0 := At.start _
  generalize c0 :: t0 = s at *
  have HB := hid hb
  have HP := hid hp2
  have HJ := hid hcat
  clear hcat
  clear hb hp2
  have h35 : (c0 != 35) = ((c0.toNat : Int) != 35) := by
    by_cases h : c0 = 35
    · subst h; rfl
    · rw [byte_ne' 35 h rfl]; simpa using h
  have HP2 := hid (show false = (((c0.toNat : Int) != 35) && s.all fun c => !special c) by rw [HP.out, h35])
  replace HP := HP2
  clear HP2 h35
  go_enter Tryz.func79, Tryz.ntmps79
  go_wp2_with fail
  go_loopg [3, 4] s.length (fun k bv iv wr => ∃ (i : Nat) (b : Bool) (rest : Str), bv = .bool b ∧ iv = .int .i64 (i : Nat) ∧ At s rest i ∧ false = (b && rest.all fun c => !special c) ∧ wr = w ∧ k = rest.length)
  case atStart => exact ⟨0, ((c0.toNat : Int) != 35), s, rfl, rfl, hst, HP.out, rfl, rfl⟩
  case round =>
    obtain ⟨i, b, rest, rfl, rfl, ha, hb, hw, rfl⟩ := hrel
    replace hw := hw.symm
    subst hw
    have HB2 := hid hb
    clear hb HP
    have hle : i ≤ s.length := by have := ha.len; omega
    cases rest with
    | nil =>
      have hge : s.length ≤ i := ha.nil_iff.1 rfl
      cases b with
      | true =>
        exact absurd HB2.out (by simp)
      | false =>
        go_wp2_with fail
        (with_reducible refine HB.out.mono ?_); rintro e w1 ⟨rfl, hw⟩; subst w1
        have hB0 := Bld.new w
        have hW0 : Below w.heap.size w (w.alloc (.cells #[.pointer none, .slice none 0 0] 77)) := (Below.refl _ _).alloc (Nat.le_refl _) _
        clear ha hx0
        go_wp2_with fail
        generalize w.alloc (.cells #[.pointer none, .slice none 0 0] 77) = w0 at *
        go_loopg [38] s.length (fun k jv wr => ∃ (j : Nat) (done rest : Str), jv = .int .i64 (j : Nat) ∧ At s rest j ∧ Bld wr w.heap.size done ∧ J = done ++ slash (j == 0) rest ∧ Below w.heap.size w wr ∧ k = rest.length ∧ done.length + 2 * rest.length ≤ 2 * s.length)
        case atStart => exact ⟨0, [], s, rfl, hst, hB0, by rw [HJ.out]; rfl, hW0, rfl, by simp⟩
        case round =>
          obtain ⟨j, done, rest, rfl, ha, hB, hj, hbl, rfl, hl⟩ := hrel
          have HD := hid hj
          clear hj hB0 hW0 w0
          have hle : j ≤ s.length := by have := ha.len; omega
          have hbs := hB.lt
          have wb92 : ∀ (u : World) (l : Str), Bld u w.heap.size l → l.length ≤ 1000000000 → Calls Tryz.prog 60 #[.pointer (some ⟨w.heap.size, 0, none⟩), .int .u8 92] u fun e w' => e = .returned .nilIface ∧ Bld w' w.heap.size (l ++ [92]) ∧ Kept w.heap.size u w' := fun u l h hl => wbyte_fn h 92 hl
          cases rest with
          | nil =>
            have hge : s.length ≤ j := ha.nil_iff.1 rfl
            have hc := hid (str_fn hB)
            go_wp2_with fail
            (with_reducible refine hc.out.mono ?_); rintro e w1 ⟨rfl, hB1, hk1⟩
            go_wp2
            go_ret
            exact ⟨by rw [HD.out]; simp [slash], hbl.trans hk1.1⟩
          | cons c t =>
            have hlt := ha.lt
            have hx := ha.byte
            have hlen := ha.len
            simp only [List.length_cons] at hl hlen
            have hsp := special_fn c wr
            obtain ⟨S, hS⟩ : ∃ S, special c = S := ⟨_, rfl⟩
            rw [hS] at hsp
            have HQ := hid hS
            have HS := hid hsp
            clear hS hsp
            cases S with
            | true =>
              rcases special_split HQ.out with rfl | rfl | rfl | rfl | rfl | h14
              · replace HS := hid (show Calls Tryz.prog 102 #[.int .u8 9] wr _ from HS.out)
                have hk : ∀ h, (⟨#[116, 110, 118, 102, 114]⟩ : ByteArray)[0]'h = 116 := fun _ => rfl
                go_wp2_with fail
                (with_reducible refine HS.out.mono ?_); rintro e w1 ⟨rfl, hw⟩; subst w1
                have hc1 := wb92 wr done hB (by omega)
                have HC1 := hid hc1
                clear hc1
                go_wp2_with fail
                (with_reducible refine HC1.out.mono ?_); rintro e w1 ⟨rfl, hB1, hk1⟩
                have hc2 : Calls Tryz.prog 60 #[.pointer (some ⟨w.heap.size, 0, none⟩), .int .u8 116] w1 fun e w' => e = .returned .nilIface ∧ Bld w' w.heap.size (done ++ [92] ++ [116]) ∧ Kept w.heap.size w1 w' := wbyte_fn hB1 116 (by simp; omega)
                have HC2 := hid hc2
                clear hc2
                go_wp2_with fail
                (with_reducible refine HC2.out.mono ?_); rintro e w2 ⟨rfl, hB2, hk2⟩
                go_wp2
                go_roundg t.length
                case measure => simp
                case rel => exact ⟨j + 1, done ++ [92] ++ [116], t, by go_num, ha.tail, hB2, by rw [HD.out, slash_yes t (.inl HQ.out)]; simp [slash1], hbl.trans (hk1.trans hk2).1, rfl, by simp; omega⟩
              · replace HS := hid (show Calls Tryz.prog 102 #[.int .u8 10] wr _ from HS.out)
                have hk : ∀ h, (⟨#[116, 110, 118, 102, 114]⟩ : ByteArray)[1]'h = 110 := fun _ => rfl
                go_wp2_with fail
                (with_reducible refine HS.out.mono ?_); rintro e w1 ⟨rfl, hw⟩; subst w1
                have hc1 := wb92 wr done hB (by omega)
                have HC1 := hid hc1
                clear hc1
                go_wp2_with fail
                (with_reducible refine HC1.out.mono ?_); rintro e w1 ⟨rfl, hB1, hk1⟩
                have hc2 : Calls Tryz.prog 60 #[.pointer (some ⟨w.heap.size, 0, none⟩), .int .u8 110] w1 fun e w' => e = .returned .nilIface ∧ Bld w' w.heap.size (done ++ [92] ++ [110]) ∧ Kept w.heap.size w1 w' := wbyte_fn hB1 110 (by simp; omega)
                have HC2 := hid hc2
                clear hc2
                go_wp2_with fail
                (with_reducible refine HC2.out.mono ?_); rintro e w2 ⟨rfl, hB2, hk2⟩
                go_wp2
                go_roundg t.length
                case measure => simp
                case rel => exact ⟨j + 1, done ++ [92] ++ [110], t, by go_num, ha.tail, hB2, by rw [HD.out, slash_yes t (.inl HQ.out)]; simp [slash1], hbl.trans (hk1.trans hk2).1, rfl, by simp; omega⟩
              · replace HS := hid (show Calls Tryz.prog 102 #[.int .u8 11] wr _ from HS.out)
                have hk : ∀ h, (⟨#[116, 110, 118, 102, 114]⟩ : ByteArray)[2]'h = 118 := fun _ => rfl
                go_wp2_with fail
                (with_reducible refine HS.out.mono ?_); rintro e w1 ⟨rfl, hw⟩; subst w1
                have hc1 := wb92 wr done hB (by omega)
                have HC1 := hid hc1
                clear hc1
                go_wp2_with fail
                (with_reducible refine HC1.out.mono ?_); rintro e w1 ⟨rfl, hB1, hk1⟩
                have hc2 : Calls Tryz.prog 60 #[.pointer (some ⟨w.heap.size, 0, none⟩), .int .u8 118] w1 fun e w' => e = .returned .nilIface ∧ Bld w' w.heap.size (done ++ [92] ++ [118]) ∧ Kept w.heap.size w1 w' := wbyte_fn hB1 118 (by simp; omega)
                have HC2 := hid hc2
                clear hc2
                go_wp2_with fail
                (with_reducible refine HC2.out.mono ?_); rintro e w2 ⟨rfl, hB2, hk2⟩
                go_wp2
                go_roundg t.length
                case measure => simp
                case rel => exact ⟨j + 1, done ++ [92] ++ [118], t, by go_num, ha.tail, hB2, by rw [HD.out, slash_yes t (.inl HQ.out)]; simp [slash1], hbl.trans (hk1.trans hk2).1, rfl, by simp; omega⟩
              · replace HS := hid (show Calls Tryz.prog 102 #[.int .u8 12] wr _ from HS.out)
                have hk : ∀ h, (⟨#[116, 110, 118, 102, 114]⟩ : ByteArray)[3]'h = 102 := fun _ => rfl
                go_wp2_with fail
                (with_reducible refine HS.out.mono ?_); rintro e w1 ⟨rfl, hw⟩; subst w1
                have hc1 := wb92 wr done hB (by omega)
                have HC1 := hid hc1
                clear hc1
                go_wp2_with fail
                (with_reducible refine HC1.out.mono ?_); rintro e w1 ⟨rfl, hB1, hk1⟩
                have hc2 : Calls Tryz.prog 60 #[.pointer (some ⟨w.heap.size, 0, none⟩), .int .u8 102] w1 fun e w' => e = .returned .nilIface ∧ Bld w' w.heap.size (done ++ [92] ++ [102]) ∧ Kept w.heap.size w1 w' := wbyte_fn hB1 102 (by simp; omega)
                have HC2 := hid hc2
                clear hc2
                go_wp2_with fail
                (with_reducible refine HC2.out.mono ?_); rintro e w2 ⟨rfl, hB2, hk2⟩
                go_wp2
                go_roundg t.length
                case measure => simp
                case rel => exact ⟨j + 1, done ++ [92] ++ [102], t, by go_num, ha.tail, hB2, by rw [HD.out, slash_yes t (.inl HQ.out)]; simp [slash1], hbl.trans (hk1.trans hk2).1, rfl, by simp; omega⟩
              · replace HS := hid (show Calls Tryz.prog 102 #[.int .u8 13] wr _ from HS.out)
                have hk : ∀ h, (⟨#[116, 110, 118, 102, 114]⟩ : ByteArray)[4]'h = 114 := fun _ => rfl
                go_wp2_with fail
                (with_reducible refine HS.out.mono ?_); rintro e w1 ⟨rfl, hw⟩; subst w1
                have hc1 := wb92 wr done hB (by omega)
                have HC1 := hid hc1
                clear hc1
                go_wp2_with fail
                (with_reducible refine HC1.out.mono ?_); rintro e w1 ⟨rfl, hB1, hk1⟩
                have hc2 : Calls Tryz.prog 60 #[.pointer (some ⟨w.heap.size, 0, none⟩), .int .u8 114] w1 fun e w' => e = .returned .nilIface ∧ Bld w' w.heap.size (done ++ [92] ++ [114]) ∧ Kept w.heap.size w1 w' := wbyte_fn hB1 114 (by simp; omega)
                have HC2 := hid hc2
                clear hc2
                go_wp2_with fail
                (with_reducible refine HC2.out.mono ?_); rintro e w2 ⟨rfl, hB2, hk2⟩
                go_wp2
                go_roundg t.length
                case measure => simp
                case rel => exact ⟨j + 1, done ++ [92] ++ [114], t, by go_num, ha.tail, hB2, by rw [HD.out, slash_yes t (.inl HQ.out)]; simp [slash1], hbl.trans (hk1.trans hk2).1, rfl, by simp; omega⟩
              · have hr : slash1 c = c := slash1_same h14
                have h9 : (9 : Int) ≤ (c.toNat : Int) := by omega
                have h13 : ¬ ((c.toNat : Int) ≤ 13) := by omega
                go_wp2_with fail
                (with_reducible refine HS.out.mono ?_); rintro e w1 ⟨rfl, hw⟩; subst w1
                have hc1 := wb92 wr done hB (by omega)
                have HC1 := hid hc1
                clear hc1
                go_wp2_with fail
                (with_reducible refine HC1.out.mono ?_); rintro e w1 ⟨rfl, hB1, hk1⟩
                have hc2 : Calls Tryz.prog 60 #[.pointer (some ⟨w.heap.size, 0, none⟩), .int .u8 c.toNat] w1 fun e w' => e = .returned .nilIface ∧ Bld w' w.heap.size (done ++ [92] ++ [c]) ∧ Kept w.heap.size w1 w' := wbyte_fn hB1 c (by simp; omega)
                have HC2 := hid hc2
                clear hc2
                go_wp2_with fail
                (with_reducible refine HC2.out.mono ?_); rintro e w2 ⟨rfl, hB2, hk2⟩
                go_wp2
                go_roundg t.length
                case measure => simp
                case rel => exact ⟨j + 1, done ++ [92] ++ [c], t, by go_num, ha.tail, hB2, by rw [HD.out, slash_yes t (.inl HQ.out)]; simp [hr], hbl.trans (hk1.trans hk2).1, rfl, by simp; omega⟩
            | false =>
              by_cases h0 : j = 0
              · subst h0
                by_cases h35 : c = 35
                · subst h35
                  replace HS := hid (show Calls Tryz.prog 102 #[.int .u8 35] wr _ from HS.out)
                  go_wp2_with fail
                  (with_reducible refine HS.out.mono ?_); rintro e w1 ⟨rfl, hw⟩; subst w1
                  have hc1 := wb92 wr done hB (by omega)
                  have HC1 := hid hc1
                  clear hc1
                  go_wp2_with fail
                  (with_reducible refine HC1.out.mono ?_); rintro e w1 ⟨rfl, hB1, hk1⟩
                  have hc2 : Calls Tryz.prog 60 #[.pointer (some ⟨w.heap.size, 0, none⟩), .int .u8 35] w1 fun e w' => e = .returned .nilIface ∧ Bld w' w.heap.size (done ++ [92] ++ [35]) ∧ Kept w.heap.size w1 w' := wbyte_fn hB1 35 (by simp; omega)
                  have HC2 := hid hc2
                  clear hc2
                  go_wp2_with fail
                  (with_reducible refine HC2.out.mono ?_); rintro e w2 ⟨rfl, hB2, hk2⟩
                  go_wp2
                  go_roundg t.length
                  case measure => simp
                  case rel => exact ⟨0 + 1, done ++ [92] ++ [35], t, by go_num, ha.tail, hB2, by rw [HD.out, slash_yes (b := ((0 : Nat) == 0)) t (.inr ⟨rfl, rfl⟩)]; simp [slash1], hbl.trans (hk1.trans hk2).1, rfl, by simp; omega⟩
                · have n35 := byte_ne 35 h35 rfl
                  go_wp2_with fail
                  (with_reducible refine HS.out.mono ?_); rintro e w1 ⟨rfl, hw⟩; subst w1
                  have hc2 := hid (wbyte_fn hB c (by omega))
                  go_wp2_with fail
                  (with_reducible refine hc2.out.mono ?_); rintro e w2 ⟨rfl, hB2, hk2⟩
                  go_wp2
                  go_roundg t.length
                  case measure => simp
                  case rel => exact ⟨0 + 1, done ++ [c], t, by go_num, ha.tail, hB2, by rw [HD.out, slash_no t HQ.out (fun _ => h35)]; simp, hbl.trans hk2.1, rfl, by simp; omega⟩
              · have hj0 : ((j : Int) == 0) = false := by rw [beq_eq_false_iff_ne]; omega
                go_wp2_with fail
                (with_reducible refine HS.out.mono ?_); rintro e w1 ⟨rfl, hw⟩; subst w1
                have hc2 := hid (wbyte_fn hB c (by omega))
                go_wp2_with fail
                (with_reducible refine hc2.out.mono ?_); rintro e w2 ⟨rfl, hB2, hk2⟩
                go_wp2
                go_roundg t.length
                case measure => simp
                case rel => exact ⟨j + 1, done ++ [c], t, by go_num, ha.tail, hB2, by rw [HD.out, slash_no t HQ.out (fun h => absurd (by simpa using h) h0)]; simp, hbl.trans hk2.1, rfl, by simp; omega⟩
    | cons c t =>
      have hlt := ha.lt
      have hx := ha.byte
      have hlen := ha.len
      cases b with
      | false =>
        go_wp2_with fail
        (with_reducible refine HB.out.mono ?_); rintro e w1 ⟨rfl, hw⟩; subst w1
        have hB0 := Bld.new w
        have hW0 : Below w.heap.size w (w.alloc (.cells #[.pointer none, .slice none 0 0] 77)) := (Below.refl _ _).alloc (Nat.le_refl _) _
        clear ha hx0
        go_wp2_with fail
        generalize w.alloc (.cells #[.pointer none, .slice none 0 0] 77) = w0 at *
        go_loopg [38] s.length (fun k jv wr => ∃ (j : Nat) (done rest : Str), jv = .int .i64 (j : Nat) ∧ At s rest j ∧ Bld wr w.heap.size done ∧ J = done ++ slash (j == 0) rest ∧ Below w.heap.size w wr ∧ k = rest.length ∧ done.length + 2 * rest.length ≤ 2 * s.length)
        case atStart => exact ⟨0, [], s, rfl, hst, hB0, by rw [HJ.out]; rfl, hW0, rfl, by simp⟩
        case round =>
          obtain ⟨j, done, rest, rfl, ha, hB, hj, hbl, rfl, hl⟩ := hrel
          have HD := hid hj
          clear hj hB0 hW0 w0
          have hle : j ≤ s.length := by have := ha.len; omega
          have hbs := hB.lt
          have wb92 : ∀ (u : World) (l : Str), Bld u w.heap.size l → l.length ≤ 1000000000 → Calls Tryz.prog 60 #[.pointer (some ⟨w.heap.size, 0, none⟩), .int .u8 92] u fun e w' => e = .returned .nilIface ∧ Bld w' w.heap.size (l ++ [92]) ∧ Kept w.heap.size u w' := fun u l h hl => wbyte_fn h 92 hl
          cases rest with
          | nil =>
            have hge : s.length ≤ j := ha.nil_iff.1 rfl
            have hc := hid (str_fn hB)
            go_wp2_with fail
            (with_reducible refine hc.out.mono ?_); rintro e w1 ⟨rfl, hB1, hk1⟩
            go_wp2
            go_ret
            exact ⟨by rw [HD.out]; simp [slash], hbl.trans hk1.1⟩
          | cons c t =>
            have hlt := ha.lt
            have hx := ha.byte
            have hlen := ha.len
            simp only [List.length_cons] at hl hlen
            have hsp := special_fn c wr
            obtain ⟨S, hS⟩ : ∃ S, special c = S := ⟨_, rfl⟩
            rw [hS] at hsp
            have HQ := hid hS
            have HS := hid hsp
            clear hS hsp
            cases S with
            | true =>
              rcases special_split HQ.out with rfl | rfl | rfl | rfl | rfl | h14
              · replace HS := hid (show Calls Tryz.prog 102 #[.int .u8 9] wr _ from HS.out)
                have hk : ∀ h, (⟨#[116, 110, 118, 102, 114]⟩ : ByteArray)[0]'h = 116 := fun _ => rfl
                go_wp2_with fail
                (with_reducible refine HS.out.mono ?_); rintro e w1 ⟨rfl, hw⟩; subst w1
                have hc1 := wb92 wr done hB (by omega)
                have HC1 := hid hc1
                clear hc1
                go_wp2_with fail
                (with_reducible refine HC1.out.mono ?_); rintro e w1 ⟨rfl, hB1, hk1⟩
                have hc2 : Calls Tryz.prog 60 #[.pointer (some ⟨w.heap.size, 0, none⟩), .int .u8 116] w1 fun e w' => e = .returned .nilIface ∧ Bld w' w.heap.size (done ++ [92] ++ [116]) ∧ Kept w.heap.size w1 w' := wbyte_fn hB1 116 (by simp; omega)
                have HC2 := hid hc2
                clear hc2
                go_wp2_with fail
                (with_reducible refine HC2.out.mono ?_); rintro e w2 ⟨rfl, hB2, hk2⟩
                go_wp2
                go_roundg t.length
                case measure => simp
                case rel => exact ⟨j + 1, done ++ [92] ++ [116], t, by go_num, ha.tail, hB2, by rw [HD.out, slash_yes t (.inl HQ.out)]; simp [slash1], hbl.trans (hk1.trans hk2).1, rfl, by simp; omega⟩
              · replace HS := hid (show Calls Tryz.prog 102 #[.int .u8 10] wr _ from HS.out)
                have hk : ∀ h, (⟨#[116, 110, 118, 102, 114]⟩ : ByteArray)[1]'h = 110 := fun _ => rfl
                go_wp2_with fail
                (with_reducible refine HS.out.mono ?_); rintro e w1 ⟨rfl, hw⟩; subst w1
                have hc1 := wb92 wr done hB (by omega)
                have HC1 := hid hc1
                clear hc1
                go_wp2_with fail
                (with_reducible refine HC1.out.mono ?_); rintro e w1 ⟨rfl, hB1, hk1⟩
                have hc2 : Calls Tryz.prog 60 #[.pointer (some ⟨w.heap.size, 0, none⟩), .int .u8 110] w1 fun e w' => e = .returned .nilIface ∧ Bld w' w.heap.size (done ++ [92] ++ [110]) ∧ Kept w.heap.size w1 w' := wbyte_fn hB1 110 (by simp; omega)
                have HC2 := hid hc2
                clear hc2
                go_wp2_with fail
                (with_reducible refine HC2.out.mono ?_); rintro e w2 ⟨rfl, hB2, hk2⟩
                go_wp2
                go_roundg t.length
                case measure => simp
                case rel => exact ⟨j + 1, done ++ [92] ++ [110], t, by go_num, ha.tail, hB2, by rw [HD.out, slash_yes t (.inl HQ.out)]; simp [slash1], hbl.trans (hk1.trans hk2).1, rfl, by simp; omega⟩
              · replace HS := hid (show Calls Tryz.prog 102 #[.int .u8 11] wr _ from HS.out)
                have hk : ∀ h, (⟨#[116, 110, 118, 102, 114]⟩ : ByteArray)[2]'h = 118 := fun _ => rfl
                go_wp2_with fail
                (with_reducible refine HS.out.mono ?_); rintro e w1 ⟨rfl, hw⟩; subst w1
                have hc1 := wb92 wr done hB (by omega)
                have HC1 := hid hc1
                clear hc1
                go_wp2_with fail
                (with_reducible refine HC1.out.mono ?_); rintro e w1 ⟨rfl, hB1, hk1⟩
                have hc2 : Calls Tryz.prog 60 #[.pointer (some ⟨w.heap.size, 0, none⟩), .int .u8 118] w1 fun e w' => e = .returned .nilIface ∧ Bld w' w.heap.size (done ++ [92] ++ [118]) ∧ Kept w.heap.size w1 w' := wbyte_fn hB1 118 (by simp; omega)
                have HC2 := hid hc2
                clear hc2
                go_wp2_with fail
                (with_reducible refine HC2.out.mono ?_); rintro e w2 ⟨rfl, hB2, hk2⟩
                go_wp2
                go_roundg t.length
                case measure => simp
                case rel => exact ⟨j + 1, done ++ [92] ++ [118], t, by go_num, ha.tail, hB2, by rw [HD.out, slash_yes t (.inl HQ.out)]; simp [slash1], hbl.trans (hk1.trans hk2).1, rfl, by simp; omega⟩
              · replace HS := hid (show Calls Tryz.prog 102 #[.int .u8 12] wr _ from HS.out)
                have hk : ∀ h, (⟨#[116, 110, 118, 102, 114]⟩ : ByteArray)[3]'h = 102 := fun _ => rfl
                go_wp2_with fail
                (with_reducible refine HS.out.mono ?_); rintro e w1 ⟨rfl, hw⟩; subst w1
                have hc1 := wb92 wr done hB (by omega)
                have HC1 := hid hc1
                clear hc1
                go_wp2_with fail
                (with_reducible refine HC1.out.mono ?_); rintro e w1 ⟨rfl, hB1, hk1⟩
                have hc2 : Calls Tryz.prog 60 #[.pointer (some ⟨w.heap.size, 0, none⟩), .int .u8 102] w1 fun e w' => e = .returned .nilIface ∧ Bld w' w.heap.size (done ++ [92] ++ [102]) ∧ Kept w.heap.size w1 w' := wbyte_fn hB1 102 (by simp; omega)
                have HC2 := hid hc2
                clear hc2
                go_wp2_with fail
                (with_reducible refine HC2.out.mono ?_); rintro e w2 ⟨rfl, hB2, hk2⟩
                go_wp2
                go_roundg t.length
                case measure => simp
                case rel => exact ⟨j + 1, done ++ [92] ++ [102], t, by go_num, ha.tail, hB2, by rw [HD.out, slash_yes t (.inl HQ.out)]; simp [slash1], hbl.trans (hk1.trans hk2).1, rfl, by simp; omega⟩
              · replace HS := hid (show Calls Tryz.prog 102 #[.int .u8 13] wr _ from HS.out)
                have hk : ∀ h, (⟨#[116, 110, 118, 102, 114]⟩ : ByteArray)[4]'h = 114 := fun _ => rfl
                go_wp2_with fail
                (with_reducible refine HS.out.mono ?_); rintro e w1 ⟨rfl, hw⟩; subst w1
                have hc1 := wb92 wr done hB (by omega)
                have HC1 := hid hc1
                clear hc1
                go_wp2_with fail
                (with_reducible refine HC1.out.mono ?_); rintro e w1 ⟨rfl, hB1, hk1⟩
                have hc2 : Calls Tryz.prog 60 #[.pointer (some ⟨w.heap.size, 0, none⟩), .int .u8 114] w1 fun e w' => e = .returned .nilIface ∧ Bld w' w.heap.size (done ++ [92] ++ [114]) ∧ Kept w.heap.size w1 w' := wbyte_fn hB1 114 (by simp; omega)
                have HC2 := hid hc2
                clear hc2
                go_wp2_with fail
                (with_reducible refine HC2.out.mono ?_); rintro e w2 ⟨rfl, hB2, hk2⟩
                go_wp2
                go_roundg t.length
                case measure => simp
                case rel => exact ⟨j + 1, done ++ [92] ++ [114], t, by go_num, ha.tail, hB2, by rw [HD.out, slash_yes t (.inl HQ.out)]; simp [slash1], hbl.trans (hk1.trans hk2).1, rfl, by simp; omega⟩
              · have hr : slash1 c = c := slash1_same h14
                have h9 : (9 : Int) ≤ (c.toNat : Int) := by omega
                have h13 : ¬ ((c.toNat : Int) ≤ 13) := by omega
                go_wp2_with fail
                (with_reducible refine HS.out.mono ?_); rintro e w1 ⟨rfl, hw⟩; subst w1
                have hc1 := wb92 wr done hB (by omega)
                have HC1 := hid hc1
                clear hc1
                go_wp2_with fail
                (with_reducible refine HC1.out.mono ?_); rintro e w1 ⟨rfl, hB1, hk1⟩
                have hc2 : Calls Tryz.prog 60 #[.pointer (some ⟨w.heap.size, 0, none⟩), .int .u8 c.toNat] w1 fun e w' => e = .returned .nilIface ∧ Bld w' w.heap.size (done ++ [92] ++ [c]) ∧ Kept w.heap.size w1 w' := wbyte_fn hB1 c (by simp; omega)
                have HC2 := hid hc2
                clear hc2
                go_wp2_with fail
                (with_reducible refine HC2.out.mono ?_); rintro e w2 ⟨rfl, hB2, hk2⟩
                go_wp2
                go_roundg t.length
                case measure => simp
                case rel => exact ⟨j + 1, done ++ [92] ++ [c], t, by go_num, ha.tail, hB2, by rw [HD.out, slash_yes t (.inl HQ.out)]; simp [hr], hbl.trans (hk1.trans hk2).1, rfl, by simp; omega⟩
            | false =>
              by_cases h0 : j = 0
              · subst h0
                by_cases h35 : c = 35
                · subst h35
                  replace HS := hid (show Calls Tryz.prog 102 #[.int .u8 35] wr _ from HS.out)
                  go_wp2_with fail
                  (with_reducible refine HS.out.mono ?_); rintro e w1 ⟨rfl, hw⟩; subst w1
                  have hc1 := wb92 wr done hB (by omega)
                  have HC1 := hid hc1
                  clear hc1
                  go_wp2_with fail
                  (with_reducible refine HC1.out.mono ?_); rintro e w1 ⟨rfl, hB1, hk1⟩
                  have hc2 : Calls Tryz.prog 60 #[.pointer (some ⟨w.heap.size, 0, none⟩), .int .u8 35] w1 fun e w' => e = .returned .nilIface ∧ Bld w' w.heap.size (done ++ [92] ++ [35]) ∧ Kept w.heap.size w1 w' := wbyte_fn hB1 35 (by simp; omega)
                  have HC2 := hid hc2
                  clear hc2
                  go_wp2_with fail
                  (with_reducible refine HC2.out.mono ?_); rintro e w2 ⟨rfl, hB2, hk2⟩
                  go_wp2
                  go_roundg t.length
                  case measure => simp
                  case rel => exact ⟨0 + 1, done ++ [92] ++ [35], t, by go_num, ha.tail, hB2, by rw [HD.out, slash_yes (b := ((0 : Nat) == 0)) t (.inr ⟨rfl, rfl⟩)]; simp [slash1], hbl.trans (hk1.trans hk2).1, rfl, by simp; omega⟩
                · have n35 := byte_ne 35 h35 rfl
                  go_wp2_with fail
                  (with_reducible refine HS.out.mono ?_); rintro e w1 ⟨rfl, hw⟩; subst w1
                  have hc2 := hid (wbyte_fn hB c (by omega))
                  go_wp2_with fail
                  (with_reducible refine hc2.out.mono ?_); rintro e w2 ⟨rfl, hB2, hk2⟩
                  go_wp2
                  go_roundg t.length
                  case measure => simp
                  case rel => exact ⟨0 + 1, done ++ [c], t, by go_num, ha.tail, hB2, by rw [HD.out, slash_no t HQ.out (fun _ => h35)]; simp, hbl.trans hk2.1, rfl, by simp; omega⟩
              · have hj0 : ((j : Int) == 0) = false := by rw [beq_eq_false_iff_ne]; omega
                go_wp2_with fail
                (with_reducible refine HS.out.mono ?_); rintro e w1 ⟨rfl, hw⟩; subst w1
                have hc2 := hid (wbyte_fn hB c (by omega))
                go_wp2_with fail
                (with_reducible refine hc2.out.mono ?_); rintro e w2 ⟨rfl, hB2, hk2⟩
                go_wp2
                go_roundg t.length
                case measure => simp
                case rel => exact ⟨j + 1, done ++ [c], t, by go_num, ha.tail, hB2, by rw [HD.out, slash_no t HQ.out (fun h => absurd (by simpa using h) h0)]; simp, hbl.trans hk2.1, rfl, by simp; omega⟩
      | true =>
        have hsp := special_fn c w
        have hq := HB2.out
        rw [List.all_cons, Bool.true_and] at hq
        obtain ⟨S, hS⟩ : ∃ S, S = special c := ⟨_, rfl⟩
        rw [← hS] at hsp hq
        have HS := hid hsp
        have HQ := hid hq
        clear hS hsp hq HB2
        go_wp2_with fail
        (with_reducible refine HS.out.mono ?_); rintro e w1 ⟨rfl, hw⟩; subst w1
        go_wp2
        go_roundg t.length
        case measure => simp
        case rel => exact ⟨i + 1, !S, t, rfl, by go_num, ha.tail, HQ.out, rfl, rfl⟩
theorem quote_fn (s : Str) (hs : s.length ≤ 1000000) (w : World) (hm : ML w) :
    Calls Tryz.prog 79 #[.string ⟨s.toArray⟩] w fun e w' => e = .returned (.string ⟨(quote s).toArray⟩) ∧ Below w.heap.size w w' := by
  cases s with
  | nil =>
    go_enter Tryz.func79, Tryz.ntmps79
    go_wp2
    go_ret
    exact ⟨rfl, Below.refl _ _⟩
  | cons c0 t0 =>
    unfold quote
    rw [if_neg (by simp)]
    by_cases h1 : plainW (c0 :: t0) = true
    · rw [if_pos h1]
      exact quote_plain_fn c0 t0 hs h1 w hm
    · rw [if_neg h1]
      by_cases h2 : balanced (c0 :: t0) = true
      · rw [if_pos h2]
        exact quote_brace_fn c0 t0 hs (by simpa using h1) h2 w hm
      · rw [if_neg h2]
        exact quote_slash_fn c0 t0 hs (by simpa using h1) (by simpa using h2) w hm
theorem first_has (c : UInt8) : ∀ (l : Str) (i : Nat), decide (0 ≤ firstI [c] 0 i l) = l.contains c
  | [], _ => rfl
  | d :: t, i => by
    have ih := first_has c t (i + 1)
    rw [firstI, List.contains_cons, decide_eq_true (show (0 : Int) ≤ (i : Int) by omega), Bool.true_and]
    have hp : ([c] : Str).isPrefixOf (d :: t) = (c == d) := by simp [List.isPrefixOf]
    rw [hp]
    by_cases h : (c == d) = true
    · rw [if_pos h, h, Bool.true_or]
      simp
    · rw [if_neg h, ih]
      rw [Bool.not_eq_true] at h
      rw [h, Bool.false_or]
theorem first_bn : ∀ (l : Str) (i : Nat), decide (firstI [92, 10] 0 i l < 0) = !hasBN l
  | [], _ => rfl
  | c :: t, i => by
    have ih := first_bn t (i + 1)
    rw [firstI, hasBN, decide_eq_true (show (0 : Int) ≤ (i : Int) by omega), Bool.true_and]
    have hp := pre_bn c t
    rw [hp]
    by_cases h : (c == 92 && t.head? == some 10) = true
    · rw [if_pos h, h]
      simp
    · rw [if_neg h, ih]
      rw [Bool.not_eq_true] at h
      rw [h, Bool.false_or]
set_option maxRecDepth 100000 in
set_option maxHeartbeats 1000000 in
theorem specialR_fn (c : UInt8) (w : World) : Calls Tryz.prog 104 #[.int .u8 (c.toNat : Nat)] w fun e w' => e = .returned (.bool (special c)) ∧ Below w.heap.size w w' := by
  have hwc := whiteR_fn c w
  have hfc := fun u => first_fn [c] [34, 92, 123, 125, 36, 91, 93, 59] 0 (by simp) (by simp) (by simp) u
  have hcv := fun u => one_back c u
  obtain ⟨I, hI⟩ : ∃ I, I = firstI [c] 0 0 [34, 92, 123, 125, 36, 91, 93, 59] := ⟨_, rfl⟩
  obtain ⟨W, hW⟩ : ∃ W, W = white c := ⟨_, rfl⟩
  obtain ⟨S, hS⟩ : ∃ S, S = special c := ⟨_, rfl⟩
  have hS2 : S = (W || decide (0 ≤ I)) := by rw [hS, special, hW, hI, first_has]
  rw [← hW] at hwc
  rw [← hS]
  rw [← hI] at hfc
  have HC := hid hfc
  have HW := hid hwc
  have HS := hid hS2
  clear hfc hwc hS hS2 hW hI
  cases W with
  | true =>
    go_enter Tryz.func104, Tryz.ntmps104
    go_wp2_with fail
    (with_reducible refine HW.out.mono ?_); rintro e w1 ⟨rfl, hw⟩; subst w1
    go_wp2
    go_ret
    exact ⟨by rw [HS.out]; rfl, Below.refl _ _⟩
  | false =>
    go_enter Tryz.func104, Tryz.ntmps104
    go_wp2_with fail
    (with_reducible refine HW.out.mono ?_); rintro e w1 ⟨rfl, hw⟩; subst w1
    go_wp2_with fail
    (with_reducible refine (HC.out _).mono ?_); rintro e w1 ⟨rfl, hw⟩; subst w1
    go_wp2
    go_ret
    exact ⟨by rw [HS.out]; rfl, (Below.refl _ _).alloc (Nat.le_refl _) _⟩
set_option maxRecDepth 100000 in
set_option maxHeartbeats 2000000 in
theorem balancedR_fn (s : Str) (hs : s.length ≤ 1000000) (w : World) :
    Calls Tryz.prog 105 #[.string ⟨s.toArray⟩] w fun e w' => e = .returned (.bool (balanced s)) ∧ w' = w := by
  have hsz : (⟨s.toArray⟩ : ByteArray).size = s.length := Lib.size_mk _
  obtain ⟨B, hB⟩ : ∃ B, B = bal 0 s := ⟨_, rfl⟩
  obtain ⟨R, hR⟩ : ∃ R, R = balanced s := ⟨_, rfl⟩
  have hc := first_fn [92, 10] s 0 (by simp) (by omega) (by simp) w
  obtain ⟨I, hI⟩ : ∃ I, I = firstI [92, 10] 0 0 s := ⟨_, rfl⟩
  have hIH := first_bn s 0
  rw [← hI] at hc hIH
  have hR2 : R = (B && decide (I < 0)) := by rw [hR, hB, hIH]; rfl
  rw [← hR]
  have HC := hid hc
  have HB := hid hB
  have HR := hid hR2
  clear hc hB hR2 hR hI hIH
  go_enter Tryz.func105, Tryz.ntmps105
  go_wp2_with fail
  go_loopg [3, 4] s.length (fun k dv iv wr => ∃ (i d : Nat) (rest : Str), dv = .int .i64 (d : Nat) ∧ iv = .int .i64 (i : Nat) ∧ At s rest i ∧ B = bal d rest ∧ wr = w ∧ k = rest.length ∧ d ≤ i)
  case atStart => exact ⟨0, 0, s, rfl, rfl, At.start s, HB.out, rfl, rfl, Nat.le_refl _⟩
  case round =>
    obtain ⟨i, d, rest, rfl, rfl, ha, hb, hw, rfl, hd⟩ := hrel
    subst hw
    have HB2 := hid hb
    clear hb HB
    have hle : i ≤ s.length := by have := ha.len; omega
    cases rest with
    | nil =>
      have hge : s.length ≤ i := ha.nil_iff.1 rfl
      have HB3 : B = (d == 0) := by rw [HB2.out]; rfl
      have HB4 := hid HB3
      clear HB3 HB2
      by_cases h0 : d = 0
      · subst h0
        go_wp2_with fail
        (with_reducible refine HC.out.mono ?_); rintro e w1 ⟨rfl, hw⟩; subst w1
        go_wp2
        go_ret
        exact ⟨by rw [HR.out, HB4.out]; rfl, rfl⟩
      · have hne : ((d : Int) == 0) = false := by rw [beq_eq_false_iff_ne]; omega
        go_wp2
        go_ret
        refine ⟨?_, rfl⟩
        rw [HR.out, HB4.out, show (d == 0) = false by simpa using h0]
        rfl
    | cons c t =>
      have hlt := ha.lt
      have hx := ha.byte
      have hlen := ha.len
      simp only [List.length_cons] at hlen
      by_cases h92 : c = 92
      · subst h92
        cases t with
        | nil =>
          have he : ((i : Int) + 1 == (s.length : Int)) = true := by rw [beq_iff_eq]; simp at hlen; omega
          go_wp2
          go_ret
          exact ⟨by rw [HR.out, HB2.out, bal_cons]; rfl, rfl⟩
        | cons e t =>
          simp only [List.length_cons] at hlen
          have he : ((i : Int) + 1 == (s.length : Int)) = false := by rw [beq_eq_false_iff_ne]; omega
          go_wp2
          go_roundg t.length
          case measure => simp; omega
          case rel => exact ⟨i + 2, d, t, rfl, by rw [Value.int.injEq]; exact ⟨rfl, by omega⟩, ha.tail.tail, by rw [HB2.out, bal_cons]; rfl, rfl, rfl, by omega⟩
      · have n92 := byte_ne 92 h92 rfl
        by_cases h123 : c = 123
        · subst h123
          go_wp2
          go_roundg t.length
          case measure => simp
          case rel => exact ⟨i + 1, d + 1, t, by go_num, by go_num, ha.tail, by rw [HB2.out, bal_cons]; rfl, rfl, rfl, by omega⟩
        · have n123 := byte_ne 123 h123 rfl
          by_cases h125 : c = 125
          · subst h125
            cases d with
            | zero =>
              go_wp2
              go_ret
              exact ⟨by rw [HR.out, HB2.out, bal_cons]; rfl, rfl⟩
            | succ d =>
              have hnn : ¬ (((d + 1 : Nat) : Int) - 1 < 0) := by omega
              go_wp2
              go_roundg t.length
              case measure => simp
              case rel => exact ⟨i + 1, d, t, by rw [Value.int.injEq]; exact ⟨rfl, by omega⟩, by go_num, ha.tail, by rw [HB2.out, bal_cons]; rfl, rfl, rfl, by omega⟩
          · have n125 := byte_ne 125 h125 rfl
            go_wp2
            go_roundg t.length
            case measure => simp
            case rel => exact ⟨i + 1, d, t, rfl, by go_num, ha.tail, by rw [HB2.out, bal_cons, if_neg (by simpa using h92), if_neg (by simpa using h123), if_neg (by simpa using h125)], rfl, rfl, by omega⟩
set_option maxRecDepth 100000 in
set_option maxHeartbeats 4000000 in
theorem slashed_fn (s : Str) (hs : s.length ≤ 1000000) (w : World) :
    Calls Tryz.prog 106 #[.string ⟨s.toArray⟩] w fun e w' => e = .returned (.string ⟨(slash true s).toArray⟩) ∧ Below w.heap.size w w' := by
  have hsz : (⟨s.toArray⟩ : ByteArray).size = s.length := Lib.size_mk _
  obtain ⟨J, hJ⟩ : ∃ J, J = slash true s := ⟨_, rfl⟩
  rw [← hJ]
  have HJ := hid hJ
  clear hJ
  go_enter Tryz.func106, Tryz.ntmps106
  go_wp2_with fail
  go_loopg [3, 7] s.length (fun k sv jv wr => ∃ (j : Nat) (done rest : Str), sv = .string ⟨done.toArray⟩ ∧ jv = .int .i64 (j : Nat) ∧ At s rest j ∧ J = done ++ slash (j == 0) rest ∧ Below w.heap.size w wr ∧ k = rest.length ∧ done.length + 2 * rest.length ≤ 2 * s.length)
  case atStart => exact ⟨0, [], s, rfl, rfl, At.start s, by rw [HJ.out]; rfl, Below.refl _ _, rfl, by simp⟩
  case round =>
    obtain ⟨j, done, rest, rfl, rfl, ha, hj, hbl, rfl, hl⟩ := hrel
    have hds : (⟨done.toArray⟩ : ByteArray).size = done.length := Lib.size_mk _
    have HD := hid hj
    clear hj
    have hle : j ≤ s.length := by have := ha.len; omega
    have hsw := hbl.size
    cases rest with
    | nil =>
      have hge : s.length ≤ j := ha.nil_iff.1 rfl
      go_wp2
      go_ret
      exact ⟨by rw [HD.out]; simp [slash], hbl⟩
    | cons c t =>
      have hlt := ha.lt
      have hx := ha.byte
      have hlen := ha.len
      have hex : (⟨s.toArray⟩ : ByteArray).extract j (j + 1) = ⟨[c].toArray⟩ := At.text (x := [c]) ha
      simp only [List.length_cons] at hlen hl
      by_cases h13 : c.toNat ≤ 13 ∧ 9 ≤ c.toNat
      · have hw : white c = true := by rw [white_nat]; simp; omega
        have hsp : special c = true := by rw [special, hw]; rfl
        rcases special_split hsp with rfl | rfl | rfl | rfl | rfl | h14
        · have hk : (⟨#[116, 110, 118, 102, 114]⟩ : ByteArray).extract 0 1 = ⟨#[116]⟩ := by decide
          have k1 : IntKind.u8.wrap 0 = 0 := rfl
          have k2 : IntKind.u8.wrap 1 = 1 := rfl
          go_wp2
          go_quiet (fail)
          go_wp2
          go_roundg t.length
          case measure => simp
          case rel => exact ⟨j + 1, done ++ [92, 116], t, by rw [Value.string.injEq, ByteArray.ext_iff]; simp, by go_num, ha.tail, by rw [HD.out, slash_yes t (.inl hsp)]; simp [slash1], below_drewN hbl _, rfl, by simp; omega⟩
        · have hk : (⟨#[116, 110, 118, 102, 114]⟩ : ByteArray).extract 1 2 = ⟨#[110]⟩ := by decide
          have k1 : IntKind.u8.wrap 1 = 1 := rfl
          have k2 : IntKind.u8.wrap 2 = 2 := rfl
          go_wp2
          go_quiet (fail)
          go_wp2
          go_roundg t.length
          case measure => simp
          case rel => exact ⟨j + 1, done ++ [92, 110], t, by rw [Value.string.injEq, ByteArray.ext_iff]; simp, by go_num, ha.tail, by rw [HD.out, slash_yes t (.inl hsp)]; simp [slash1], below_drewN hbl _, rfl, by simp; omega⟩
        · have hk : (⟨#[116, 110, 118, 102, 114]⟩ : ByteArray).extract 2 3 = ⟨#[118]⟩ := by decide
          have k1 : IntKind.u8.wrap 2 = 2 := rfl
          have k2 : IntKind.u8.wrap 3 = 3 := rfl
          go_wp2
          go_quiet (fail)
          go_wp2
          go_roundg t.length
          case measure => simp
          case rel => exact ⟨j + 1, done ++ [92, 118], t, by rw [Value.string.injEq, ByteArray.ext_iff]; simp, by go_num, ha.tail, by rw [HD.out, slash_yes t (.inl hsp)]; simp [slash1], below_drewN hbl _, rfl, by simp; omega⟩
        · have hk : (⟨#[116, 110, 118, 102, 114]⟩ : ByteArray).extract 3 4 = ⟨#[102]⟩ := by decide
          have k1 : IntKind.u8.wrap 3 = 3 := rfl
          have k2 : IntKind.u8.wrap 4 = 4 := rfl
          go_wp2
          go_quiet (fail)
          go_wp2
          go_roundg t.length
          case measure => simp
          case rel => exact ⟨j + 1, done ++ [92, 102], t, by rw [Value.string.injEq, ByteArray.ext_iff]; simp, by go_num, ha.tail, by rw [HD.out, slash_yes t (.inl hsp)]; simp [slash1], below_drewN hbl _, rfl, by simp; omega⟩
        · have hk : (⟨#[116, 110, 118, 102, 114]⟩ : ByteArray).extract 4 5 = ⟨#[114]⟩ := by decide
          have k1 : IntKind.u8.wrap 4 = 4 := rfl
          have k2 : IntKind.u8.wrap 5 = 5 := rfl
          go_wp2
          go_quiet (fail)
          go_wp2
          go_roundg t.length
          case measure => simp
          case rel => exact ⟨j + 1, done ++ [92, 114], t, by rw [Value.string.injEq, ByteArray.ext_iff]; simp, by go_num, ha.tail, by rw [HD.out, slash_yes t (.inl hsp)]; simp [slash1], below_drewN hbl _, rfl, by simp; omega⟩
        · omega
      · have hn : ¬ ((9 : Int) ≤ (c.toNat : Int) ∧ (c.toNat : Int) ≤ 13) := by omega
        have hsp := specialR_fn c wr
        obtain ⟨S, hS⟩ : ∃ S, special c = S := ⟨_, rfl⟩
        rw [hS] at hsp
        have HQ := hid hS
        have HS := hid hsp
        clear hS hsp
        have hr : ∀ (h : special c = true ∨ ((j == 0) = true ∧ c = 35)), slash1 c = c := by
          rintro (h | ⟨_, rfl⟩)
          · rcases special_split h with rfl | rfl | rfl | rfl | rfl | h14
            · exact absurd ⟨by decide, by decide⟩ h13
            · exact absurd ⟨by decide, by decide⟩ h13
            · exact absurd ⟨by decide, by decide⟩ h13
            · exact absurd ⟨by decide, by decide⟩ h13
            · exact absurd ⟨by decide, by decide⟩ h13
            · exact slash1_same h14
          · rfl
        have HR := hid hr
        clear hr
        have h2 : ((9 : Int) ≤ (c.toNat : Int) ∧ ¬ (c.toNat : Int) ≤ 13) ∨ ¬ (9 : Int) ≤ (c.toNat : Int) := by omega
        clear hn
        cases S with
        | true =>
          rcases h2 with ⟨h9, h13'⟩ | h9
          · go_wp2_with fail
            (with_reducible refine HS.out.mono ?_); rintro e w1 ⟨rfl, hb1⟩
            go_wp2
            go_roundg t.length
            case measure => simp
            case rel => exact ⟨j + 1, done ++ [92, c], t, by rw [Value.string.injEq, ByteArray.ext_iff]; simp, by go_num, ha.tail, by rw [HD.out, slash_yes (b := (j == 0)) t (.inl HQ.out), HR.out (.inl HQ.out)]; simp, hbl.trans (hb1.mono hsw), rfl, by simp; omega⟩
          · go_wp2_with fail
            (with_reducible refine HS.out.mono ?_); rintro e w1 ⟨rfl, hb1⟩
            go_wp2
            go_roundg t.length
            case measure => simp
            case rel => exact ⟨j + 1, done ++ [92, c], t, by rw [Value.string.injEq, ByteArray.ext_iff]; simp, by go_num, ha.tail, by rw [HD.out, slash_yes (b := (j == 0)) t (.inl HQ.out), HR.out (.inl HQ.out)]; simp, hbl.trans (hb1.mono hsw), rfl, by simp; omega⟩
        | false =>
          rcases h2 with ⟨h9, h13'⟩ | h9
          · by_cases h0 : j = 0
            · subst h0
              by_cases h35 : c = 35
              · subst h35
                replace HS := hid (show Calls Tryz.prog 104 #[.int .u8 35] wr _ from HS.out)
                go_wp2_with fail
                (with_reducible refine HS.out.mono ?_); rintro e w1 ⟨rfl, hb1⟩
                go_wp2
                go_roundg t.length
                case measure => simp
                case rel => exact ⟨0 + 1, done ++ [92, 35], t, by rw [Value.string.injEq, ByteArray.ext_iff]; simp, by go_num, ha.tail, by rw [HD.out, slash_yes (b := ((0 : Nat) == 0)) t (.inr ⟨rfl, rfl⟩), show slash1 35 = 35 from rfl]; simp, hbl.trans (hb1.mono hsw), rfl, by simp; omega⟩
              · have n35 := byte_ne 35 h35 rfl
                go_wp2_with fail
                (with_reducible refine HS.out.mono ?_); rintro e w1 ⟨rfl, hb1⟩
                go_wp2
                go_roundg t.length
                case measure => simp
                case rel => exact ⟨0 + 1, done ++ [c], t, by rw [Value.string.injEq, ByteArray.ext_iff]; simp, by go_num, ha.tail, by rw [HD.out, slash_no t HQ.out (fun _ => h35)]; simp, hbl.trans (hb1.mono hsw), rfl, by simp; omega⟩
            · have hj0 : ((j : Int) == 0) = false := by rw [beq_eq_false_iff_ne]; omega
              go_wp2_with fail
              (with_reducible refine HS.out.mono ?_); rintro e w1 ⟨rfl, hb1⟩
              go_wp2
              go_roundg t.length
              case measure => simp
              case rel => exact ⟨j + 1, done ++ [c], t, by rw [Value.string.injEq, ByteArray.ext_iff]; simp, by go_num, ha.tail, by rw [HD.out, slash_no t HQ.out (fun h => absurd (by simpa using h) h0)]; simp, hbl.trans (hb1.mono hsw), rfl, by simp; omega⟩
          · by_cases h0 : j = 0
            · subst h0
              by_cases h35 : c = 35
              · subst h35
                exact absurd (show (9 : Int) ≤ ((35 : UInt8).toNat : Int) by decide) h9
              · have n35 := byte_ne 35 h35 rfl
                go_wp2_with fail
                (with_reducible refine HS.out.mono ?_); rintro e w1 ⟨rfl, hb1⟩
                go_wp2
                go_roundg t.length
                case measure => simp
                case rel => exact ⟨0 + 1, done ++ [c], t, by rw [Value.string.injEq, ByteArray.ext_iff]; simp, by go_num, ha.tail, by rw [HD.out, slash_no t HQ.out (fun _ => h35)]; simp, hbl.trans (hb1.mono hsw), rfl, by simp; omega⟩
            · have hj0 : ((j : Int) == 0) = false := by rw [beq_eq_false_iff_ne]; omega
              go_wp2_with fail
              (with_reducible refine HS.out.mono ?_); rintro e w1 ⟨rfl, hb1⟩
              go_wp2
              go_roundg t.length
              case measure => simp
              case rel => exact ⟨j + 1, done ++ [c], t, by rw [Value.string.injEq, ByteArray.ext_iff]; simp, by go_num, ha.tail, by rw [HD.out, slash_no t HQ.out (fun h => absurd (by simpa using h) h0)]; simp, hbl.trans (hb1.mono hsw), rfl, by simp; omega⟩
set_option maxRecDepth 100000 in
set_option maxHeartbeats 4000000 in
theorem quoteR_fn (s : Str) (hs : s.length ≤ 1000000) (w : World) :
    Calls Tryz.prog 80 #[.string ⟨s.toArray⟩] w fun e w' => e = .returned (.string ⟨(quote s).toArray⟩) ∧ Below w.heap.size w w' := by
  cases s with
  | nil =>
    go_enter Tryz.func80, Tryz.ntmps80
    go_wp2
    go_ret
    exact ⟨rfl, Below.refl _ _⟩
  | cons c0 t0 =>
  have hsz : (⟨(c0 :: t0).toArray⟩ : ByteArray).size = (c0 :: t0).length := Lib.size_mk _
  have hx0 : ∀ h, (⟨(c0 :: t0).toArray⟩ : ByteArray)[0]'h = c0 := fun h => rfl
  have hemp : (c0 :: t0).isEmpty = false := rfl
  have hpos : 0 < (c0 :: t0).length := by simp
  have hst : At (c0 :: t0) (c0 :: t0) 0 := At.start _
  have hp2 : plainW (c0 :: t0) = (((c0.toNat : Int) != 35) && (c0 :: t0).all fun c => !special c) := by
    rw [show ((c0.toNat : Int) != 35) = (c0 != 35) by
      by_cases h : c0 = 35
      · subst h; rfl
      · rw [byte_ne' 35 h rfl]; exact (show (c0 != 35) = true by simpa using h).symm]
    rfl
  have hq : quote (c0 :: t0) = if plainW (c0 :: t0) = true then c0 :: t0 else if balanced (c0 :: t0) = true then 123 :: (c0 :: t0 ++ [125]) else slash true (c0 :: t0) := by
    unfold quote
    rw [if_neg (by simp)]
  generalize c0 :: t0 = s at *
  obtain ⟨R, hR⟩ : ∃ R, R = quote s := ⟨_, rfl⟩
  rw [← hR] at hq ⊢
  have hcat := cat3 s
  have HP := hid hp2
  have HQ := hid hq
  have HJ := hid hcat
  clear hp2 hq hR hcat
  go_enter Tryz.func80, Tryz.ntmps80
  go_wp2_with fail
  go_loopg [3, 12] s.length (fun k bv iv wr => ∃ (i : Nat) (b : Bool) (rest : Str), bv = .bool b ∧ iv = .int .i64 (i : Nat) ∧ At s rest i ∧ plainW s = (b && rest.all fun c => !special c) ∧ Below w.heap.size w wr ∧ k = rest.length)
  case atStart => exact ⟨0, ((c0.toNat : Int) != 35), s, rfl, rfl, hst, HP.out, Below.refl _ _, rfl⟩
  case round =>
    obtain ⟨i, b, rest, rfl, rfl, ha, hb, hbl, rfl⟩ := hrel
    have HB2 := hid hb
    clear hb HP hx0
    have hsw := hbl.size
    have hle : i ≤ s.length := by have := ha.len; omega
    cases rest with
    | nil =>
      have hge : s.length ≤ i := ha.nil_iff.1 rfl
      cases b with
      | true =>
        have hR2 : R = s := by rw [HQ.out, if_pos (show plainW s = true from HB2.out)]
        have HR := hid hR2
        clear hR2
        go_wp2
        go_ret
        rw [HR.out]
        exact ⟨rfl, hbl⟩
      | false =>
        have hbc := balancedR_fn s hs wr
        have hn : ¬ plainW s = true := by rw [HB2.out]; simp
        cases hbal : balanced s with
        | true =>
          rw [hbal] at hbc
          have hR2 : R = 123 :: (s ++ [125]) := by rw [HQ.out, if_neg hn, if_pos hbal]
          have HC := hid hbc
          have HR := hid hR2
          clear hR2 hbc hn hbal
          go_wp2_with fail
          (with_reducible refine HC.out.mono ?_); rintro e w1 ⟨rfl, hw⟩; subst w1
          go_wp2
          go_ret
          rw [HR.out]
          exact ⟨rfl, hbl⟩
        | false =>
          rw [hbal] at hbc
          have hR2 : R = slash true s := by rw [HQ.out, if_neg hn, if_neg (by rw [hbal]; simp)]
          have hsl := slashed_fn s hs wr
          rw [← hR2] at hsl
          have HC := hid hbc
          have HS := hid hsl
          clear hR2 hbc hn hbal hsl
          go_wp2_with fail
          (with_reducible refine HC.out.mono ?_); rintro e w1 ⟨rfl, hw⟩; subst w1
          go_wp2_with fail
          (with_reducible refine HS.out.mono ?_); rintro e w1 ⟨rfl, hb1⟩
          go_wp2
          go_ret
          exact ⟨rfl, hbl.trans (hb1.mono hsw)⟩
    | cons c t =>
      have hlt := ha.lt
      have hx := ha.byte
      have hlen := ha.len
      cases b with
      | false =>
        have hq : plainW s = (false && t.all fun c => !special c) := by rw [HB2.out]; rfl
        have HQ2 := hid hq
        clear hq HB2
        go_wp2
        go_roundg t.length
        case measure => simp
        case rel => exact ⟨i + 1, false, t, rfl, by go_num, ha.tail, HQ2.out, hbl, rfl⟩
      | true =>
        have hsp := specialR_fn c wr
        have hq := HB2.out
        rw [List.all_cons, Bool.true_and] at hq
        obtain ⟨S, hS⟩ : ∃ S, S = special c := ⟨_, rfl⟩
        rw [← hS] at hsp hq
        have HS := hid hsp
        have HQ2 := hid hq
        clear hS hsp hq HB2
        go_wp2_with fail
        (with_reducible refine HS.out.mono ?_); rintro e w1 ⟨rfl, hb1⟩
        go_wp2
        go_roundg t.length
        case measure => simp
        case rel => exact ⟨i + 1, !S, t, rfl, by go_num, ha.tail, HQ2.out, hbl.trans (hb1.mono hsw), rfl⟩
end Go.Proofs.YtkgpmkkodpjdfaaGreatDoor.Pz
