/-
  Part K6 of the proofs of this seat: contracts of functions and plain facts, merged from 8 texts.
-/
import Derived.Shelf.Strings.Prefix
import Derived.Ground.Names2Prog
import Derived.Shelf.LaysM
import Derived.Test.YtheiageokcgbhaaGreatDoorProg
import Derived.Test.YtheiageokcgbhaaGreatDoorK0
import Derived.Test.YtheiageokcgbhaaGreatDoorK1
import Derived.Test.YtheiageokcgbhaaGreatDoorK2
import Derived.Test.YtheiageokcgbhaaGreatDoorK3
import Derived.Test.YtheiageokcgbhaaGreatDoorK4
import Derived.Test.YtheiageokcgbhaaGreatDoorK5
/-
  Contracts of the library, laid at this program by the kit's shelf tools.
-/
namespace Go.Proofs.YtheiageokcgbhaaGreatDoor.Pz
open Go.Shelf
def Tryz.lays206_ren : Go.Shelf.Ren := ⟨fun | 206 => 167 | n => n, fun | 9 => 9 | 4 => 4 | 3 => 3 | n => n, fun | n => n⟩
theorem Tryz.lays206 : Go.Proofs.Lays.n206 Tryz.prog Tryz.lays206_ren := {
  mixed := by kernel_rfl
  f206 := Tryz.func167.trans (congrArg some (by kernel_rfl))
  t3 := Tryz.underlying3
  a3 := Tryz.isAgg3
  z3 := Tryz.sizeOf3
  v3 := Tryz.zeroValue3
  t4 := Tryz.underlying4
  a4 := Tryz.isAgg4
  z4 := Tryz.sizeOf4
  v4 := Tryz.zeroValue4
  t9 := Tryz.underlying9
  a9 := Tryz.isAgg9
  z9 := Tryz.sizeOf9
  v9 := Tryz.zeroValue9 }
open Go.RowKit Go.Lib in
theorem Tryz.stringslite_HasPrefix (s p : ByteArray) (w : World) :
    Calls Tryz.prog 167 #[.string s, .string p] w fun e w' => e = .returned (.bool (Lib.hasPrefix s.data.toList p.data.toList)) ∧ w' = w := Any.stringslite_HasPrefix Tryz.lays206 s p w
end Go.Proofs.YtheiageokcgbhaaGreatDoor.Pz
/-
  Places of a list: what they are (plain).
-/
namespace Go.Proofs.YtheiageokcgbhaaGreatDoor.Pz
open Go.RowKit
def dec (c : UInt8) : Bool := 48 ≤ c && c ≤ 57
def numV : Nat → Str → Option Nat
  | v, [] => some v
  | v, c :: t => if dec c then numV (10 * v + (c.toNat - 48)) t else none
/-- the number that one to nine digits are -/
def numE (s : Str) : Option Nat := if s.length = 0 ∨ 9 < s.length then none else numV 0 s
/-- what a sign and a number behind a place make of it -/
def tailE (sum : Int) : Str → Option Int
  | [] => some sum
  | c :: t =>
    match numE t with
    | none => none
    | some k => if c = 43 then some (sum + (k : Int)) else if c = 45 then some (sum - (k : Int)) else none
/-- how many digits a text begins with -/
def digN : Str → Nat
  | [] => 0
  | c :: t => if dec c then digN t + 1 else 0
def tEnd : Str := [101, 110, 100]
/-- the index that a place is for a length -/
def placeE (w : Str) (n : Int) : Option Int :=
  if tEnd.isPrefixOf w then tailE (n - 1) (w.drop 3)
  else
    match numE ((Lib.trimPrefix w [45]).take (digN (Lib.trimPrefix w [45]))) with
    | none => none
    | some f => tailE (if Lib.trimPrefix w [45] = w then (f : Int) else -(f : Int)) ((Lib.trimPrefix w [45]).drop (digN (Lib.trimPrefix w [45])))
theorem digN_le : ∀ s : Str, digN s ≤ s.length
  | [] => Nat.le_refl _
  | c :: t => by
    have := digN_le t
    rw [digN, List.length_cons]
    split <;> omega
theorem numV_le : ∀ (s : Str) (v m : Nat), numV v s = some m → ∀ b, v < b → m < b * 10 ^ s.length
  | [], v, m, h, b, hb => by
    rw [numV] at h
    have := Option.some.inj h
    simp
    omega
  | c :: t, v, m, h, b, hb => by
    rw [numV] at h
    split at h
    · rename_i hc
      have hd : c.toNat ≤ 57 := by
        rw [dec, Bool.and_eq_true] at hc
        have := of_decide_eq_true hc.2
        exact UInt8.le_iff_toNat_le.1 this
      have h2 := numV_le t _ m h (10 * b) (by omega)
      rw [List.length_cons, Nat.pow_succ]
      calc m < 10 * b * 10 ^ t.length := h2
        _ = b * (10 ^ t.length * 10) := by rw [Nat.mul_comm 10 b, Nat.mul_assoc, Nat.mul_comm 10]
    · cases h
theorem numE_le {s : Str} {m : Nat} (h : numE s = some m) : m ≤ 999999999 := by
  rw [numE] at h
  split at h
  · cases h
  · have := numV_le s 0 m h 1 (by omega)
    have h2 : 10 ^ s.length ≤ 10 ^ 9 := Nat.pow_le_pow_right (by omega) (by omega)
    omega
end Go.Proofs.YtheiageokcgbhaaGreatDoor.Pz
/-
  text.Place of the program.
-/
namespace Go.Proofs.YtheiageokcgbhaaGreatDoor.Pz
open Go.RowKit
theorem dec_nat (c : UInt8) : dec c = (decide (48 ≤ c.toNat) && decide (c.toNat ≤ 57)) := by
  rw [dec]
  congr 1
set_option maxRecDepth 100000 in
theorem decB_fn (c : UInt8) (w : World) : Calls Tryz.prog 126 #[.int .u8 c.toNat] w fun e w' => e = .returned (.bool (dec c)) ∧ w' = w := by
  rw [dec_nat]
  generalize c.toNat = x
  by_cases h1 : 48 ≤ x
  · have g1 : (x : Int) ≥ 48 := by omega
    by_cases h2 : x ≤ 57
    · have g2 : (x : Int) ≤ 57 := by omega
      go_enter Tryz.func126, Tryz.ntmps126
      go_wp2
      go_ret
      exact ⟨by simp [h1, h2], rfl⟩
    · have g2 : ¬ (x : Int) ≤ 57 := by omega
      go_enter Tryz.func126, Tryz.ntmps126
      go_wp2
      go_ret
      exact ⟨by simp, rfl⟩
  · have g1 : ¬ (x : Int) ≥ 48 := by omega
    go_enter Tryz.func126, Tryz.ntmps126
    go_wp2
    go_ret
    exact ⟨by simp, rfl⟩
def numAns : Option Nat → Value
  | none => .tuple #[.int .i64 0, .bool false]
  | some m => .tuple #[.int .i64 (m : Nat), .bool true]
set_option maxRecDepth 100000 in
set_option maxHeartbeats 1000000 in
theorem number_fn (s : Str) (hs : s.length ≤ 1000000) (w : World) : Calls Tryz.prog 127 #[.string ⟨s.toArray⟩] w fun e w' => e = .returned (numAns (numE s)) ∧ w' = w := by
  have hsz : (⟨s.toArray⟩ : ByteArray).size = s.length := Lib.size_mk _
  obtain ⟨R, hR⟩ : ∃ R, R = numE s := ⟨_, rfl⟩
  rw [← hR]
  rw [numE] at hR
  obtain ⟨V, hV⟩ : ∃ V, V = numV 0 s := ⟨_, rfl⟩
  rw [← hV] at hR
  have HR := hid hR
  have HV := hid hV
  clear hR hV
  go_enter Tryz.func127, Tryz.ntmps127
  go_wp2_with fail
  go_loopg [4, 8] s.length (fun k nv iv wr => ∃ (i v : Nat) (rest : Str), nv = .int .i64 (v : Nat) ∧ iv = .int .i64 (i : Nat) ∧ At s rest i ∧ V = numV v rest ∧ i ≤ 9 ∧ v < 10 ^ i ∧ wr = w ∧ k = rest.length)
  case atStart => exact ⟨0, 0, s, rfl, rfl, At.start s, HV.out, by omega, by simp, rfl, rfl⟩
  case round =>
    obtain ⟨i, v, rest, rfl, rfl, ha, hv, hi9, hvb, hw, rfl⟩ := hrel
    replace hw := hw.symm
    subst hw
    have hpow : 10 ^ i ≤ 10 ^ 9 := Nat.pow_le_pow_right (by omega) hi9
    have hvc : v < 1000000000 := by omega
    have hle : i ≤ s.length := by have := ha.len; omega
    cases rest with
    | nil =>
      have hge : s.length ≤ i := ha.nil_iff.1 rfl
      rw [numV] at hv
      by_cases h0 : s = []
      · subst h0
        have hRN : R = none := by rw [HR.out, if_pos (.inl rfl)]
        have hi0 : i = 0 := by simpa using hle
        subst hi0
        have hv0 : v = 0 := by simpa using hvb
        subst hv0
        subst hRN
        clear hv HV HR hsz
        have hsz : (⟨([] : Str).toArray⟩ : ByteArray).size = 0 := rfl
        go_wp2
        go_ret2
        exact ⟨rfl, rfl⟩
      · have hne : s.length ≠ 0 := fun h => h0 (List.eq_nil_of_length_eq_zero h)
        have hRS : R = some v := by rw [HR.out, if_neg (by omega), hv]
        have hemp : s.isEmpty = false := by simpa using h0
        subst hRS
        clear hv HV HR
        go_wp2
        go_ret2
        exact ⟨rfl, rfl⟩
    | cons c t =>
      have hlt := ha.lt
      have hx := ha.byte
      have hdc := hid (decB_fn c w)
      have ha2 := hid ha.tail
      rw [numV] at hv
      cases hd : dec c with
      | false =>
        rw [hd] at hdc hv
        have hRN : R = none := by rw [HR.out, hv]; simp
        subst hRN
        clear hv HV HR ha
        go_wp2_with fail
        (with_reducible refine hdc.out.mono ?_); rintro e w1 ⟨rfl, hw⟩; subst w1
        go_wp2
        go_ret2
        exact ⟨rfl, rfl⟩
      | true =>
        rw [hd] at hdc hv
        rw [if_pos rfl] at hv
        rw [dec_nat, Bool.and_eq_true] at hd
        have hd1 := of_decide_eq_true hd.1
        have hd2 := of_decide_eq_true hd.2
        have hu : IntKind.u8.wrap ((c.toNat : Int) - 48) = ((c.toNat - 48 : Nat) : Int) := by rw [← u8_wrap (c.toNat - 48) (by omega)]; congr 1; omega
        have HV2 := hid hv
        clear hv hd
        by_cases h9 : i = 9
        · subst h9
          have hlen := ha.len
          simp only [List.length_cons] at hlen
          have hRN : R = none := by rw [HR.out, if_pos (.inr (by omega))]
          subst hRN
          clear HV HR ha
          go_wp2_with fail
          (with_reducible refine hdc.out.mono ?_); rintro e w1 ⟨rfl, hw⟩; subst w1
          go_wp2
          go_ret2
          exact ⟨rfl, rfl⟩
        · have hi8 : ¬ ((i : Int) ≥ 9) := by omega
          have hnx : 10 * v + (c.toNat - 48) < 10 ^ (i + 1) := by rw [Nat.pow_succ]; omega
          obtain ⟨d, hdd⟩ : ∃ d, d = c.toNat - 48 := ⟨_, rfl⟩
          rw [← hdd] at hu hnx HV2
          have hd9 : d ≤ 9 := by omega
          clear ha hdd
          go_wp2_with fail
          (with_reducible refine hdc.out.mono ?_); rintro e w1 ⟨rfl, hw⟩; subst w1
          go_wp2
          go_roundg t.length
          case measure => simp
          case rel => exact ⟨i + 1, 10 * v + d, t, by go_num, by go_num, ha2.out, HV2.out, by omega, hnx, rfl, rfl⟩
set_option maxRecDepth 100000 in
theorem cutEndL_fn (s : Str) (hs : s.length ≤ 1000000) (w : World) : Calls Tryz.prog 165 #[.string ⟨s.toArray⟩, .string ⟨#[101, 110, 100]⟩] w fun e w' => e = .returned (if tEnd.isPrefixOf s then .tuple #[.string ⟨(s.drop 3).toArray⟩, .bool true] else .tuple #[.string ⟨s.toArray⟩, .bool false]) ∧ w' = w := by
  have HP := hid (show Calls Tryz.prog 167 #[.string ⟨s.toArray⟩, .string ⟨#[101, 110, 100]⟩] w fun e w' => e = .returned (.bool (tEnd.isPrefixOf s)) ∧ w' = w from Tryz.stringslite_HasPrefix ⟨s.toArray⟩ ⟨#[101, 110, 100]⟩ w)
  have hsz : (⟨s.toArray⟩ : ByteArray).size = s.length := Lib.size_mk _
  cases hp : tEnd.isPrefixOf s with
  | false =>
    rw [hp] at HP
    clear hp
    go_enter Tryz.func165, Tryz.ntmps165
    go_wp2_with fail
    (with_reducible refine HP.out.mono ?_); rintro e w1 ⟨rfl, hw⟩; subst w1
    go_wp2
    go_ret2
    exact ⟨rfl, rfl⟩
  | true =>
    rw [hp] at HP
    have h3 : 3 ≤ s.length := by
      have := (List.isPrefixOf_iff_prefix.1 hp).length_le
      exact this
    have hex : (⟨s.toArray⟩ : ByteArray).extract 3 s.length = ⟨(s.drop 3).toArray⟩ := by
      rw [Lib.extract_mk, List.take_of_length_le (by simp)]
    clear hp
    go_enter Tryz.func165, Tryz.ntmps165
    go_wp2_with fail
    (with_reducible refine HP.out.mono ?_); rintro e w1 ⟨rfl, hw⟩; subst w1
    go_wp2
    go_ret2
    exact ⟨by rw [← hex] <;> rfl, rfl⟩
set_option maxRecDepth 100000 in
theorem cutEnd_fn (s : Str) (hs : s.length ≤ 1000000) (w : World) : Calls Tryz.prog 125 #[.string ⟨s.toArray⟩, .string ⟨#[101, 110, 100]⟩] w fun e w' => e = .returned (if tEnd.isPrefixOf s then .tuple #[.string ⟨(s.drop 3).toArray⟩, .bool true] else .tuple #[.string ⟨s.toArray⟩, .bool false]) ∧ w' = w := by
  have HC := hid (cutEndL_fn s hs w)
  cases hp : tEnd.isPrefixOf s with
  | false =>
    rw [hp, if_neg (by simp)] at HC
    go_enter Tryz.func125, Tryz.ntmps125
    go_wp2_with fail
    (with_reducible refine HC.out.mono ?_); rintro e w1 ⟨rfl, hw⟩; subst w1
    go_wp2
    go_ret2
    exact ⟨rfl, rfl⟩
  | true =>
    rw [hp, if_pos rfl] at HC
    go_enter Tryz.func125, Tryz.ntmps125
    go_wp2_with fail
    (with_reducible refine HC.out.mono ?_); rintro e w1 ⟨rfl, hw⟩; subst w1
    go_wp2
    go_ret2
    exact ⟨rfl, rfl⟩
def plAns : Option Int → Value
  | none => .tuple #[.int .i64 0, .int .i64 2]
  | some m => .tuple #[.int .i64 m, .int .i64 0]
set_option maxRecDepth 100000 in
set_option maxHeartbeats 4000000 in
theorem place_fn (s : Str) (n : Nat) (hs : s.length ≤ 1000000) (hn : n ≤ 1000000) (w : World) : Calls Tryz.prog 78 #[.string ⟨s.toArray⟩, .int .i64 (n : Nat)] w fun e w' => e = .returned (plAns (placeE s (n : Nat))) ∧ w' = w := by
  have HC := hid (cutEnd_fn s hs w)
  have HN := hid (fun t (h : t.length ≤ 1000000) => number_fn t h w)
  obtain ⟨R, hR⟩ : ∃ R, R = placeE s (n : Nat) := ⟨_, rfl⟩
  rw [← hR]
  rw [placeE] at hR
  have hg0 : ¬ ((n : Int) < 0) := by omega
  cases hp : tEnd.isPrefixOf s with
  | true =>
    rw [hp, if_pos rfl] at HC hR
    obtain ⟨rest, hre⟩ : ∃ rest, rest = s.drop 3 := ⟨_, rfl⟩
    rw [← hre] at HC hR
    have hrl : rest.length ≤ 1000000 := by rw [hre, List.length_drop]; omega
    have HR2 := hid hR
    clear hR hre hp
    go_enter Tryz.func78, Tryz.ntmps78
    go_wp2_with fail
    (with_reducible refine HC.out.mono ?_); rintro e w1 ⟨rfl, hw⟩; subst w1
    cases hrs : rest with
    | nil =>
      have hsz0 : (⟨([] : Str).toArray⟩ : ByteArray).size = 0 := rfl
      have hRS : R = some ((n : Int) - 1) := by rw [HR2.out, hrs]; rfl
      subst hRS
      clear HR2 HN
      subst hrs
      go_wp2
      go_ret2
      exact ⟨rfl, rfl⟩
    | cons c t =>
      have hsz1 : (⟨(c :: t).toArray⟩ : ByteArray).size = t.length + 1 := Lib.size_mk _
      have htl := tail_ext c t
      have hx := (At.start (c :: t)).byte
      have hemp : (c :: t).isEmpty = false := rfl
      have hRT : R = tailE ((n : Int) - 1) (c :: t) := by rw [HR2.out, hrs]
      have hHN := HN.out t (by have := hrl; rw [hrs, List.length_cons] at this; omega)
      have hrl2 : t.length ≤ 1000000 := by have := hrl; rw [hrs, List.length_cons] at this; omega
      rw [tailE] at hRT
      clear HR2 HN hrl
      subst hrs
      cases hne : numE t with
      | none =>
        rw [hne] at hRT hHN
        have hRS : R = none := hRT
        subst hRS
        have HNN := hid hHN
        clear hRT hHN hne
        go_wp2_with fail
        (with_reducible refine HNN.out.mono ?_); rintro e w1 ⟨rfl, hw⟩; subst w1
        simp only [numAns]
        go_wp2
        go_ret2
        exact ⟨rfl, rfl⟩
      | some k =>
        rw [hne] at hRT hHN
        have hkb := numE_le hne
        have HNN := hid hHN
        clear hHN hne
        by_cases h43 : c = 43
        · subst h43
          have hRS : R = some ((n : Int) - 1 + (k : Int)) := hRT
          subst hRS
          clear hRT
          go_wp2_with fail
          (with_reducible refine HNN.out.mono ?_); rintro e w1 ⟨rfl, hw⟩; subst w1
          simp only [numAns]
          go_wp2
          go_ret2
          exact ⟨rfl, rfl⟩
        · have n43 := byte_ne 43 h43 rfl
          by_cases h45 : c = 45
          · subst h45
            have hRS : R = some ((n : Int) - 1 - (k : Int)) := hRT
            subst hRS
            clear hRT
            go_wp2_with fail
            (with_reducible refine HNN.out.mono ?_); rintro e w1 ⟨rfl, hw⟩; subst w1
            simp only [numAns]
            go_wp2
            go_ret2
            exact ⟨rfl, rfl⟩
          · have n45 := byte_ne 45 h45 rfl
            have hRS : R = none := by rw [hRT]; dsimp only; rw [if_neg h43, if_neg h45]
            subst hRS
            clear hRT
            go_wp2_with fail
            (with_reducible refine HNN.out.mono ?_); rintro e w1 ⟨rfl, hw⟩; subst w1
            simp only [numAns]
            go_wp2
            go_ret2
            exact ⟨rfl, rfl⟩
  | false =>
    rw [hp, if_neg (by simp)] at HC hR
    have HT := hid (show Calls Tryz.prog 100 #[.string ⟨s.toArray⟩, .string ⟨#[45]⟩] w fun e w' => e = .returned (.string ⟨(Lib.trimPrefix s [45]).toArray⟩) ∧ w' = w from Tryz.strings_TrimPrefix ⟨s.toArray⟩ ⟨#[45]⟩ w)
    have hdl : (Lib.trimPrefix s [45]).length ≤ s.length := by
      rw [Lib.trimPrefix]
      split
      · rw [List.length_drop]; omega
      · omega
    generalize Lib.trimPrefix s [45] = d at HT hR hdl
    have hszd : (⟨d.toArray⟩ : ByteArray).size = d.length := Lib.size_mk _
    have hszs : (⟨s.toArray⟩ : ByteArray).size = s.length := Lib.size_mk _
    obtain ⟨q, hq⟩ : ∃ q, q = digN d := ⟨_, rfl⟩
    have hql : q ≤ d.length := by rw [hq]; exact digN_le d
    rw [← hq] at hR
    have HR1 := hid hR
    have HQ := hid hq
    clear hR hq hp
    go_enter Tryz.func78, Tryz.ntmps78
    go_wp2_with fail
    (with_reducible refine HC.out.mono ?_); rintro e w1 ⟨rfl, hw⟩; subst w1
    go_wp2_with fail
    (with_reducible refine HT.out.mono ?_); rintro e w1 ⟨rfl, hw⟩; subst w1
    go_wp2_with fail
    go_loopg [10] d.length (fun m kv wr => ∃ (k : Nat) (rest : Str), kv = .int .i64 (k : Nat) ∧ At d rest k ∧ q = k + digN rest ∧ wr = w ∧ m = rest.length)
    case atStart => exact ⟨0, d, rfl, At.start d, by rw [HQ.out]; omega, rfl, rfl⟩
    case round =>
      obtain ⟨k, rest, rfl, ha, hk, hw, rfl⟩ := hrel
      replace hw := hw.symm
      subst hw
      have hend : (∃ c t, rest = c :: t ∧ dec c = true) ∨ (q = k ∧ (rest = [] ∨ ∃ c t, rest = c :: t ∧ dec c = false)) := by
        cases rest with
        | nil => exact .inr ⟨by rw [hk]; rfl, .inl rfl⟩
        | cons c t =>
          cases hd : dec c with
          | true => exact .inl ⟨c, t, rfl, hd⟩
          | false => exact .inr ⟨by rw [hk, digN, hd]; rfl, .inr ⟨c, t, rfl, hd⟩⟩
      rcases hend with ⟨c, t, rfl, hd⟩ | ⟨rfl, hend⟩
      · have hlt := ha.lt
        have hx := ha.byte
        have hdc := hid (decB_fn c w)
        have ha2 := hid ha.tail
        rw [hd] at hdc
        rw [digN, hd, if_pos rfl] at hk
        have HK := hid (show q = (k + 1) + digN t by omega)
        clear hk hd ha
        go_wp2_with fail
        (with_reducible refine hdc.out.mono ?_); rintro e w1 ⟨rfl, hw⟩; subst w1
        go_wp2
        go_roundg t.length
        case measure => simp
        case rel => exact ⟨k + 1, t, by go_num, ha2.out, HK.out, rfl, rfl⟩
      · have hre := ha.rest
        have hex1 : (⟨d.toArray⟩ : ByteArray).extract 0 q = ⟨(d.take q).toArray⟩ := by rw [Lib.extract_mk, List.drop_zero, Nat.sub_zero]
        have hex2 : (⟨d.toArray⟩ : ByteArray).extract q d.length = ⟨rest.toArray⟩ := ha.all
        have hrl : rest.length ≤ 1000000 := by have := ha.len; omega
        have hR := HR1.out
        rw [hre] at hR
        have hNF := HN.out (d.take q) (by rw [List.length_take]; omega)
        cases hnf : numE (d.take q) with
        | none =>
          rw [hnf] at hR hNF
          have hRS : R = none := hR
          subst hRS
          have HNF := hid hNF
          rcases hend with rfl | ⟨c, t, rfl, hd⟩
          · have hge : d.length ≤ q := ha.nil_iff.1 rfl
            clear hR hNF hnf HR1 ha hk hre hex2
            obtain rfl : q = d.length := by omega
            rw [List.take_length] at HNF
            go_wp2_with fail
            (with_reducible refine HNF.out.mono ?_); rintro e w1 ⟨rfl, hw⟩; subst w1
            simp only [numAns]
            go_wp2
            go_ret2
            exact ⟨rfl, rfl⟩
          · have hlt := ha.lt
            have hx := ha.byte
            have hdc := hid (decB_fn c w)
            rw [hd] at hdc
            clear hR hNF hnf HR1 ha hk hre hex2
            go_wp2_with fail
            (with_reducible refine hdc.out.mono ?_); rintro e w1 ⟨rfl, hw⟩; subst w1
            go_wp2_with fail
            (with_reducible refine HNF.out.mono ?_); rintro e w1 ⟨rfl, hw⟩; subst w1
            simp only [numAns]
            go_wp2
            go_ret2
            exact ⟨rfl, rfl⟩
        | some f =>
          rw [hnf] at hR hNF
          have hfb := numE_le hnf
          have HNF := hid hNF
          by_cases hds : d = s
          · have HR2 := hid (show R = tailE (f : Int) rest by rw [hR]; dsimp only; rw [if_pos hds])
            subst hds
            rcases hend with hr0 | ⟨c, t, hr0, hd⟩
            · have hge : d.length ≤ q := ha.nil_iff.1 hr0
              have hRS : R = some ((f : Int)) := by rw [HR2.out, hr0]; rfl
              subst hRS
              clear hR hNF hnf HR1 ha hk hre HR2 HN hex2
              obtain rfl : q = d.length := by omega
              rw [List.take_length] at HNF
              go_wp2_with fail
              (with_reducible refine HNF.out.mono ?_); rintro e w1 ⟨rfl, hw⟩; subst w1
              simp only [numAns]
              go_wp2
              go_ret2
              exact ⟨rfl, rfl⟩
            · subst hr0
              have hlt := ha.lt
              have hx0 := ha.byte
              have hdc := hid (decB_fn c w)
              rw [hd] at hdc
              clear hR hNF hnf HR1 ha hk hre
              go_wp2_with fail
              (with_reducible refine hdc.out.mono ?_); rintro e w1 ⟨rfl, hw⟩; subst w1
              have hx0' := hx0
              go_wp2_with fail
              (with_reducible refine HNF.out.mono ?_); rintro e w1 ⟨rfl, hw⟩; subst w1
              simp only [numAns]
              have hsz1 : (⟨(c :: t).toArray⟩ : ByteArray).size = t.length + 1 := Lib.size_mk _
              have htl := tail_ext c t
              have hx := (At.start (c :: t)).byte
              have hemp : (c :: t).isEmpty = false := rfl
              have hRT : R = tailE ((f : Int)) (c :: t) := HR2.out
              have hHN := HN.out t (by have := hrl; rw [List.length_cons] at this; omega)
              have hrl2 : t.length ≤ 1000000 := by have := hrl; rw [List.length_cons] at this; omega
              rw [tailE] at hRT
              clear HR2 HN hrl
              cases hne : numE t with
              | none =>
                rw [hne] at hRT hHN
                have hRS : R = none := hRT
                subst hRS
                have HNN := hid hHN
                clear hRT hHN hne
                go_wp2_with fail
                (with_reducible refine HNN.out.mono ?_); rintro e w1 ⟨rfl, hw⟩; subst w1
                simp only [numAns]
                go_wp2
                go_ret2
                exact ⟨rfl, rfl⟩
              | some k =>
                rw [hne] at hRT hHN
                have hkb := numE_le hne
                have HNN := hid hHN
                clear hHN hne
                by_cases h43 : c = 43
                · subst h43
                  have hRS : R = some ((f : Int) + (k : Int)) := hRT
                  subst hRS
                  clear hRT
                  go_wp2_with fail
                  (with_reducible refine HNN.out.mono ?_); rintro e w1 ⟨rfl, hw⟩; subst w1
                  simp only [numAns]
                  go_wp2
                  go_ret2
                  exact ⟨rfl, rfl⟩
                · have n43 := byte_ne 43 h43 rfl
                  by_cases h45 : c = 45
                  · subst h45
                    have hRS : R = some ((f : Int) - (k : Int)) := hRT
                    subst hRS
                    clear hRT
                    go_wp2_with fail
                    (with_reducible refine HNN.out.mono ?_); rintro e w1 ⟨rfl, hw⟩; subst w1
                    simp only [numAns]
                    go_wp2
                    go_ret2
                    exact ⟨rfl, rfl⟩
                  · have n45 := byte_ne 45 h45 rfl
                    have hRS : R = none := by rw [hRT]; dsimp only; rw [if_neg h43, if_neg h45]
                    subst hRS
                    clear hRT
                    go_wp2_with fail
                    (with_reducible refine HNN.out.mono ?_); rintro e w1 ⟨rfl, hw⟩; subst w1
                    simp only [numAns]
                    go_wp2
                    go_ret2
                    exact ⟨rfl, rfl⟩
          · have HR2 := hid (show R = tailE (-(f : Int)) rest by rw [hR]; dsimp only; rw [if_neg hds])
            have hdsb : (d == s) = false := by simpa using hds
            rcases hend with hr0 | ⟨c, t, hr0, hd⟩
            · have hge : d.length ≤ q := ha.nil_iff.1 hr0
              have hRS : R = some (-(f : Int)) := by rw [HR2.out, hr0]; rfl
              subst hRS
              clear hR hNF hnf HR1 ha hk hre HR2 HN hex2
              obtain rfl : q = d.length := by omega
              rw [List.take_length] at HNF
              go_wp2_with fail
              (with_reducible refine HNF.out.mono ?_); rintro e w1 ⟨rfl, hw⟩; subst w1
              simp only [numAns]
              go_wp2
              go_ret2
              exact ⟨rfl, rfl⟩
            · subst hr0
              have hlt := ha.lt
              have hx0 := ha.byte
              have hdc := hid (decB_fn c w)
              rw [hd] at hdc
              clear hR hNF hnf HR1 ha hk hre
              go_wp2_with fail
              (with_reducible refine hdc.out.mono ?_); rintro e w1 ⟨rfl, hw⟩; subst w1
              have hx0' := hx0
              go_wp2_with fail
              (with_reducible refine HNF.out.mono ?_); rintro e w1 ⟨rfl, hw⟩; subst w1
              simp only [numAns]
              have hsz1 : (⟨(c :: t).toArray⟩ : ByteArray).size = t.length + 1 := Lib.size_mk _
              have htl := tail_ext c t
              have hx := (At.start (c :: t)).byte
              have hemp : (c :: t).isEmpty = false := rfl
              have hRT : R = tailE (-(f : Int)) (c :: t) := HR2.out
              have hHN := HN.out t (by have := hrl; rw [List.length_cons] at this; omega)
              have hrl2 : t.length ≤ 1000000 := by have := hrl; rw [List.length_cons] at this; omega
              rw [tailE] at hRT
              clear HR2 HN hrl
              cases hne : numE t with
              | none =>
                rw [hne] at hRT hHN
                have hRS : R = none := hRT
                subst hRS
                have HNN := hid hHN
                clear hRT hHN hne
                go_wp2_with fail
                (with_reducible refine HNN.out.mono ?_); rintro e w1 ⟨rfl, hw⟩; subst w1
                simp only [numAns]
                go_wp2
                go_ret2
                exact ⟨rfl, rfl⟩
              | some k =>
                rw [hne] at hRT hHN
                have hkb := numE_le hne
                have HNN := hid hHN
                clear hHN hne
                by_cases h43 : c = 43
                · subst h43
                  have hRS : R = some (-(f : Int) + (k : Int)) := hRT
                  subst hRS
                  clear hRT
                  go_wp2_with fail
                  (with_reducible refine HNN.out.mono ?_); rintro e w1 ⟨rfl, hw⟩; subst w1
                  simp only [numAns]
                  go_wp2
                  go_ret2
                  exact ⟨rfl, rfl⟩
                · have n43 := byte_ne 43 h43 rfl
                  by_cases h45 : c = 45
                  · subst h45
                    have hRS : R = some (-(f : Int) - (k : Int)) := hRT
                    subst hRS
                    clear hRT
                    go_wp2_with fail
                    (with_reducible refine HNN.out.mono ?_); rintro e w1 ⟨rfl, hw⟩; subst w1
                    simp only [numAns]
                    go_wp2
                    go_ret2
                    exact ⟨rfl, rfl⟩
                  · have n45 := byte_ne 45 h45 rfl
                    have hRS : R = none := by rw [hRT]; dsimp only; rw [if_neg h43, if_neg h45]
                    subst hRS
                    clear hRT
                    go_wp2_with fail
                    (with_reducible refine HNN.out.mono ?_); rintro e w1 ⟨rfl, hw⟩; subst w1
                    simp only [numAns]
                    go_wp2
                    go_ret2
                    exact ⟨rfl, rfl⟩
end Go.Proofs.YtheiageokcgbhaaGreatDoor.Pz
/-
  list.Index of the program.
-/
namespace Go.Proofs.YtheiageokcgbhaaGreatDoor.Pz
open Go.RowKit
/-- the element at a path -/
def indexE (s : Str) : List Str → Str × Int
  | [] => (s, 0)
  | p :: ps =>
    if (splitE s).2.2 ≠ 0 then ([], (splitE s).2.2)
    else match placeE p ((splitE s).1.length : Nat) with
      | none => ([], 2)
      | some z => if 0 ≤ z ∧ z < ((splitE s).1.length : Nat) then indexE ((splitE s).1.getD z.toNat []) ps else indexE [] ps
theorem split_all2 (s : Str) (hs : s.length ≤ 1000000) : ∀ x ∈ (splitE s).1, x.length ≤ 1000000 := by
  intro x hx
  have h1 := sumL_mem _ x hx
  have h2 := (splitE_out s).2.2
  omega
set_option maxRecDepth 100000 in
set_option maxHeartbeats 4000000 in
theorem indexL_fn (s : Str) (path : List Str) (v : Value) (w : World) (hv : StrsAt w v path) (hs : s.length ≤ 1000000) (hp : ∀ x ∈ path, x.length ≤ 1000000) (hpl : path.length ≤ 1000000) :
    Calls Tryz.prog 37 #[.string ⟨s.toArray⟩, v] w fun e w' => e = .returned (.tuple #[.string ⟨(indexE s path).1.toArray⟩, .int .i64 (indexE s path).2]) ∧ Below w.heap.size w w' := by
  obtain ⟨a, cap, rfl, hcap, hcell⟩ := hv
  obtain ⟨n, hn⟩ : ∃ n, n = path.length := ⟨_, rfl⟩
  have HN := hid hn
  have HV := hid hcell
  have HPL := hid (fun i (h : i < path.length) => hp path[i] (List.getElem_mem h))
  have HDR := hid (fun i (h : i < path.length) => (show path.drop i = path[i] :: path.drop (i + 1) from List.drop_eq_getElem_cons h))
  obtain ⟨R, hR⟩ : ∃ R, R = indexE s path := ⟨_, rfl⟩
  rw [← hR]
  have HR := hid hR
  rw [← hn] at hcap hpl ⊢
  have HSP := hid (fun s (h : s.length ≤ 1000000) => split_fn s h)
  clear hR hcell hn hp
  obtain ⟨r1, r2⟩ := R
  dsimp only
  go_enter Tryz.func37, Tryz.ntmps37
  go_wp2_with fail
  go_loopg [0, 14] n (fun k sv iv wr => ∃ (i : Nat) (t : Str), sv = .string ⟨t.toArray⟩ ∧ iv = .int .i64 (i : Nat) ∧ i ≤ n ∧ (r1, r2) = indexE t (path.drop i) ∧ t.length ≤ 1000000 ∧ Below w.heap.size w wr ∧ k = n - i)
  case atStart => exact ⟨0, s, rfl, rfl, Nat.zero_le _, by rw [List.drop_zero]; exact HR.out, hs, Below.refl _ _, by simp⟩
  case round =>
    obtain ⟨i, t, rfl, rfl, hi, hR, htl, hbl, rfl⟩ := hrel
    have hsw := hbl.size
    rcases Nat.lt_or_ge i n with hlt | hge
    · have hlt' : i < path.length := by rw [← HN.out]; exact hlt
      obtain ⟨p, rfl, hbb, hcw⟩ := HV.out i hlt'
      have hcw1 : wr.cell? (p.add i) = some (.string ⟨path[i].toArray⟩) := by rw [hbl.cell (p := p.add i) (by rw [add_block]; exact hbb)]; exact hcw
      have hz0 : i = 0 → wr.cell? p = some (.string ⟨path[i].toArray⟩) := by
        intro h0
        subst h0
        exact hcw1
      rw [HDR.out i hlt', indexE] at hR
      have hxl := HPL.out i hlt'
      generalize path[i] = x at hcw1 hz0 hR hxl
      have HS := HSP.out t htl wr
      unfold SplitQ at HS
      have hall := split_all2 t htl
      have hlen := (splitE_out t).2.1
      generalize splitE t = E at HS hR hall hlen
      obtain ⟨l, at0, er⟩ := E
      dsimp only at HS hR hall hlen
      have HS2 := hid HS
      obtain ⟨m, hm⟩ : ∃ m, m = l.length := ⟨_, rfl⟩
      have HM := hid hm
      rw [← hm] at hR hlen
      have HPC := hid (fun u => place_fn x m hxl (by omega) u)
      clear HS hcw hm
      by_cases her : er = 0
      case neg =>
        rw [if_pos her] at hR
        have HR2 := hid hR
        have heb : (er != 0) = true := by simpa using her
        clear hR her hall
        by_cases h0 : i = 0
        · subst h0
          replace hcw1 := hz0 rfl
          clear hz0
          go_wp2_with fail
          (with_reducible refine HS2.out.mono ?_); rintro e w1 ⟨hb1, v1, rfl, hr1⟩
          obtain ⟨a1, c1, rfl⟩ := hr1.shape
          rw [← HM.out] at hr1 ⊢
          have HB1 := hid (hbl.trans (hb1.mono hsw))

          clear hb1 hr1
          go_wp2
          go_ret2
          exact ⟨by obtain ⟨e1, e2⟩ := Prod.mk.inj HR2.out; rw [e1, e2] <;> rfl, HB1.out⟩
        · clear hz0
          go_wp2_with fail
          (with_reducible refine HS2.out.mono ?_); rintro e w1 ⟨hb1, v1, rfl, hr1⟩
          obtain ⟨a1, c1, rfl⟩ := hr1.shape
          rw [← HM.out] at hr1 ⊢
          have HB1 := hid (hbl.trans (hb1.mono hsw))

          clear hb1 hr1
          go_wp2
          go_ret2
          exact ⟨by obtain ⟨e1, e2⟩ := Prod.mk.inj HR2.out; rw [e1, e2] <;> rfl, HB1.out⟩
      case pos =>
        subst her
        rw [if_neg (by simp)] at hR
        cases hpe : placeE x (m : Nat) with
        | none =>
          rw [hpe] at hR HPC
          have HR2 := hid hR
          clear hR hpe hall
          by_cases h0 : i = 0
          · subst h0
            replace hcw1 := hz0 rfl
            clear hz0
            go_wp2_with fail
            (with_reducible refine HS2.out.mono ?_); rintro e w1 ⟨hb1, v1, rfl, hr1⟩
            obtain ⟨a1, c1, rfl⟩ := hr1.shape
            rw [← HM.out] at hr1 ⊢
            have HB1 := hid (hbl.trans (hb1.mono hsw))

            clear hb1 hr1
            have h1 := HPC.out w1
            simp only [plAns] at h1
            go_wp2_with fail
            (with_reducible refine h1.mono ?_); rintro e w2 ⟨rfl, hw⟩; subst w2
            go_wp2
            go_ret2
            exact ⟨by obtain ⟨e1, e2⟩ := Prod.mk.inj HR2.out; rw [e1, e2] <;> rfl, HB1.out⟩
          · clear hz0
            go_wp2_with fail
            (with_reducible refine HS2.out.mono ?_); rintro e w1 ⟨hb1, v1, rfl, hr1⟩
            obtain ⟨a1, c1, rfl⟩ := hr1.shape
            rw [← HM.out] at hr1 ⊢
            have HB1 := hid (hbl.trans (hb1.mono hsw))

            clear hb1 hr1
            have h1 := HPC.out w1
            simp only [plAns] at h1
            go_wp2_with fail
            (with_reducible refine h1.mono ?_); rintro e w2 ⟨rfl, hw⟩; subst w2
            go_wp2
            go_ret2
            exact ⟨by obtain ⟨e1, e2⟩ := Prod.mk.inj HR2.out; rw [e1, e2] <;> rfl, HB1.out⟩
        | some z =>
          rw [hpe] at hR HPC
          dsimp only at hR
          clear hpe
          by_cases hin : 0 ≤ z ∧ z < (m : Int)
          · rw [if_pos hin] at hR
            obtain ⟨zn, rfl⟩ : ∃ zn : Nat, z = (zn : Nat) := ⟨z.toNat, by omega⟩
            rw [Int.toNat_natCast] at hR
            have hzm : zn < m := by omega
            have hzi : (zn : Int) < (m : Int) := by omega
            have hzg : (zn : Int) ≥ 0 := by omega
            have HR2 := hid hR
            have HAL := hid hall
            clear hR hin hall
            by_cases h0 : i = 0
            · subst h0
              replace hcw1 := hz0 rfl
              clear hz0
              go_wp2_with fail
              (with_reducible refine HS2.out.mono ?_); rintro e w1 ⟨hb1, v1, rfl, hr1⟩
              obtain ⟨a1, c1, rfl⟩ := hr1.shape
              rw [← HM.out] at hr1 ⊢
              have HB1 := hid (hbl.trans (hb1.mono hsw))

              obtain ⟨g1, rfl, he1, hc1⟩ := hr1.at (i := zn) (by rw [← HM.out]; exact hzm)
              have hgd : l.getD zn [] = l[zn]'(by rw [← HM.out]; exact hzm) := by rw [List.getD_eq_getElem?_getD, List.getElem?_eq_getElem (by rw [← HM.out]; exact hzm)]; rfl
              have hyl := HAL.out (l[zn]'(by rw [← HM.out]; exact hzm)) (List.getElem_mem _)
              have HR3 := HR2.out
              rw [hgd] at HR3
              generalize l[zn]'(by rw [← HM.out]; exact hzm) = y at hc1 hyl HR3
              have HR4 := hid HR3
              clear hb1 hr1 hgd HR3 he1
              have h1 := HPC.out w1
              simp only [plAns] at h1
              go_wp2_with fail
              (with_reducible refine h1.mono ?_); rintro e w2 ⟨rfl, hw⟩; subst w2
              go_wp2
              go_roundg (n - (0 + 1))
              case measure => omega
              case rel => exact ⟨0 + 1, y, rfl, by go_num, by omega, HR4.out, hyl, HB1.out, rfl⟩
            · clear hz0
              go_wp2_with fail
              (with_reducible refine HS2.out.mono ?_); rintro e w1 ⟨hb1, v1, rfl, hr1⟩
              obtain ⟨a1, c1, rfl⟩ := hr1.shape
              rw [← HM.out] at hr1 ⊢
              have HB1 := hid (hbl.trans (hb1.mono hsw))

              obtain ⟨g1, rfl, he1, hc1⟩ := hr1.at (i := zn) (by rw [← HM.out]; exact hzm)
              have hgd : l.getD zn [] = l[zn]'(by rw [← HM.out]; exact hzm) := by rw [List.getD_eq_getElem?_getD, List.getElem?_eq_getElem (by rw [← HM.out]; exact hzm)]; rfl
              have hyl := HAL.out (l[zn]'(by rw [← HM.out]; exact hzm)) (List.getElem_mem _)
              have HR3 := HR2.out
              rw [hgd] at HR3
              generalize l[zn]'(by rw [← HM.out]; exact hzm) = y at hc1 hyl HR3
              have HR4 := hid HR3
              clear hb1 hr1 hgd HR3 he1
              have h1 := HPC.out w1
              simp only [plAns] at h1
              go_wp2_with fail
              (with_reducible refine h1.mono ?_); rintro e w2 ⟨rfl, hw⟩; subst w2
              go_wp2
              go_roundg (n - (i + 1))
              case measure => omega
              case rel => exact ⟨i + 1, y, rfl, by go_num, by omega, HR4.out, hyl, HB1.out, rfl⟩
          · rw [if_neg hin] at hR
            have HR2 := hid hR
            clear hR hall
            by_cases hz1 : z ≥ 0
            · have hz2 : ¬ (z < (m : Int)) := by omega
              clear hin
              by_cases h0 : i = 0
              · subst h0
                replace hcw1 := hz0 rfl
                clear hz0
                go_wp2_with fail
                (with_reducible refine HS2.out.mono ?_); rintro e w1 ⟨hb1, v1, rfl, hr1⟩
                obtain ⟨a1, c1, rfl⟩ := hr1.shape
                rw [← HM.out] at hr1 ⊢
                have HB1 := hid (hbl.trans (hb1.mono hsw))

                clear hb1 hr1
                have h1 := HPC.out w1
                simp only [plAns] at h1
                go_wp2_with fail
                (with_reducible refine h1.mono ?_); rintro e w2 ⟨rfl, hw⟩; subst w2
                go_wp2
                go_roundg (n - (0 + 1))
                case measure => omega
                case rel => exact ⟨0 + 1, [], rfl, by go_num, by omega, HR2.out, Nat.zero_le _, HB1.out, rfl⟩
              · clear hz0
                go_wp2_with fail
                (with_reducible refine HS2.out.mono ?_); rintro e w1 ⟨hb1, v1, rfl, hr1⟩
                obtain ⟨a1, c1, rfl⟩ := hr1.shape
                rw [← HM.out] at hr1 ⊢
                have HB1 := hid (hbl.trans (hb1.mono hsw))

                clear hb1 hr1
                have h1 := HPC.out w1
                simp only [plAns] at h1
                go_wp2_with fail
                (with_reducible refine h1.mono ?_); rintro e w2 ⟨rfl, hw⟩; subst w2
                go_wp2
                go_roundg (n - (i + 1))
                case measure => omega
                case rel => exact ⟨i + 1, [], rfl, by go_num, by omega, HR2.out, Nat.zero_le _, HB1.out, rfl⟩
            · clear hin
              by_cases h0 : i = 0
              · subst h0
                replace hcw1 := hz0 rfl
                clear hz0
                go_wp2_with fail
                (with_reducible refine HS2.out.mono ?_); rintro e w1 ⟨hb1, v1, rfl, hr1⟩
                obtain ⟨a1, c1, rfl⟩ := hr1.shape
                rw [← HM.out] at hr1 ⊢
                have HB1 := hid (hbl.trans (hb1.mono hsw))

                clear hb1 hr1
                have h1 := HPC.out w1
                simp only [plAns] at h1
                go_wp2_with fail
                (with_reducible refine h1.mono ?_); rintro e w2 ⟨rfl, hw⟩; subst w2
                go_wp2
                go_roundg (n - (0 + 1))
                case measure => omega
                case rel => exact ⟨0 + 1, [], rfl, by go_num, by omega, HR2.out, Nat.zero_le _, HB1.out, rfl⟩
              · clear hz0
                go_wp2_with fail
                (with_reducible refine HS2.out.mono ?_); rintro e w1 ⟨hb1, v1, rfl, hr1⟩
                obtain ⟨a1, c1, rfl⟩ := hr1.shape
                rw [← HM.out] at hr1 ⊢
                have HB1 := hid (hbl.trans (hb1.mono hsw))

                clear hb1 hr1
                have h1 := HPC.out w1
                simp only [plAns] at h1
                go_wp2_with fail
                (with_reducible refine h1.mono ?_); rintro e w2 ⟨rfl, hw⟩; subst w2
                go_wp2
                go_roundg (n - (i + 1))
                case measure => omega
                case rel => exact ⟨i + 1, [], rfl, by go_num, by omega, HR2.out, Nat.zero_le _, HB1.out, rfl⟩
    · obtain rfl : i = n := by omega
      rw [List.drop_eq_nil_of_le (by rw [← HN.out]; exact Nat.le_refl _), indexE] at hR
      have HR2 := hid hR
      clear hR HR
      obtain ⟨e1, e2⟩ := Prod.mk.inj HR2.out
      subst e1 e2
      go_wp2
      go_ret2
      exact ⟨rfl, hbl⟩
end Go.Proofs.YtheiageokcgbhaaGreatDoor.Pz
/-
  list.changed, whatever function it is handed.
-/
namespace Go.Proofs.YtheiageokcgbhaaGreatDoor.Pz
open Go.RowKit
/-- what changed answers: the function makes l' of the elements, or an error -/
def chE (s : Str) (l' : List Str) (er : Int) : Str × Int := if (splitE s).2.2 ≠ 0 then ([], (splitE s).2.2) else if er ≠ 0 then ([], er) else joinRes l'
set_option maxRecDepth 100000 in
set_option maxHeartbeats 1000000 in
theorem changed0_fn (k : Nat) (eg : ∀ args w, (callFunc k args).run Tryz.prog w = .ok (.enter k args) w) (s : Str) (hs : s.length ≤ 1000000) (w : World) (hml : ML w) (l' : List Str) (er : Int) (hl : l'.length ≤ 9223372036854775807)
    (hok : (splitE s).2.2 = 0 → ∀ u v, Below w.heap.size w u → RowS w.heap.size u v (splitE s).1 → Calls Tryz.prog k #[v] u fun e u' => Below w.heap.size w u' ∧ ∃ v', e = .returned (.tuple #[v', .int .i64 er]) ∧ (er = 0 → StrsAt u' v' l')) :
    Calls Tryz.prog 53 #[.string ⟨s.toArray⟩, .func (.func k) #[] #[]] w fun e w' => e = .returned (.tuple #[.string ⟨(chE s l' er).1.toArray⟩, .int .i64 (chE s l' er).2]) ∧ Below w.heap.size w w' := by
  have HS := hid (split_fn s hs w)
  unfold SplitQ at HS
  unfold chE
  generalize splitE s = r at HS hok ⊢
  obtain ⟨l, at0, e0⟩ := r
  dsimp only at HS hok ⊢
  by_cases h0 : e0 = 0
  · subst h0
    rw [if_neg (by simp)]
    have HM := hid hml
    have HOK := hid (hok rfl)
    have HJ := hid (fun (v : Value) (u : World) (hm : ML u) (h : StrsAt u v l') => joinA_fn l' v u hm h hl)
    generalize joinRes l' = jr at HJ ⊢
    obtain ⟨j1, j2⟩ := jr
    dsimp only at HJ ⊢
    clear hml hok
    by_cases he : er = 0
    · subst he
      rw [if_neg (by simp)]
      go_enter Tryz.func53, Tryz.ntmps53
      go_wp2_with fail
      (with_reducible refine HS.out.mono ?_); rintro e w1 ⟨hb, v, rfl, hr⟩
      have HC := hid (HOK.out w1 v hb hr)
      obtain ⟨a, c, rfl⟩ := hr.shape
      clear hb hr
      go_wp2_with fail
      (with_reducible refine HC.out.mono ?_); rintro e w2 ⟨hb2, v2, rfl, hst⟩
      have hj := HJ.out v2 w2 (HM.out.below hb2) (hst trivial)
      have HB := hid hb2
      clear hb2 hst
      go_wp2_with fail
      (with_reducible refine hj.mono ?_); rintro e w3 ⟨rfl, hb3⟩
      have HB2 := hid (HB.out.trans (hb3.mono HB.out.size))
      clear hb3 hj
      go_wp2
      go_ret2
      exact ⟨rfl, HB2.out⟩
    · rw [if_pos he]
      have heb : (er != 0) = true := by simpa using he
      go_enter Tryz.func53, Tryz.ntmps53
      go_wp2_with fail
      (with_reducible refine HS.out.mono ?_); rintro e w1 ⟨hb, v, rfl, hr⟩
      have HC := hid (HOK.out w1 v hb hr)
      obtain ⟨a, c, rfl⟩ := hr.shape
      clear hb hr
      go_wp2_with fail
      (with_reducible refine HC.out.mono ?_); rintro e w2 ⟨hb2, v2, rfl, hst⟩
      have HB := hid hb2
      clear hb2 hst
      go_wp2
      go_ret2
      exact ⟨rfl, HB.out⟩
  · rw [if_pos h0]
    clear hml hok
    have he : (e0 != 0) = true := by simpa using h0
    go_enter Tryz.func53, Tryz.ntmps53
    go_wp2_with fail
    (with_reducible refine HS.out.mono ?_); rintro e w1 ⟨hb, v, rfl, hr⟩
    have HB := hid hb
    clear hb hr
    go_wp2
    go_ret2
    exact ⟨rfl, HB.out⟩
set_option maxRecDepth 100000 in
set_option maxHeartbeats 1000000 in
theorem changed2_fn (k : Nat) (c1 : Value) (c2 : Value) (eg : ∀ args w, (callFunc k args).run Tryz.prog w = .ok (.enter k args) w) (s : Str) (hs : s.length ≤ 1000000) (w : World) (hml : ML w) (l' : List Str) (er : Int) (hl : l'.length ≤ 9223372036854775807)
    (hok : (splitE s).2.2 = 0 → ∀ u v, Below w.heap.size w u → RowS w.heap.size u v (splitE s).1 → Calls Tryz.prog k #[v, c1, c2] u fun e u' => Below w.heap.size w u' ∧ ∃ v', e = .returned (.tuple #[v', .int .i64 er]) ∧ (er = 0 → StrsAt u' v' l')) :
    Calls Tryz.prog 53 #[.string ⟨s.toArray⟩, .func (.func k) #[] #[c1, c2]] w fun e w' => e = .returned (.tuple #[.string ⟨(chE s l' er).1.toArray⟩, .int .i64 (chE s l' er).2]) ∧ Below w.heap.size w w' := by
  have HS := hid (split_fn s hs w)
  unfold SplitQ at HS
  unfold chE
  generalize splitE s = r at HS hok ⊢
  obtain ⟨l, at0, e0⟩ := r
  dsimp only at HS hok ⊢
  by_cases h0 : e0 = 0
  · subst h0
    rw [if_neg (by simp)]
    have HM := hid hml
    have HOK := hid (hok rfl)
    have HJ := hid (fun (v : Value) (u : World) (hm : ML u) (h : StrsAt u v l') => joinA_fn l' v u hm h hl)
    generalize joinRes l' = jr at HJ ⊢
    obtain ⟨j1, j2⟩ := jr
    dsimp only at HJ ⊢
    clear hml hok
    by_cases he : er = 0
    · subst he
      rw [if_neg (by simp)]
      go_enter Tryz.func53, Tryz.ntmps53
      go_wp2_with fail
      (with_reducible refine HS.out.mono ?_); rintro e w1 ⟨hb, v, rfl, hr⟩
      have HC := hid (HOK.out w1 v hb hr)
      obtain ⟨a, c, rfl⟩ := hr.shape
      clear hb hr
      go_wp2_with fail
      (with_reducible refine HC.out.mono ?_); rintro e w2 ⟨hb2, v2, rfl, hst⟩
      have hj := HJ.out v2 w2 (HM.out.below hb2) (hst trivial)
      have HB := hid hb2
      clear hb2 hst
      go_wp2_with fail
      (with_reducible refine hj.mono ?_); rintro e w3 ⟨rfl, hb3⟩
      have HB2 := hid (HB.out.trans (hb3.mono HB.out.size))
      clear hb3 hj
      go_wp2
      go_ret2
      exact ⟨rfl, HB2.out⟩
    · rw [if_pos he]
      have heb : (er != 0) = true := by simpa using he
      go_enter Tryz.func53, Tryz.ntmps53
      go_wp2_with fail
      (with_reducible refine HS.out.mono ?_); rintro e w1 ⟨hb, v, rfl, hr⟩
      have HC := hid (HOK.out w1 v hb hr)
      obtain ⟨a, c, rfl⟩ := hr.shape
      clear hb hr
      go_wp2_with fail
      (with_reducible refine HC.out.mono ?_); rintro e w2 ⟨hb2, v2, rfl, hst⟩
      have HB := hid hb2
      clear hb2 hst
      go_wp2
      go_ret2
      exact ⟨rfl, HB.out⟩
  · rw [if_pos h0]
    clear hml hok
    have he : (e0 != 0) = true := by simpa using h0
    go_enter Tryz.func53, Tryz.ntmps53
    go_wp2_with fail
    (with_reducible refine HS.out.mono ?_); rintro e w1 ⟨hb, v, rfl, hr⟩
    have HB := hid hb
    clear hb hr
    go_wp2
    go_ret2
    exact ⟨rfl, HB.out⟩
set_option maxRecDepth 100000 in
set_option maxHeartbeats 1000000 in
theorem changed3_fn (k : Nat) (c1 : Value) (c2 : Value) (c3 : Value) (eg : ∀ args w, (callFunc k args).run Tryz.prog w = .ok (.enter k args) w) (s : Str) (hs : s.length ≤ 1000000) (w : World) (hml : ML w) (l' : List Str) (er : Int) (hl : l'.length ≤ 9223372036854775807)
    (hok : (splitE s).2.2 = 0 → ∀ u v, Below w.heap.size w u → RowS w.heap.size u v (splitE s).1 → Calls Tryz.prog k #[v, c1, c2, c3] u fun e u' => Below w.heap.size w u' ∧ ∃ v', e = .returned (.tuple #[v', .int .i64 er]) ∧ (er = 0 → StrsAt u' v' l')) :
    Calls Tryz.prog 53 #[.string ⟨s.toArray⟩, .func (.func k) #[] #[c1, c2, c3]] w fun e w' => e = .returned (.tuple #[.string ⟨(chE s l' er).1.toArray⟩, .int .i64 (chE s l' er).2]) ∧ Below w.heap.size w w' := by
  have HS := hid (split_fn s hs w)
  unfold SplitQ at HS
  unfold chE
  generalize splitE s = r at HS hok ⊢
  obtain ⟨l, at0, e0⟩ := r
  dsimp only at HS hok ⊢
  by_cases h0 : e0 = 0
  · subst h0
    rw [if_neg (by simp)]
    have HM := hid hml
    have HOK := hid (hok rfl)
    have HJ := hid (fun (v : Value) (u : World) (hm : ML u) (h : StrsAt u v l') => joinA_fn l' v u hm h hl)
    generalize joinRes l' = jr at HJ ⊢
    obtain ⟨j1, j2⟩ := jr
    dsimp only at HJ ⊢
    clear hml hok
    by_cases he : er = 0
    · subst he
      rw [if_neg (by simp)]
      go_enter Tryz.func53, Tryz.ntmps53
      go_wp2_with fail
      (with_reducible refine HS.out.mono ?_); rintro e w1 ⟨hb, v, rfl, hr⟩
      have HC := hid (HOK.out w1 v hb hr)
      obtain ⟨a, c, rfl⟩ := hr.shape
      clear hb hr
      go_wp2_with fail
      (with_reducible refine HC.out.mono ?_); rintro e w2 ⟨hb2, v2, rfl, hst⟩
      have hj := HJ.out v2 w2 (HM.out.below hb2) (hst trivial)
      have HB := hid hb2
      clear hb2 hst
      go_wp2_with fail
      (with_reducible refine hj.mono ?_); rintro e w3 ⟨rfl, hb3⟩
      have HB2 := hid (HB.out.trans (hb3.mono HB.out.size))
      clear hb3 hj
      go_wp2
      go_ret2
      exact ⟨rfl, HB2.out⟩
    · rw [if_pos he]
      have heb : (er != 0) = true := by simpa using he
      go_enter Tryz.func53, Tryz.ntmps53
      go_wp2_with fail
      (with_reducible refine HS.out.mono ?_); rintro e w1 ⟨hb, v, rfl, hr⟩
      have HC := hid (HOK.out w1 v hb hr)
      obtain ⟨a, c, rfl⟩ := hr.shape
      clear hb hr
      go_wp2_with fail
      (with_reducible refine HC.out.mono ?_); rintro e w2 ⟨hb2, v2, rfl, hst⟩
      have HB := hid hb2
      clear hb2 hst
      go_wp2
      go_ret2
      exact ⟨rfl, HB.out⟩
  · rw [if_pos h0]
    clear hml hok
    have he : (e0 != 0) = true := by simpa using h0
    go_enter Tryz.func53, Tryz.ntmps53
    go_wp2_with fail
    (with_reducible refine HS.out.mono ?_); rintro e w1 ⟨hb, v, rfl, hr⟩
    have HB := hid hb
    clear hb hr
    go_wp2
    go_ret2
    exact ⟨rfl, HB.out⟩
theorem tailE_le {sum z B : Int} {r : Str} (h : tailE sum r = some z) (h1 : -B ≤ sum) (h2 : sum ≤ B) : -B - 999999999 ≤ z ∧ z ≤ B + 999999999 := by
  cases r with
  | nil =>
    rw [tailE] at h
    have := Option.some.inj h
    omega
  | cons c t =>
    rw [tailE] at h
    cases hn : numE t with
    | none => rw [hn] at h; cases h
    | some k =>
      rw [hn] at h
      have hk := numE_le hn
      dsimp only at h
      split at h
      · have := Option.some.inj h
        omega
      · split at h
        · have := Option.some.inj h
          omega
        · cases h
theorem placeE_le {s : Str} {n : Nat} {z : Int} (h : placeE s (n : Nat) = some z) (hn : n ≤ 999999999) : -2000000000 ≤ z ∧ z ≤ 2000000000 := by
  rw [placeE] at h
  split at h
  · have := tailE_le (B := 999999999) h (by omega) (by omega)
    omega
  · generalize Lib.trimPrefix s [45] = d at h
    cases hf : numE (d.take (digN d)) with
    | none => rw [hf] at h; cases h
    | some f =>
      rw [hf] at h
      have hfb := numE_le hf
      have := tailE_le (B := 999999999) h (by split <;> omega) (by split <;> omega)
      omega
/-- the first and the last but one index of the elements from a place to another one -/
def loE (n : Nat) (f : Str) : Nat := (min (max ((placeE f (n : Nat)).getD 0) 0) (n : Int)).toNat
def hiE (n : Nat) (f t : Str) : Nat := max (loE n f) (min ((placeE t (n : Nat)).getD 0) ((n : Int) - 1) + 1).toNat
def okE (n : Nat) (f t : Str) : Bool := (placeE f (n : Nat)).isSome && (placeE t (n : Nat)).isSome
theorem loE_le (n : Nat) (f : Str) : loE n f ≤ n := by unfold loE; omega
theorem hiE_le (n : Nat) (f t : Str) : hiE n f t ≤ n := by
  have := loE_le n f
  unfold hiE
  omega
theorem lo_hi (n : Nat) (f t : Str) : loE n f ≤ hiE n f t := Nat.le_max_left _ _
def plZ (p : Option Int) : Int := p.getD 0
def plE (p : Option Int) : Int := if p.isSome then 0 else 2
theorem plAns_eq (p : Option Int) : plAns p = .tuple #[.int .i64 (plZ p), .int .i64 (plE p)] := by cases p <;> rfl
set_option maxRecDepth 100000 in
set_option maxHeartbeats 1000000 in
theorem between_fn (n : Nat) (f t : Str) (hn : n ≤ 1000000) (hf : f.length ≤ 1000000) (ht : t.length ≤ 1000000) (w : World) :
    Calls Tryz.prog 83 #[.int .i64 (n : Nat), .string ⟨f.toArray⟩, .string ⟨t.toArray⟩] w fun e w' => e = .returned (.tuple #[.int .i64 (loE n f : Nat), .int .i64 (hiE n f t : Nat), .bool (okE n f t)]) ∧ w' = w := by
  have HF := hid (place_fn f n hf hn w)
  have HT := hid (place_fn t n ht hn w)
  rw [plAns_eq] at HF HT
  have hfb : -2000000000 ≤ plZ (placeE f (n : Nat)) ∧ plZ (placeE f (n : Nat)) ≤ 2000000000 := by
    cases h : placeE f (n : Nat) with
    | none => exact ⟨by decide, by decide⟩
    | some z => exact placeE_le h (by omega)
  have htb : -2000000000 ≤ plZ (placeE t (n : Nat)) ∧ plZ (placeE t (n : Nat)) ≤ 2000000000 := by
    cases h : placeE t (n : Nat) with
    | none => exact ⟨by decide, by decide⟩
    | some z => exact placeE_le h (by omega)
  have hlo : (loE n f : Int) = min (max (plZ (placeE f (n : Nat))) 0) (n : Int) := by unfold loE; unfold plZ at *; omega
  have hhi : (hiE n f t : Int) = max (loE n f : Int) (min (plZ (placeE t (n : Nat))) ((n : Int) - 1) + 1) := by unfold hiE; unfold plZ at *; omega
  have hk1 : okE n f t = ((plE (placeE f (n : Nat)) == 0) && (plE (placeE t (n : Nat)) == 0)) := by
    unfold okE plE
    cases placeE f (n : Nat) <;> cases placeE t (n : Nat) <;> rfl
  generalize plZ (placeE f (n : Nat)) = zf at HF hfb hlo
  generalize plZ (placeE t (n : Nat)) = zt at HT htb hhi
  generalize plE (placeE f (n : Nat)) = ef at HF hk1
  generalize plE (placeE t (n : Nat)) = et at HT hk1
  generalize loE n f = lo at hlo hhi ⊢
  generalize hiE n f t = hi at hhi ⊢
  generalize okE n f t = ok at hk1 ⊢
  have hlo2 : min (max zf 0) (n : Int) = (lo : Int) := hlo.symm
  have hhi2 : max (lo : Int) (min zt ((n : Int) - 1) + 1) = (hi : Int) := hhi.symm
  have HK := hid hk1
  have hwr : IntKind.i64.wrap (min zt ((n : Int) - 1) + 1) = min zt ((n : Int) - 1) + 1 := by rw [IntKind.wrap_i64]; omega
  have hmn : -2000000001 ≤ min zt ((n : Int) - 1) + 1 ∧ min zt ((n : Int) - 1) + 1 ≤ 2000000001 := by omega
  clear hlo hhi hk1
  by_cases h1 : ef = 0
  · subst h1
    go_enter Tryz.func83, Tryz.ntmps83
    go_wp2_with fail
    (with_reducible refine HF.out.mono ?_); rintro e w1 ⟨rfl, hw⟩; subst w1
    go_wp2_with fail
    (with_reducible refine HT.out.mono ?_); rintro e w1 ⟨rfl, hw⟩; subst w1
    go_wp2
    go_ret3
    exact ⟨by rw [HK.out] <;> rfl, rfl⟩
  · have hb1 : (ef == 0) = false := by simpa using h1
    go_enter Tryz.func83, Tryz.ntmps83
    go_wp2_with fail
    (with_reducible refine HF.out.mono ?_); rintro e w1 ⟨rfl, hw⟩; subst w1
    go_wp2_with fail
    (with_reducible refine HT.out.mono ?_); rintro e w1 ⟨rfl, hw⟩; subst w1
    go_wp2
    go_ret3
    exact ⟨by rw [HK.out, hb1] <;> rfl, rfl⟩
end Go.Proofs.YtheiageokcgbhaaGreatDoor.Pz
/-
  list.Range of the program.
-/
namespace Go.Proofs.YtheiageokcgbhaaGreatDoor.Pz
open Go.RowKit
theorem strs_cut {w : World} {g n c i j : Nat} {l : List Str} (h : StrsAt w (.slice (some ⟨g, 0, none⟩) n c) l) (hij : i ≤ j) (hj : j ≤ n) : StrsAt w (.slice (some ⟨g, i, none⟩) (j - i) (c - i)) ((l.take j).drop i) := by
  obtain ⟨a, cap, e, hcap, hcell⟩ := h
  simp only [Value.slice.injEq] at e
  obtain ⟨rfl, rfl, rfl⟩ := e
  have hlen : ((l.take j).drop i).length = j - i := by rw [List.length_drop, List.length_take]; omega
  refine ⟨some ⟨g, i, none⟩, c - i, by rw [hlen], by rw [hlen]; omega, fun m hm => ?_⟩
  rw [hlen] at hm
  obtain ⟨p, hp, hb, hc⟩ := hcell (i + m) (by omega)
  have hp := Option.some.inj hp
  subst hp
  refine ⟨_, rfl, hb, ?_⟩
  rw [add_none] at hc ⊢
  rw [Nat.zero_add] at hc
  rw [hc]
  simp
theorem strs_none {w : World} {a : Option Addr} {c : Nat} : StrsAt w (.slice a 0 c) [] := ⟨a, c, rfl, Nat.zero_le _, fun i hi => absurd hi (by simp)⟩
/-- the elements from a place to another one -/
def rangeL (l : List Str) (f t : Str) : List Str := (l.take (hiE l.length f t)).drop (loE l.length f)
def rangeE (s f t : Str) : Str × Int := chE s (rangeL (splitE s).1 f t) (if okE (splitE s).1.length f t then 0 else 2)
set_option maxRecDepth 100000 in
set_option maxHeartbeats 1000000 in
theorem range1_fn {b1 b2 : Nat} (B : Nat) (f t : Str) (l : List Str) (v : Value) (w : World) (hr : RowS B w v l) (hl : l.length ≤ 10000) (hf : f.length ≤ 1000000) (ht : t.length ≤ 1000000)
    (h1 : w.cell? ⟨b1, 0, none⟩ = some (.string ⟨f.toArray⟩)) (h2 : w.cell? ⟨b2, 0, none⟩ = some (.string ⟨t.toArray⟩)) :
    Calls Tryz.prog 82 #[v, .pointer (some ⟨b1, 0, none⟩), .pointer (some ⟨b2, 0, none⟩)] w fun e w' => w' = w ∧ ∃ v', e = .returned (.tuple #[v', .int .i64 (if okE l.length f t then 0 else 2)]) ∧ ((if okE l.length f t then (0 : Int) else 2) = 0 → StrsAt w' v' (rangeL l f t)) := by
  have HST := hid hr.strs
  have hcap : ∃ a c, v = .slice a l.length c ∧ l.length ≤ c ∧ ((∃ g, a = some ⟨g, 0, none⟩) ∨ (a = none ∧ l.length = 0 ∧ c = 0)) := by
    rcases hr.2 with ⟨e, h0⟩ | ⟨g, cap, cur, e, _, _, hc, _⟩
    · exact ⟨none, 0, by rw [e, h0], by omega, .inr ⟨rfl, h0, rfl⟩⟩
    · exact ⟨_, _, e, hc, .inl ⟨g, rfl⟩⟩
  obtain ⟨a, c, rfl, hc, ha⟩ := hcap
  have HB := hid (between_fn l.length f t (by omega) hf ht w)
  have hlo := lo_hi l.length f t
  have hhi := hiE_le l.length f t
  unfold rangeL
  generalize loE l.length f = lo at HB hlo ⊢
  generalize hiE l.length f t = hi at HB hlo hhi ⊢
  have HCUT := hid (fun g (h : a = some ⟨g, 0, none⟩) => (show StrsAt w (.slice (some ⟨g, lo, none⟩) (hi - lo) (c - lo)) ((l.take hi).drop lo) from strs_cut (h ▸ HST.out) hlo hhi))
  have HNIL := hid (fun (h : lo = hi) => (show (l.take hi).drop lo = [] from List.drop_eq_nil_of_le (by rw [List.length_take]; omega)))
  generalize (l.take hi).drop lo = lr at HCUT HNIL ⊢
  obtain ⟨n, hn⟩ : ∃ n, n = l.length := ⟨_, rfl⟩
  rw [← hn] at HB hc ha hhi HST ⊢
  clear hr hl
  cases hok : okE n f t with
  | false =>
    rw [hok] at HB
    clear hn hok
    go_enter Tryz.func82, Tryz.ntmps82
    go_wp2_with fail
    (with_reducible refine HB.out.mono ?_); rintro e w1 ⟨rfl, hw⟩; subst w1
    go_wp2
    go_ret2
    exact ⟨rfl, _, rfl⟩
  | true =>
    rw [hok] at HB
    clear hn hok
    rcases ha with ⟨g, rfl⟩ | ⟨rfl, h0, rfl⟩
    · have HC2 := hid (HCUT.out g rfl)
      rcases Nat.lt_or_ge lo hi with hlt | hge
      · have hcl : ¬ c = lo := by omega
        go_enter Tryz.func82, Tryz.ntmps82
        go_wp2_with fail
        (with_reducible refine HB.out.mono ?_); rintro e w1 ⟨rfl, hw⟩; subst w1
        go_wp2
        go_ret2
        exact ⟨rfl, _, rfl, HC2.out⟩
      · obtain rfl : lo = hi := by omega
        have HN2 := hid (HNIL.out rfl)
        rw [HN2.out]
        go_enter Tryz.func82, Tryz.ntmps82
        go_wp2_with fail
        (with_reducible refine HB.out.mono ?_); rintro e w1 ⟨rfl, hw⟩; subst w1
        go_wp2
        all_goals go_ret2
        all_goals exact ⟨rfl, _, rfl, strs_none⟩
    · obtain rfl : hi = 0 := by omega
      obtain rfl : lo = 0 := by omega
      have HN2 := hid (HNIL.out rfl)
      subst h0
      have HB2 := HB.out
      simp only [Int.natCast_zero] at HB2
      rw [HN2.out]
      go_enter Tryz.func82, Tryz.ntmps82
      go_wp2_with fail
      (with_reducible refine HB2.mono ?_); rintro e w1 ⟨rfl, hw⟩; subst w1
      go_wp2
      go_ret2
      exact ⟨rfl, _, rfl, strs_none⟩
theorem alloc_cell (w : World) (x : Value) (t : TypeId) : (w.alloc (.cells #[x] t)).heap[w.heap.size]? = some (.cells #[x] t (0, 0)) := heap_alloc_new _ _
/-- two cells of the call's own -/
theorem boxes2 (w : World) (x y : Value) (t u : TypeId) : ∃ W, W = (w.alloc (.cells #[x] t)).alloc (.cells #[y] u) ∧ Below w.heap.size w W ∧ W.heap[w.heap.size]? = some (.cells #[x] t (0, 0)) ∧ W.heap[w.heap.size + 1]? = some (.cells #[y] u (0, 0)) ∧ w.heap.size + 2 = W.heap.size := by
  refine ⟨_, rfl, ?_, ?_, ?_, by simp⟩
  · exact (belowA w _).trans ((belowA _ _).mono (by simp))
  · rw [Below.heap_alloc _ _ _ (by simp)]; exact heap_alloc_new _ _
  · simpa using heap_alloc_new (w.alloc (.cells #[x] t)) (.cells #[y] u)
set_option maxRecDepth 100000 in
set_option maxHeartbeats 1000000 in
theorem rangeP_fn (s f t : Str) (w : World) (hml : ML w) (hs : s.length ≤ 1000000) (hf : f.length ≤ 1000000) (ht : t.length ≤ 1000000) :
    Calls Tryz.prog 41 #[.string ⟨s.toArray⟩, .string ⟨f.toArray⟩, .string ⟨t.toArray⟩] w fun e w' => e = .returned (.tuple #[.string ⟨(rangeE s f t).1.toArray⟩, .int .i64 (rangeE s f t).2]) ∧ Below w.heap.size w w' := by
  obtain ⟨W, hW, hbW, hg1, hg2, hsz⟩ := boxes2 w (.string ⟨f.toArray⟩) (.string ⟨t.toArray⟩) 9 9
  have eg : ∀ args w, (callFunc 82 args).run Tryz.prog w = .ok (.enter 82 args) w := enters_of Tryz.func82 (by kernel_rfl) rfl
  have hlen := (splitE_out s).2.1
  have HC := hid (changed2_fn 82 (.pointer (some ⟨w.heap.size, 0, none⟩)) (.pointer (some ⟨w.heap.size + 1, 0, none⟩)) eg s hs W (hml.below hbW) (rangeL (splitE s).1 f t) (if okE (splitE s).1.length f t then 0 else 2)
    (by unfold rangeL; rw [List.length_drop, List.length_take]; omega) (fun _ u v hb hr => by
      have hc1 : u.cell? ⟨w.heap.size, 0, none⟩ = some (.string ⟨f.toArray⟩) := by rw [hb.cell (p := ⟨w.heap.size, 0, none⟩) (by show w.heap.size < _; omega), Lib.cell_of_heap hg1]; rfl
      have hc2 : u.cell? ⟨w.heap.size + 1, 0, none⟩ = some (.string ⟨t.toArray⟩) := by rw [hb.cell (p := ⟨w.heap.size + 1, 0, none⟩) (by show w.heap.size + 1 < _; omega), Lib.cell_of_heap hg2]; rfl
      exact (range1_fn _ f t _ v u hr hlen hf ht hc1 hc2).mono fun e u' ⟨hu, h⟩ => ⟨by rw [hu]; exact hb, h⟩))
  have HR := hid (show rangeE s f t = chE s (rangeL (splitE s).1 f t) (if okE (splitE s).1.length f t then 0 else 2) from rfl)
  rw [← HR.out] at HC
  generalize rangeE s f t = R at HC ⊢
  obtain ⟨r1, r2⟩ := R
  dsimp only at HC ⊢
  have HW := hid hW
  have HBW := hid hbW
  clear hg1 hg2 hW hbW hlen hml HR eg
  go_enter Tryz.func41, Tryz.ntmps41
  go_wp2_with fail
  rw [← HW.out]
  (with_reducible refine HC.out.mono ?_); rintro e w1 ⟨rfl, hb⟩
  have HB1 := hid (HBW.out.trans (hb.mono (by omega)))
  clear hb
  go_wp2
  go_ret2
  exact ⟨rfl, HB1.out⟩
end Go.Proofs.YtheiageokcgbhaaGreatDoor.Pz
/-
  list.Set$1 of the program, whatever the inner Set answers.
-/
namespace Go.Proofs.YtheiageokcgbhaaGreatDoor.Pz
open Go.RowKit
/-- the row with another element at a place, and an error -/
def setIn (l : List Str) (p : Str) (rec : Str → Str × Int) : List Str × Int :=
  match placeE p (l.length : Nat) with
  | none => ([], 2)
  | some z =>
    if z < 0 ∨ z > (l.length : Nat) then ([], 7)
    else ((if z = (l.length : Nat) then l ++ [[]] else l).set z.toNat (rec ((if z = (l.length : Nat) then l ++ [[]] else l).getD z.toNat [])).1, (rec ((if z = (l.length : Nat) then l ++ [[]] else l).getD z.toNat [])).2)
def tailV (qb qo np cp : Nat) : Value := .slice (if cp = 1 then some ⟨qb, qo, none⟩ else some ⟨qb, qo + 1, none⟩) np (cp - 1)
set_option maxRecDepth 100000 in
set_option maxHeartbeats 4000000 in
theorem set1_fn {b1 b2 : Nat} (B : Nat) (p : Str) (np cp : Nat) (qb qo : Nat) (val : Str) (rec : Str → Str × Int) (l : List Str) (v : Value) (w : World)
    (hr : RowS B w v l) (hBw : B ≤ w.heap.size) (hl : l.length ≤ 10000) (hp : p.length ≤ 1000000) (hxl : ∀ x ∈ l, x.length ≤ 1000000) (_ : np + 1 ≤ cp)
    (hP1 : ∀ u, Below B w u → u.cell? ⟨b1, 0, none⟩ = some (.slice (some ⟨qb, qo, none⟩) (np + 1) cp))
    (hP2 : ∀ u, Below B w u → u.cell? ⟨b2, 0, none⟩ = some (.string ⟨val.toArray⟩))
    (hPQ : w.cell? ⟨qb, qo, none⟩ = some (.string ⟨p.toArray⟩))
    (hrec : ∀ u, Below B w u → ∀ x : Str, x.length ≤ 1000000 → Calls Tryz.prog 39 #[.string ⟨x.toArray⟩, tailV qb qo np cp, .string ⟨val.toArray⟩] u fun e u' => e = .returned (.tuple #[.string ⟨(rec x).1.toArray⟩, .int .i64 (rec x).2]) ∧ Below u.heap.size u u') :
    Calls Tryz.prog 80 #[v, .pointer (some ⟨b1, 0, none⟩), .pointer (some ⟨b2, 0, none⟩)] w fun e w' => Below B w w' ∧ ∃ v', e = .returned (.tuple #[v', .int .i64 (setIn l p rec).2]) ∧ ((setIn l p rec).2 = 0 → StrsAt w' v' (setIn l p rec).1) := by
  have hmx : Tryz.prog.follows .mixedOrders = true := by kernel_rfl
  obtain ⟨a, c, rfl⟩ := hr.shape
  have HPL := hid (place_fn p l.length hp (by omega) w)
  obtain ⟨A, hA⟩ : ∃ A, A = setIn l p rec := ⟨_, rfl⟩
  rw [← hA]
  rw [setIn] at hA
  obtain ⟨n, hn⟩ : ∃ n, n = l.length := ⟨_, rfl⟩
  have HN := hid hn
  have HR := hid hr
  have HP1 := hid hP1
  have HP2 := hid hP2
  have REC := hid hrec
  have HXL := hid hxl
  rw [← hn] at hA HPL hl HR ⊢
  have hk1 := hP1 w (Below.refl _ _)
  have hk2 := hP2 w (Below.refl _ _)
  clear hr hn hP1 hP2 hrec hxl
  cases hpe : placeE p (n : Nat) with
  | none =>
    rw [hpe] at hA HPL
    have HA := hid hA
    clear hA hpe
    go_enter Tryz.func80, Tryz.ntmps80
    go_wp2_with fail
    (with_reducible refine HPL.out.mono ?_); rintro e w1 ⟨rfl, hw⟩; subst w1
    simp only [plAns]
    go_wp2
    go_ret2
    rw [HA.out]
    exact ⟨Below.refl _ _, _, rfl, fun h => absurd h (by decide)⟩
  | some z =>
    rw [hpe] at hA HPL
    dsimp only at hA
    simp only [plAns] at HPL
    have hzb := placeE_le hpe (by omega)
    clear hpe
    by_cases hz0 : z < 0
    · rw [if_pos (.inl hz0)] at hA
      have HA := hid hA
      clear hA
      go_enter Tryz.func80, Tryz.ntmps80
      go_wp2_with fail
      (with_reducible refine HPL.out.mono ?_); rintro e w1 ⟨rfl, hw⟩; subst w1
      go_wp2
      go_ret2
      rw [HA.out]
      exact ⟨Below.refl _ _, _, rfl, fun h => absurd h (by decide)⟩
    by_cases hzn : z > (n : Int)
    · rw [if_pos (.inr hzn)] at hA
      have HA := hid hA
      clear hA
      go_enter Tryz.func80, Tryz.ntmps80
      go_wp2_with fail
      (with_reducible refine HPL.out.mono ?_); rintro e w1 ⟨rfl, hw⟩; subst w1
      go_wp2
      go_ret2
      rw [HA.out]
      exact ⟨Below.refl _ _, _, rfl, fun h => absurd h (by decide)⟩
    rw [if_neg (by omega)] at hA
    obtain ⟨zn, rfl⟩ : ∃ zn : Nat, z = (zn : Nat) := ⟨z.toNat, by omega⟩
    rw [Int.toNat_natCast] at hA
    by_cases hze : zn = n
    · subst hze
      rw [if_pos rfl] at hA
      have hll : l.length ≤ 10000000 := by rw [← HN.out]; omega
      obtain ⟨r, hrr⟩ : ∃ r, r = l ++ [[]] := ⟨_, rfl⟩
      rw [← hrr] at hA
      have hans := hA
      have HRR := hid hrr
      have HRM0 := hid (show zn + 1 = r.length by rw [hrr, List.length_append, ← HN.out]; rfl)
      have HXLR := hid (show ∀ x ∈ r, x.length ≤ 1000000 by
        intro x hx
        rw [hrr] at hx
        rcases List.mem_append.1 hx with h | h
        · exact HXL.out x h
        · rw [List.mem_singleton.1 h]; exact Nat.zero_le _)
      clear hA hrr
      go_enter Tryz.func80, Tryz.ntmps80
      go_wp2_with fail
      (with_reducible refine HPL.out.mono ?_); rintro e w1 ⟨rfl, hw⟩; subst w1
      go_wp2_with (at_builtin; go_loud (refine app_one (w := w) rfl rfl (.tmp 34) (.tmp 35) rfl B _ l [] rfl HR.out rfl hBw hll ?_))
      intro v2 w2 hr2 hg2 hv2
      rw [← HRR.out] at hr2
      have HBU := hid ((Below.refl B w).grown hg2 hBw fun k hk => (HR.out.lt k hk).2)
      have hvs : ∃ g c, v2 = .slice (some ⟨g, 0, none⟩) (zn + 1) c := by
        obtain ⟨a', c', rfl⟩ := hr2.shape
        rw [← HRM0.out] at hr2 ⊢
        obtain ⟨g, rfl, _, _⟩ := hr2.at (i := 0) (by rw [← HRM0.out]; omega)
        exact ⟨g, c', rfl⟩
      obtain ⟨g, c, rfl⟩ := hvs
      have HRU := hid hr2
      obtain ⟨m, hm⟩ : ∃ m, m = zn + 1 := ⟨_, rfl⟩
      rw [← hm] at HRU ⊢
      have HRM := hid (show m = r.length by rw [hm]; exact HRM0.out)
      have hzm : zn < m := by omega
      clear hr2 hg2 hv2 hm
      rw [tailV] at REC
      have hsU : B ≤ w2.heap.size := by have := HBU.out.size; omega
      obtain ⟨x, hx⟩ : ∃ x, x = r.getD zn [] := ⟨_, rfl⟩
      have hzr : zn < r.length := by rw [← HRM.out]; exact hzm
      have hcx : w2.cell? ⟨g, zn, none⟩ = some (.string ⟨x.toArray⟩) := by rw [hx]; exact HRU.out.getD hzr
      have hxl := HXLR.out x (by rw [hx, List.getD_eq_getElem?_getD, List.getElem?_eq_getElem hzr]; exact List.getElem_mem _)
      rw [← hx] at hans
      have S0 : Hid ((fun u : World => u.cell? ⟨g, zn, none⟩ = some (.string ⟨x.toArray⟩) ∧ u.cell? ⟨b1, 0, none⟩ = some (.slice (some ⟨qb, qo, none⟩) (np + 1) cp) ∧ u.cell? ⟨b2, 0, none⟩ = some (.string ⟨val.toArray⟩)) w2.drew) := hid ⟨hcx, HP1.out w2 HBU.out, HP2.out w2 HBU.out⟩
      have HCX := hid hcx
      have hgl := (HRU.out.lt g rfl)
      have HANS := hid hans
      have HGL := hid hgl
      clear hx hzr hcx hans hgl
      go_wp2
      refine U_begin (late := fun k => k == 0 || k == 1 || k == 12 || k == 14 || k == 15) (S := fun u : World => u.cell? ⟨g, zn, none⟩ = some (.string ⟨x.toArray⟩) ∧ u.cell? ⟨b1, 0, none⟩ = some (.slice (some ⟨qb, qo, none⟩) (np + 1) cp) ∧ u.cell? ⟨b2, 0, none⟩ = some (.string ⟨val.toArray⟩)) hmx ?_
      refine U_pure 8 (i := 0) (v := .slice (some ⟨g, 0, none⟩) m c) rfl (by kernel_rfl) (by kernel_rfl) (by kernel_rfl) (by kernel_rfl) (by kernel_rfl) (fun _ _ _ h => h) (.inl ⟨rfl, fun u hu => (by go_simp)⟩) ?_
      refine U_pure 8 (i := 1) (v := .int .i64 (zn : Nat)) rfl (by kernel_rfl) (by kernel_rfl) (by kernel_rfl) (by kernel_rfl) (by kernel_rfl) (fun _ _ _ h => h) (.inl ⟨rfl, fun u hu => (by go_simp)⟩) ?_
      refine U_take3 8 (i := 2) (v := .slice (some ⟨g, 0, none⟩) m c) rfl (by kernel_rfl) (by kernel_rfl) (by kernel_rfl) (by kernel_rfl) (by kernel_rfl) (fun _ _ _ h => h) (.inl ⟨rfl, fun u hu => (by go_simp)⟩) S0.out ?_
      refine U_take3 8 (i := 3) (v := .int .i64 (zn : Nat)) rfl (by kernel_rfl) (by kernel_rfl) (by kernel_rfl) (by kernel_rfl) (by kernel_rfl) (fun _ _ _ h => h) (.inl ⟨rfl, fun u hu => (by go_simp)⟩) S0.out ?_
      refine U_take3 8 (i := 4) (v := .pointer (some ⟨g, zn, none⟩)) rfl (by kernel_rfl) (by kernel_rfl) (by kernel_rfl) (by kernel_rfl) (by kernel_rfl) (fun _ _ _ h => h) (.inl ⟨rfl, fun u hu => (by go_simp)⟩) S0.out ?_
      refine U_take3 8 (i := 5) (v := .string ⟨x.toArray⟩) rfl (by kernel_rfl) (by kernel_rfl) (by kernel_rfl) (by kernel_rfl) (by kernel_rfl) (fun _ _ _ h => h) (.inl ⟨rfl, fun u hu => (by obtain ⟨h1, h2, h3⟩ := hu; go_simp)⟩) S0.out ?_
      refine U_take3 8 (i := 6) (v := .slice (some ⟨qb, qo, none⟩) (np + 1) cp) rfl (by kernel_rfl) (by kernel_rfl) (by kernel_rfl) (by kernel_rfl) (by kernel_rfl) (fun _ _ _ h => h) (.inl ⟨rfl, fun u hu => (by obtain ⟨h1, h2, h3⟩ := hu; go_simp)⟩) S0.out ?_
      refine U_take3 8 (i := 7) (v := .slice (if cp = 1 then some ⟨qb, qo, none⟩ else some ⟨qb, qo + 1, none⟩) np (cp - 1)) rfl (by kernel_rfl) (by kernel_rfl) (by kernel_rfl) (by kernel_rfl) (by kernel_rfl) (fun _ _ _ h => h) (.inl ⟨rfl, fun u hu => (by go_simp; intro h9; omega)⟩) S0.out ?_
      refine U_take3 8 (i := 8) (v := .string ⟨val.toArray⟩) rfl (by kernel_rfl) (by kernel_rfl) (by kernel_rfl) (by kernel_rfl) (by kernel_rfl) (fun _ _ _ h => h) (.inl ⟨rfl, fun u hu => (by obtain ⟨h1, h2, h3⟩ := hu; go_simp)⟩) S0.out ?_
      refine U_step (j := 9) (by kernel_rfl) rfl (fun K hK => ?_)
      go_simp
      (with_reducible refine (REC.out w2.drew HBU.out.drew x hxl).mono ?_); rintro e w3 ⟨rfl, hb3⟩
      have hb4 : Below w2.heap.size w2 w3 := (Below.refl _ _).drew.trans hb3
      have HR3 := hid (HRU.out.on hb4)
      have HB3 := hid (HBU.out.trans (hb4.mono hsU))
      have S3 : Hid ((fun u : World => u.cell? ⟨g, zn, none⟩ = some (.string ⟨x.toArray⟩) ∧ u.cell? ⟨b1, 0, none⟩ = some (.slice (some ⟨qb, qo, none⟩) (np + 1) cp) ∧ u.cell? ⟨b2, 0, none⟩ = some (.string ⟨val.toArray⟩)) w3) := hid ⟨(hb4.cell (p := ⟨g, zn, none⟩) HGL.out.1).trans HCX.out, HP1.out w3 HB3.out, HP2.out w3 HB3.out⟩
      refine hK.out _ _ (.inr S3.out) ?_
      clear hK K hb3 hb4
      refine U_step (j := 10) (by kernel_rfl) rfl (fun K hK => ?_)
      go_simp
      refine hK.out _ _ (.inr S3.out) ?_
      clear hK K
      generalize rec x = ry at HANS ⊢
      obtain ⟨y1, y2⟩ := ry
      dsimp only at HANS ⊢
      refine U_pure 8 (i := 12) (v := .int .i64 y2) rfl (by kernel_rfl) (by kernel_rfl) (by kernel_rfl) (by kernel_rfl) (by kernel_rfl) (fun _ _ _ h => h) (.inl ⟨rfl, fun u hu => (by go_simp)⟩) ?_
      refine U_step (j := 11) (by kernel_rfl) rfl (fun K hK => ?_)
      go_simp
      refine hK.out _ _ (.inr S3.out) ?_
      clear hK K
      refine U_step (j := 13) (by kernel_rfl) rfl (fun K hK => ?_)
      go_simp
      refine hK.out _ _ (.inr S3.out) ?_
      clear hK K
      have hfz : w3.frozen? ⟨g, zn, none⟩ = false := HR3.out.frozen zn
      have hcp3 : w3.cell? ⟨g, zn, none⟩ = some (.string ⟨x.toArray⟩) := S3.out.1
      have HWR := hid (HR3.out.stored zn y1)
      have HBF := hid (HB3.out.trans (HWR.out.2.low (by have := HB3.out.size; omega) (by have := HGL.out.2; simpa using this)))
      refine U_step (j := 14) (by kernel_rfl) rfl (fun K hK => ?_)
      go_simp
      refine hK.out _ _ (.inl rfl) ?_
      clear hK K
      refine U_step (j := 15) (by kernel_rfl) rfl (fun K hK => ?_)
      go_simp
      refine hK.out _ _ (.inl rfl) ?_
      clear hK K
      refine U_done (by kernel_rfl) ?_ _
      clear hfz hcp3 S0 S3
      go_wp2
      all_goals go_ret2
      all_goals rw [HANS.out]
      all_goals exact ⟨HBF.out, _, rfl, fun _ => HWR.out.1.strs⟩
    · rw [if_neg (by omega)] at hA
      have hzm : zn < n := by omega
      have hvs : ∃ g, a = some ⟨g, 0, none⟩ := by
        obtain ⟨g, e, _, _⟩ := HR.out.at (i := 0) (by rw [← HN.out]; omega)
        exact ⟨g, e⟩
      obtain ⟨g, rfl⟩ := hvs
      have hans := hA
      obtain ⟨r, hrr⟩ : ∃ r, r = l := ⟨_, rfl⟩
      subst hrr
      have HRU := HR
      have HRM := HN
      have HXLR := HXL
      have HBU := hid (Below.refl B w)
      obtain ⟨m, hm⟩ : ∃ m, m = n := ⟨_, rfl⟩
      subst hm
      clear hA
      have hne : ((zn : Int) == (m : Int)) = false := by rw [beq_eq_false_iff_ne]; omega
      go_enter Tryz.func80, Tryz.ntmps80
      go_wp2_with fail
      (with_reducible refine HPL.out.mono ?_); rintro e w1 ⟨rfl, hw⟩; subst w1
      rw [tailV] at REC
      have hsU : B ≤ w.heap.size := by have := HBU.out.size; omega
      obtain ⟨x, hx⟩ : ∃ x, x = r.getD zn [] := ⟨_, rfl⟩
      have hzr : zn < r.length := by rw [← HRM.out]; exact hzm
      have hcx : w.cell? ⟨g, zn, none⟩ = some (.string ⟨x.toArray⟩) := by rw [hx]; exact HRU.out.getD hzr
      have hxl := HXLR.out x (by rw [hx, List.getD_eq_getElem?_getD, List.getElem?_eq_getElem hzr]; exact List.getElem_mem _)
      rw [← hx] at hans
      have S0 : Hid ((fun u : World => u.cell? ⟨g, zn, none⟩ = some (.string ⟨x.toArray⟩) ∧ u.cell? ⟨b1, 0, none⟩ = some (.slice (some ⟨qb, qo, none⟩) (np + 1) cp) ∧ u.cell? ⟨b2, 0, none⟩ = some (.string ⟨val.toArray⟩)) w.drew) := hid ⟨hcx, HP1.out w HBU.out, HP2.out w HBU.out⟩
      have HCX := hid hcx
      have hgl := (HRU.out.lt g rfl)
      have HANS := hid hans
      have HGL := hid hgl
      clear hx hzr hcx hans hgl
      go_wp2
      refine U_begin (late := fun k => k == 0 || k == 1 || k == 12 || k == 14 || k == 15) (S := fun u : World => u.cell? ⟨g, zn, none⟩ = some (.string ⟨x.toArray⟩) ∧ u.cell? ⟨b1, 0, none⟩ = some (.slice (some ⟨qb, qo, none⟩) (np + 1) cp) ∧ u.cell? ⟨b2, 0, none⟩ = some (.string ⟨val.toArray⟩)) hmx ?_
      refine U_pure 8 (i := 0) (v := .slice (some ⟨g, 0, none⟩) m c) rfl (by kernel_rfl) (by kernel_rfl) (by kernel_rfl) (by kernel_rfl) (by kernel_rfl) (fun _ _ _ h => h) (.inl ⟨rfl, fun u hu => (by go_simp)⟩) ?_
      refine U_pure 8 (i := 1) (v := .int .i64 (zn : Nat)) rfl (by kernel_rfl) (by kernel_rfl) (by kernel_rfl) (by kernel_rfl) (by kernel_rfl) (fun _ _ _ h => h) (.inl ⟨rfl, fun u hu => (by go_simp)⟩) ?_
      refine U_take3 8 (i := 2) (v := .slice (some ⟨g, 0, none⟩) m c) rfl (by kernel_rfl) (by kernel_rfl) (by kernel_rfl) (by kernel_rfl) (by kernel_rfl) (fun _ _ _ h => h) (.inl ⟨rfl, fun u hu => (by go_simp)⟩) S0.out ?_
      refine U_take3 8 (i := 3) (v := .int .i64 (zn : Nat)) rfl (by kernel_rfl) (by kernel_rfl) (by kernel_rfl) (by kernel_rfl) (by kernel_rfl) (fun _ _ _ h => h) (.inl ⟨rfl, fun u hu => (by go_simp)⟩) S0.out ?_
      refine U_take3 8 (i := 4) (v := .pointer (some ⟨g, zn, none⟩)) rfl (by kernel_rfl) (by kernel_rfl) (by kernel_rfl) (by kernel_rfl) (by kernel_rfl) (fun _ _ _ h => h) (.inl ⟨rfl, fun u hu => (by go_simp)⟩) S0.out ?_
      refine U_take3 8 (i := 5) (v := .string ⟨x.toArray⟩) rfl (by kernel_rfl) (by kernel_rfl) (by kernel_rfl) (by kernel_rfl) (by kernel_rfl) (fun _ _ _ h => h) (.inl ⟨rfl, fun u hu => (by obtain ⟨h1, h2, h3⟩ := hu; go_simp)⟩) S0.out ?_
      refine U_take3 8 (i := 6) (v := .slice (some ⟨qb, qo, none⟩) (np + 1) cp) rfl (by kernel_rfl) (by kernel_rfl) (by kernel_rfl) (by kernel_rfl) (by kernel_rfl) (fun _ _ _ h => h) (.inl ⟨rfl, fun u hu => (by obtain ⟨h1, h2, h3⟩ := hu; go_simp)⟩) S0.out ?_
      refine U_take3 8 (i := 7) (v := .slice (if cp = 1 then some ⟨qb, qo, none⟩ else some ⟨qb, qo + 1, none⟩) np (cp - 1)) rfl (by kernel_rfl) (by kernel_rfl) (by kernel_rfl) (by kernel_rfl) (by kernel_rfl) (fun _ _ _ h => h) (.inl ⟨rfl, fun u hu => (by go_simp; intro h9; omega)⟩) S0.out ?_
      refine U_take3 8 (i := 8) (v := .string ⟨val.toArray⟩) rfl (by kernel_rfl) (by kernel_rfl) (by kernel_rfl) (by kernel_rfl) (by kernel_rfl) (fun _ _ _ h => h) (.inl ⟨rfl, fun u hu => (by obtain ⟨h1, h2, h3⟩ := hu; go_simp)⟩) S0.out ?_
      refine U_step (j := 9) (by kernel_rfl) rfl (fun K hK => ?_)
      go_simp
      (with_reducible refine (REC.out w.drew HBU.out.drew x hxl).mono ?_); rintro e w3 ⟨rfl, hb3⟩
      have hb4 : Below w.heap.size w w3 := (Below.refl _ _).drew.trans hb3
      have HR3 := hid (HRU.out.on hb4)
      have HB3 := hid (HBU.out.trans (hb4.mono hsU))
      have S3 : Hid ((fun u : World => u.cell? ⟨g, zn, none⟩ = some (.string ⟨x.toArray⟩) ∧ u.cell? ⟨b1, 0, none⟩ = some (.slice (some ⟨qb, qo, none⟩) (np + 1) cp) ∧ u.cell? ⟨b2, 0, none⟩ = some (.string ⟨val.toArray⟩)) w3) := hid ⟨(hb4.cell (p := ⟨g, zn, none⟩) HGL.out.1).trans HCX.out, HP1.out w3 HB3.out, HP2.out w3 HB3.out⟩
      refine hK.out _ _ (.inr S3.out) ?_
      clear hK K hb3 hb4
      refine U_step (j := 10) (by kernel_rfl) rfl (fun K hK => ?_)
      go_simp
      refine hK.out _ _ (.inr S3.out) ?_
      clear hK K
      generalize rec x = ry at HANS ⊢
      obtain ⟨y1, y2⟩ := ry
      dsimp only at HANS ⊢
      refine U_pure 8 (i := 12) (v := .int .i64 y2) rfl (by kernel_rfl) (by kernel_rfl) (by kernel_rfl) (by kernel_rfl) (by kernel_rfl) (fun _ _ _ h => h) (.inl ⟨rfl, fun u hu => (by go_simp)⟩) ?_
      refine U_step (j := 11) (by kernel_rfl) rfl (fun K hK => ?_)
      go_simp
      refine hK.out _ _ (.inr S3.out) ?_
      clear hK K
      refine U_step (j := 13) (by kernel_rfl) rfl (fun K hK => ?_)
      go_simp
      refine hK.out _ _ (.inr S3.out) ?_
      clear hK K
      have hfz : w3.frozen? ⟨g, zn, none⟩ = false := HR3.out.frozen zn
      have hcp3 : w3.cell? ⟨g, zn, none⟩ = some (.string ⟨x.toArray⟩) := S3.out.1
      have HWR := hid (HR3.out.stored zn y1)
      have HBF := hid (HB3.out.trans (HWR.out.2.low (by have := HB3.out.size; omega) (by have := HGL.out.2; simpa using this)))
      refine U_step (j := 14) (by kernel_rfl) rfl (fun K hK => ?_)
      go_simp
      refine hK.out _ _ (.inl rfl) ?_
      clear hK K
      refine U_step (j := 15) (by kernel_rfl) rfl (fun K hK => ?_)
      go_simp
      refine hK.out _ _ (.inl rfl) ?_
      clear hK K
      refine U_done (by kernel_rfl) ?_ _
      clear hfz hcp3 S0 S3
      go_wp2
      all_goals go_ret2
      all_goals rw [HANS.out]
      all_goals exact ⟨HBF.out, _, rfl, fun _ => HWR.out.1.strs⟩
end Go.Proofs.YtheiageokcgbhaaGreatDoor.Pz
/-
  list.Set of the program.
-/
namespace Go.Proofs.YtheiageokcgbhaaGreatDoor.Pz
open Go.RowKit
/-- the list with another value at a path -/
def setE : List Str → Str → Str → Str × Int
  | [], _, val => (val, 0)
  | p :: ps, s, val =>
    if (p :: ps).any (fun x => (placeE x 0).isNone) then ([], 2)
    else chE s (setIn (splitE s).1 p (fun x => setE ps x val)).1 (setIn (splitE s).1 p (fun x => setE ps x val)).2
theorem strs_tail {w : World} {qb qo np cp : Nat} {p : Str} {ps : List Str} (h : StrsAt w (.slice (some ⟨qb, qo, none⟩) (np + 1) cp) (p :: ps)) : StrsAt w (tailV qb qo np cp) ps := by
  obtain ⟨a, cap, e, hcap, hcell⟩ := h
  simp only [Value.slice.injEq, List.length_cons, Nat.add_right_cancel_iff] at e
  obtain ⟨rfl, rfl, rfl⟩ := e
  rw [List.length_cons] at hcap
  unfold tailV
  by_cases h1 : cp = 1
  · subst h1
    obtain rfl : ps = [] := List.eq_nil_of_length_eq_zero (by omega)
    exact strs_none
  · rw [if_neg h1]
    refine ⟨_, _, rfl, by omega, fun i hi => ⟨_, rfl, ?_⟩⟩
    obtain ⟨q, hq, hb, hc⟩ := hcell (i + 1) (by rw [List.length_cons]; omega)
    have hq := Option.some.inj hq
    subst hq
    refine ⟨hb, ?_⟩
    rw [add_none] at hc ⊢
    rw [show qo + 1 + i = qo + (i + 1) by omega, hc]
    rfl
theorem setIn_len (l : List Str) (p : Str) (rec : Str → Str × Int) : (setIn l p rec).1.length ≤ l.length + 1 := by
  unfold setIn
  split
  · simp
  · split
    · simp
    · rw [List.length_set]
      split <;> simp
set_option maxRecDepth 100000 in
set_option maxHeartbeats 2000000 in
theorem setP_fn : ∀ (path : List Str) (s val : Str) (v : Value) (w : World), ML w → StrsAt w v path → s.length ≤ 1000000 → (∀ x ∈ path, x.length ≤ 1000000) → path.length ≤ 1000000 →
    Calls Tryz.prog 39 #[.string ⟨s.toArray⟩, v, .string ⟨val.toArray⟩] w fun e w' => e = .returned (.tuple #[.string ⟨(setE path s val).1.toArray⟩, .int .i64 (setE path s val).2]) ∧ Below w.heap.size w w' := by
  intro path
  induction path with
  | nil =>
    intro s val v w hml hv hs hp hl
    obtain ⟨a, cap, rfl, _, _⟩ := hv
    obtain ⟨W, hW, hbW, hg1, hg2, hsz⟩ := boxes2 w (.slice a 0 cap) (.string ⟨val.toArray⟩) 24 9
    have hc1 : W.cell? ⟨w.heap.size, 0, none⟩ = some (.slice a 0 cap) := by rw [Lib.cell_of_heap hg1]; rfl
    have hc2 : W.cell? ⟨w.heap.size + 1, 0, none⟩ = some (.string ⟨val.toArray⟩) := by rw [Lib.cell_of_heap hg2]; rfl
    have HW := hid hW
    have HBW := hid hbW
    clear hg1 hg2 hW hbW hml
    show Calls Tryz.prog 39 #[.string ⟨s.toArray⟩, .slice a 0 cap, .string ⟨val.toArray⟩] w fun e w' => e = .returned (.tuple #[.string ⟨val.toArray⟩, .int .i64 0]) ∧ Below w.heap.size w w'
    go_enter Tryz.func39, Tryz.ntmps39
    go_wp2
    rw [← HW.out]
    go_ret2
    exact ⟨rfl, HBW.out⟩
  | cons p ps ih =>
    intro s val v w hml hv hs hp hl
    have hv0 := hv
    obtain ⟨a, cap, rfl, hcap, hcell⟩ := hv
    obtain ⟨q, rfl, hqb, hqc⟩ := hcell 0 (by simp)
    have hspot := World.cell?_spot hqc
    obtain ⟨qb, qo, spot⟩ := q
    obtain rfl : spot = none := by simpa [Addr.add] using hspot
    obtain ⟨W, hW, hbW, hg1, hg2, hsz⟩ := boxes2 w (.slice (some ⟨qb, qo, none⟩) (p :: ps).length cap) (.string ⟨val.toArray⟩) 24 9
    have hc1 : W.cell? ⟨w.heap.size, 0, none⟩ = some (.slice (some ⟨qb, qo, none⟩) (p :: ps).length cap) := by rw [Lib.cell_of_heap hg1]; rfl
    have HPC := hid (fun (x : Str) (h : x.length ≤ 1000000) u => place_fn x 0 h (by omega) u)
    have HVW := hid (hv0.below hbW)
    have HCW := hid (fun i (h : i < (p :: ps).length) => (show W.cell? ⟨qb, qo + i, none⟩ = some (.string ⟨(p :: ps)[i].toArray⟩) by
      obtain ⟨q, hq, hb, hc⟩ := hcell i h
      have hq := Option.some.inj hq
      subst hq
      rw [add_none] at hc
      rw [hbW.cell (p := ⟨qb, qo + i, none⟩) hqb]
      exact hc))
    have HPL := hid (fun i (h : i < (p :: ps).length) => hp (p :: ps)[i] (List.getElem_mem h))
    have eg : ∀ args w, (callFunc 80 args).run Tryz.prog w = .ok (.enter 80 args) w := enters_of Tryz.func80 (by kernel_rfl) rfl
    have hlen := (splitE_out s).2.1
    have hall := split_all2 s hs
    have HC := hid (changed2_fn 80 (.pointer (some ⟨w.heap.size, 0, none⟩)) (.pointer (some ⟨w.heap.size + 1, 0, none⟩)) eg s hs W (hml.below hbW)
      (setIn (splitE s).1 p (fun x => setE ps x val)).1 (setIn (splitE s).1 p (fun x => setE ps x val)).2 (by have := setIn_len (splitE s).1 p (fun x => setE ps x val); omega)
      (fun _ u v hb hr => by
        have hbu : Below w.heap.size w u := hbW.trans (hb.mono hbW.size)
        refine (set1_fn (b1 := w.heap.size) (b2 := w.heap.size + 1) W.heap.size p ps.length cap qb qo val (fun x => setE ps x val) (splitE s).1 v u hr hb.size hlen (hp p (by simp)) hall (by rw [List.length_cons] at hcap; exact hcap)
          (fun u' hb' => by rw [(hb.trans hb').cell (p := ⟨w.heap.size, 0, none⟩) (by show w.heap.size < _; omega), Lib.cell_of_heap hg1]; rfl)
          (fun u' hb' => by rw [(hb.trans hb').cell (p := ⟨w.heap.size + 1, 0, none⟩) (by show w.heap.size + 1 < _; omega), Lib.cell_of_heap hg2]; rfl)
          (by rw [hbu.cell (p := ⟨qb, qo, none⟩) hqb]; rw [add_none] at hqc; exact hqc)
          (fun u' hb' x hx => by
            have hbu' : Below w.heap.size w u' := hbu.trans (hb'.mono hbW.size)
            exact ih x val _ u' (hml.below hbu') (strs_tail (hv0.below hbu')) hx (fun y hy => hp y (by simp [hy])) (by rw [List.length_cons] at hl; omega))).mono fun e u' ⟨h1, h2⟩ => ⟨hb.trans h1, h2⟩))
    obtain ⟨R, hR⟩ : ∃ R, R = setE (p :: ps) s val := ⟨_, rfl⟩
    rw [← hR]
    rw [setE] at hR
    have hbad : ∀ i (h : i < (p :: ps).length), placeE (p :: ps)[i] 0 = none → R = ([], 2) := by
      intro i h hn
      rw [hR, if_pos]
      rw [List.any_eq_true]
      exact ⟨_, List.getElem_mem h, by rw [hn]; rfl⟩
    have hgood : (∀ i (h : i < (p :: ps).length), placeE (p :: ps)[i] 0 ≠ none) → R = chE s (setIn (splitE s).1 p (fun x => setE ps x val)).1 (setIn (splitE s).1 p (fun x => setE ps x val)).2 := by
      intro h
      rw [hR, if_neg]
      rw [List.any_eq_true]
      rintro ⟨x, hx, hn⟩
      obtain ⟨i, hi, rfl⟩ := List.getElem_of_mem hx
      exact h i hi (by simpa using hn)
    have HBAD := hid hbad
    have HGOOD := hid hgood
    generalize chE s (setIn (splitE s).1 p (fun x => setE ps x val)).1 (setIn (splitE s).1 p (fun x => setE ps x val)).2 = CH at HC HGOOD
    obtain ⟨r1, r2⟩ := R
    dsimp only
    have HW := hid hW
    have HBW := hid hbW
    generalize hpath : p :: ps = path at HVW HCW HPL HBAD HGOOD hcap hc1 hl HW
    have hn0 : path.length ≠ 0 := by rw [← hpath]; simp
    obtain ⟨n, hn⟩ : ∃ n, n = path.length := ⟨_, rfl⟩
    have HN := hid hn
    rw [← hn] at hc1 hn0 hcap hl HW ⊢
    clear hg1 hg2 hW hbW hml hR hbad hgood hcell hqc hqb hv0 hp hall hlen eg hpath hn ih
    go_enter Tryz.func39, Tryz.ntmps39
    go_wp2_with fail
    rw [← HW.out]
    go_wp2_with fail
    go_loopg [18] n (fun k iv wr => ∃ i : Nat, iv = .int .i64 (i : Nat) ∧ i ≤ n ∧ (∀ j (h : j < path.length), j < i → placeE path[j] 0 ≠ none) ∧ wr = W ∧ k = n - i)
    case atStart => exact ⟨0, rfl, Nat.zero_le _, fun j h hj => absurd hj (Nat.not_lt_zero _), rfl, by simp⟩
    case round =>
      obtain ⟨i, rfl, hi, hok, hw, rfl⟩ := hrel
      replace hw := hw.symm
      subst hw
      rcases Nat.lt_or_ge i n with hlt | hge
      · have hlt' : i < path.length := by rw [← HN.out]; exact hlt
        have hcw := HCW.out i hlt'
        have hxl := HPL.out i hlt'
        have hz0 : i = 0 → W.cell? ⟨qb, qo, none⟩ = some (.string ⟨path[i].toArray⟩) := by
          intro h0
          subst h0
          exact hcw
        have hbd := HBAD.out i hlt'
        have hnx : placeE path[i] 0 ≠ none → ∀ j (h : j < path.length), j < i + 1 → placeE path[j] 0 ≠ none := by
          intro h j hj hji
          rcases Nat.lt_or_ge j i with h2 | h2
          · exact hok j hj h2
          · obtain rfl : j = i := by omega
            exact h
        generalize path[i] = x at hcw hxl hz0 hbd hnx
        have HP := HPC.out x hxl W
        simp only [Int.natCast_zero] at HP
        cases hpe : placeE x 0 with
        | none =>
          rw [hpe] at HP
          have HP2 := hid HP
          have HRR := hid (hbd hpe)
          clear hok hbd hnx hpe HP
          by_cases h0 : i = 0
          · subst h0
            replace hcw := hz0 rfl
            clear hz0
            go_wp2_with fail
            (with_reducible refine HP2.out.mono ?_); rintro e w1 ⟨rfl, hw⟩; subst w1
            simp only [plAns]
            go_wp2
            go_ret2
            exact ⟨by obtain ⟨e1, e2⟩ := Prod.mk.inj HRR.out; rw [e1, e2] <;> rfl, HBW.out⟩
          · clear hz0
            go_wp2_with fail
            (with_reducible refine HP2.out.mono ?_); rintro e w1 ⟨rfl, hw⟩; subst w1
            simp only [plAns]
            go_wp2
            go_ret2
            exact ⟨by obtain ⟨e1, e2⟩ := Prod.mk.inj HRR.out; rw [e1, e2] <;> rfl, HBW.out⟩
        | some z =>
          rw [hpe] at HP
          have HP2 := hid HP
          have HNX := hid (hnx (by rw [hpe]; simp))
          clear hok hbd hnx hpe HP
          by_cases h0 : i = 0
          · subst h0
            replace hcw := hz0 rfl
            clear hz0
            go_wp2_with fail
            (with_reducible refine HP2.out.mono ?_); rintro e w1 ⟨rfl, hw⟩; subst w1
            simp only [plAns]
            go_wp2
            go_roundg (n - (0 + 1))
            case measure => omega
            case rel => exact ⟨0 + 1, by go_num, by omega, HNX.out, rfl, rfl⟩
          · clear hz0
            go_wp2_with fail
            (with_reducible refine HP2.out.mono ?_); rintro e w1 ⟨rfl, hw⟩; subst w1
            simp only [plAns]
            go_wp2
            go_roundg (n - (i + 1))
            case measure => omega
            case rel => exact ⟨i + 1, by go_num, by omega, HNX.out, rfl, rfl⟩
      · obtain rfl : i = n := by omega
        have HRR := hid (HGOOD.out fun j h => hok j h (by rw [← HN.out] at h; exact h))
        obtain ⟨ch1, ch2⟩ := CH
        dsimp only at HC
        clear hok
        go_wp2_with fail
        (with_reducible refine HC.out.mono ?_); rintro e w1 ⟨rfl, hb1⟩
        have HB1 := hid (HBW.out.trans (hb1.mono HBW.out.size))
        clear hb1
        go_wp2
        go_ret2
        exact ⟨by obtain ⟨e1, e2⟩ := Prod.mk.inj HRR.out; rw [e1, e2] <;> rfl, HB1.out⟩
end Go.Proofs.YtheiageokcgbhaaGreatDoor.Pz
