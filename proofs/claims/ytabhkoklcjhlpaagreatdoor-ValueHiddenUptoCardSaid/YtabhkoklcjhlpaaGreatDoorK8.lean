/-
  Part K8 of the proofs of this seat: contracts of functions and plain facts, merged from 16 texts.
-/
import Derived.BigQuiet
import Derived.Test.YtabhkoklcjhlpaaGreatDoorK0
import Derived.Test.YtabhkoklcjhlpaaGreatDoorK1
import Derived.Test.YtabhkoklcjhlpaaGreatDoorK2
import Derived.Test.YtabhkoklcjhlpaaGreatDoorK3
import Derived.Test.YtabhkoklcjhlpaaGreatDoorK4
import Derived.Test.YtabhkoklcjhlpaaGreatDoorK5
import Derived.Test.YtabhkoklcjhlpaaGreatDoorK6
import Derived.Test.YtabhkoklcjhlpaaGreatDoorK7
/- PRUNED -/
/-
  The operations: Div, Base.
-/
namespace Go.Proofs.YtabhkoklcjhlpaaGreatDoor
open Go.RowKit
theorem fmod_abs (a b : Int) (hb : b ≠ 0) : (a.fmod b).natAbs ≤ b.natAbs := by
  obtain ⟨h1, h2⟩ := fdiv_sizes a b hb
  have hlt : a.natAbs % b.natAbs < b.natAbs := Nat.mod_lt _ (by omega)
  by_cases hc : 0 < a.natAbs % b.natAbs ∧ (!(decide (a < 0) == decide (b < 0))) = true
  · rw [(h1 hc.1 hc.2).2]
    have h3 := hc.2
    generalize a.natAbs % b.natAbs = R at *
    by_cases ha : a < 0
    · by_cases hb2 : b < 0
      · rw [decide_eq_true ha, decide_eq_true hb2] at h3; cases h3
      · rw [decide_eq_true ha]; unfold sgnInt; rw [if_pos rfl]; omega
    · by_cases hb2 : b < 0
      · rw [decide_eq_false ha]; unfold sgnInt; rw [if_neg (by decide)]; omega
      · rw [decide_eq_false ha, decide_eq_false hb2] at h3; cases h3
  · rw [(h2 (by
      by_cases h0 : 0 < a.natAbs % b.natAbs
      · right
        cases hh : (!(decide (a < 0) == decide (b < 0)))
        · rfl
        · exact absurd ⟨h0, hh⟩ hc
      · left; omega)).2, sgnInt_abs]
    omega
/-- Div's error that comes first -/
def divPe (b : List UInt8) : Int := if pVal b = 0 then 10 else 0
def quoRes (a b : List UInt8) : List UInt8 × Int := twoRes a b (divPe b) ((pVal a).fdiv (pVal b))
def remRes (a b : List UInt8) : List UInt8 × Int := twoRes a b (divPe b) ((pVal a).fmod (pVal b))
/-- what 'Div' answers -/
def divVal (a b : List UInt8) : Value := if (quoRes a b).2 = 0 then .tuple #[.string ⟨(quoRes a b).1.toArray⟩, .string ⟨(remRes a b).1.toArray⟩, .int .i64 (remRes a b).2] else .tuple #[.string ⟨#[]⟩, .string ⟨#[]⟩, .int .i64 (quoRes a b).2]
end Go.Proofs.YtabhkoklcjhlpaaGreatDoor
/- PRUNED -/
/-
  The operation Base.
-/
namespace Go.Proofs.YtabhkoklcjhlpaaGreatDoor
open Go.RowKit
/-- what 'Base' answers -/
def baseRes (a : List UInt8) (B : Int) : List UInt8 × Int :=
  if pOK a = true then if B < 2 ∨ 36 < B then ([], 7) else if big600 ≤ (pVal a).natAbs then ([], 4) else (numText B.toNat (pVal a).natAbs (decide (pVal a < 0)), 0) else ([], 2)
end Go.Proofs.YtabhkoklcjhlpaaGreatDoor
/-
  The reference: texts.
-/
namespace Go.Proofs.YtabhkoklcjhlpaaGreatDoor
open Go.RowKit
theorem within_fn (n lo hi : Int) (w : World) : Calls Tryz.prog 119 #[.int .i64 n, .int .i64 lo, .int .i64 hi] w fun e w' => e = .returned (.bool (decide (lo ≤ n) && decide (n ≤ hi))) ∧ w' = w := by
  by_cases h1 : lo ≤ n
  · have HE := hid (show (decide (lo ≤ n) && decide (n ≤ hi)) = decide (n ≤ hi) by rw [decide_eq_true h1]; rfl)
    go_enter Tryz.func119, Tryz.ntmps119
    go_wp2
    go_ret
    exact ⟨by rw [HE.out]; rfl, rfl⟩
  · have HE := hid (show (decide (lo ≤ n) && decide (n ≤ hi)) = false by rw [decide_eq_false h1]; rfl)
    go_enter Tryz.func119, Tryz.ntmps119
    go_wp2
    go_ret
    exact ⟨by rw [HE.out]; rfl, rfl⟩
/-- a letter made small -/
def smallN (x : Nat) : Nat := if 65 ≤ x ∧ x ≤ 90 then x + 32 else x
theorem small_fn (x : Nat) (hx : x < 256) (w : World) : Calls Tryz.prog 167 #[.int .u8 x] w fun e w' => e = .returned (.int .u8 (smallN x)) ∧ w' = w := by
  have hc := hid (within_fn x 65 90 w)
  by_cases h : 65 ≤ x ∧ x ≤ 90
  · have HE := hid (show smallN x = x + 32 by unfold smallN; rw [if_pos h])
    have hb : (decide ((65 : Int) ≤ (x : Int)) && decide ((x : Int) ≤ 90)) = true := by
      rw [decide_eq_true (by omega), decide_eq_true (by omega)]; rfl
    rw [hb] at hc
    have hc := hid hc.out
    obtain ⟨g1, g2⟩ := h
    go_enter Tryz.func167, Tryz.ntmps167
    go_wp2_with fail
    (with_reducible refine hc.out.mono ?_); rintro e w' ⟨rfl, rfl⟩
    go_wp2
    go_ret
    exact ⟨by rw [HE.out]; rfl, rfl⟩
  · have HE := hid (show smallN x = x by unfold smallN; rw [if_neg h])
    have hb : (decide ((65 : Int) ≤ (x : Int)) && decide ((x : Int) ≤ 90)) = false := by
      by_cases h1 : 65 ≤ x
      · rw [decide_eq_false (show ¬ (x : Int) ≤ 90 by omega), Bool.and_false]
      · rw [decide_eq_false (show ¬ (65 : Int) ≤ (x : Int) by omega), Bool.false_and]
    rw [hb] at hc
    have hc := hid hc.out
    clear h
    go_enter Tryz.func167, Tryz.ntmps167
    go_wp2_with fail
    (with_reducible refine hc.out.mono ?_); rintro e w' ⟨rfl, rfl⟩
    go_wp2
    go_ret
    exact ⟨by rw [HE.out]; rfl, rfl⟩
/-- a digit's value to a base, or -1 -/
def digR (c : UInt8) (b : Nat) : Int := if valOf c < b then (valOf c : Int) else -1
theorem digit_fn (c : UInt8) (b : Nat) (hb : b ≤ 36) (hb2 : 2 ≤ b) (w : World) : Calls Tryz.prog 148 #[.int .u8 c.toNat, .int .i64 b] w fun e w' => e = .returned (.int .i64 (digR c b)) ∧ w' = w := by
  have hw : valOf c = if 48 ≤ c.toNat ∧ c.toNat ≤ 57 then c.toNat - 48
    else if 97 ≤ c.toNat ∧ c.toNat ≤ 122 then c.toNat - 97 + 10
    else if 65 ≤ c.toNat ∧ c.toNat ≤ 90 then c.toNat - 65 + 10
    else 36 := rfl
  have hd : digR c b = if valOf c < b then (valOf c : Int) else -1 := rfl
  have hl : c.toNat < 256 := c.toNat_lt
  generalize digR c b = R at hd ⊢
  generalize valOf c = V at hw hd
  generalize c.toNat = x at hl hw ⊢
  have hc1 := hid (within_fn x 48 57 w)
  have hsm := hid (small_fn x hl w)
  have hc2 := hid (within_fn (smallN x) 97 122 w)
  have hsl : smallN x = if 65 ≤ x ∧ x ≤ 90 then x + 32 else x := rfl
  generalize smallN x = y at hsm hc2 hsl
  have hy : y < 256 := by rw [hsl]; split <;> omega
  by_cases h1 : 48 ≤ x ∧ x ≤ 57
  · have hb1 : (decide ((48 : Int) ≤ (x : Int)) && decide ((x : Int) ≤ 57)) = true := by
      rw [decide_eq_true (by omega), decide_eq_true (by omega)]; rfl
    rw [hb1] at hc1
    have hc1 := hid hc1.out
    rw [if_pos h1] at hw
    obtain ⟨g1, g2⟩ := h1
    clear hc2 hsm hsl hy
    by_cases hlt : V < b
    · have HE := hid (show R = (x : Int) - 48 by rw [hd, if_pos hlt]; omega)
      have hlt' : (x : Int) - 48 < (b : Int) := by omega
      clear hd hw
      go_enter Tryz.func148, Tryz.ntmps148
      go_wp2_with fail
      (with_reducible refine hc1.out.mono ?_); rintro e w' ⟨rfl, rfl⟩
      go_wp2
      go_ret
      exact ⟨by rw [HE.out]; rfl, rfl⟩
    · have HE := hid (show R = -1 by rw [hd, if_neg hlt])
      have hlt' : ¬ (x : Int) - 48 < (b : Int) := by omega
      clear hd hw
      go_enter Tryz.func148, Tryz.ntmps148
      go_wp2_with fail
      (with_reducible refine hc1.out.mono ?_); rintro e w' ⟨rfl, rfl⟩
      go_wp2
      go_ret
      exact ⟨by rw [HE.out]; rfl, rfl⟩
  · have hb1 : (decide ((48 : Int) ≤ (x : Int)) && decide ((x : Int) ≤ 57)) = false := by
      by_cases h2 : 48 ≤ x
      · rw [decide_eq_false (show ¬ (x : Int) ≤ 57 by omega), Bool.and_false]
      · rw [decide_eq_false (show ¬ (48 : Int) ≤ (x : Int) by omega), Bool.false_and]
    rw [hb1] at hc1
    have hc1 := hid hc1.out
    rw [if_neg h1] at hw
    by_cases h2 : 97 ≤ y ∧ y ≤ 122
    · have hb2 : (decide ((97 : Int) ≤ (y : Int)) && decide ((y : Int) ≤ 122)) = true := by
        rw [decide_eq_true (by omega), decide_eq_true (by omega)]; rfl
      rw [hb2] at hc2
      have hc2 := hid hc2.out
      have hV : V = y - 97 + 10 := by
        rw [hw]
        by_cases h3 : 65 ≤ x ∧ x ≤ 90
        · rw [if_pos h3] at hsl; rw [if_neg (by omega), if_pos h3]; omega
        · rw [if_neg h3] at hsl; rw [hsl] at h2; rw [if_pos h2]; omega
      obtain ⟨g1, g2⟩ := h2
      clear h1 hsl hw
      by_cases hlt : V < b
      · have HE := hid (show R = (y : Int) - 97 + 10 by rw [hd, if_pos hlt]; omega)
        have hlt' : (y : Int) - 97 + 10 < (b : Int) := by omega
        clear hd hV
        go_enter Tryz.func148, Tryz.ntmps148
        go_wp2_with fail
        (with_reducible refine hc1.out.mono ?_); rintro e w' ⟨rfl, rfl⟩
        go_wp2_with fail
        (with_reducible refine hsm.out.mono ?_); rintro e w' ⟨rfl, rfl⟩
        go_wp2_with fail
        (with_reducible refine hc2.out.mono ?_); rintro e w' ⟨rfl, rfl⟩
        go_wp2_with fail
        (with_reducible refine hsm.out.mono ?_); rintro e w' ⟨rfl, rfl⟩
        go_wp2
        go_ret
        exact ⟨by rw [HE.out]; rfl, rfl⟩
      · have HE := hid (show R = -1 by rw [hd, if_neg hlt])
        have hlt' : ¬ (y : Int) - 97 + 10 < (b : Int) := by omega
        clear hd hV
        go_enter Tryz.func148, Tryz.ntmps148
        go_wp2_with fail
        (with_reducible refine hc1.out.mono ?_); rintro e w' ⟨rfl, rfl⟩
        go_wp2_with fail
        (with_reducible refine hsm.out.mono ?_); rintro e w' ⟨rfl, rfl⟩
        go_wp2_with fail
        (with_reducible refine hc2.out.mono ?_); rintro e w' ⟨rfl, rfl⟩
        go_wp2_with fail
        (with_reducible refine hsm.out.mono ?_); rintro e w' ⟨rfl, rfl⟩
        go_wp2
        go_ret
        exact ⟨by rw [HE.out]; rfl, rfl⟩
    · have hb2 : (decide ((97 : Int) ≤ (y : Int)) && decide ((y : Int) ≤ 122)) = false := by
        by_cases h3 : 97 ≤ y
        · rw [decide_eq_false (show ¬ (y : Int) ≤ 122 by omega), Bool.and_false]
        · rw [decide_eq_false (show ¬ (97 : Int) ≤ (y : Int) by omega), Bool.false_and]
      rw [hb2] at hc2
      have hc2 := hid hc2.out
      have hV : V = 36 := by
        rw [hw]
        by_cases h3 : 65 ≤ x ∧ x ≤ 90
        · rw [if_pos h3] at hsl; omega
        · rw [if_neg h3] at hsl; rw [hsl] at h2; rw [if_neg h2, if_neg h3]
      have HE := hid (show R = -1 by rw [hd, if_neg (by omega)])
      clear h1 hsl hw h2 hd hV
      go_enter Tryz.func148, Tryz.ntmps148
      go_wp2_with fail
      (with_reducible refine hc1.out.mono ?_); rintro e w' ⟨rfl, rfl⟩
      go_wp2_with fail
      (with_reducible refine hsm.out.mono ?_); rintro e w' ⟨rfl, rfl⟩
      go_wp2_with fail
      (with_reducible refine hc2.out.mono ?_); rintro e w' ⟨rfl, rfl⟩
      go_wp2
      go_ret
      exact ⟨by rw [HE.out]; rfl, rfl⟩
theorem digitR_fn (c : UInt8) (b : Nat) (hb : b ≤ 36) (hb2 : 2 ≤ b) (w : World) : Calls Tryz.prog 139 #[.int .u8 c.toNat, .int .i64 b] w fun e w' => e = .returned (.int .i64 (digR c b)) ∧ w' = w := by
  have hc := hid (digit_fn c b hb hb2 w)
  go_enter Tryz.func139, Tryz.ntmps139
  go_wp2_with fail
  (with_reducible refine hc.out.mono ?_); rintro e w' ⟨rfl, rfl⟩
  go_wp2
  go_ret
  exact ⟨rfl, rfl⟩
theorem has_fn (l : List UInt8) (hl : l.length ≤ 1000000000) (c : UInt8) (w : World) : Calls Tryz.prog 163 #[.string ⟨l.toArray⟩, .int .u8 c.toNat] w fun e w' => e = .returned (.bool (l.contains c)) ∧ w' = w := by
  have hsz : (⟨l.toArray⟩ : ByteArray).size = l.length := Lib.size_mk _
  generalize hR : l.contains c = R
  have HR := hid hR
  clear hR
  go_enter Tryz.func163, Tryz.ntmps163
  go_wp2
  go_loop [8] (fun iv => ∃ i : Nat, iv = .int .i64 i ∧ i ≤ l.length ∧ (l.take i).contains c = false) (fun iv => l.length - (intOf iv).toNat)
  case atStart => exact ⟨0, rfl, Nat.zero_le _, rfl⟩
  case round =>
    obtain ⟨i, rfl, hi, hn⟩ := hrel
    have HN := hid hn
    clear hn
    by_cases hlt : i < l.length
    · have hx : ∀ h, (⟨l.toArray⟩ : ByteArray)[i]'h = l[i]'hlt := fun h => rfl
      by_cases hc : l[i]'hlt = c
      · have hE : (((l[i]'hlt).toNat : Nat) : Int) = ((c.toNat : Nat) : Int) := by rw [hc]
        have HC := hid (show R = true by rw [← HR.out, List.contains_iff_mem]; rw [← hc]; exact List.getElem_mem hlt)
        go_wp2
        go_ret
        exact ⟨by rw [HC.out]; rfl, rfl⟩
      · have hne : ((((l[i]'hlt).toNat : Nat) : Int) == ((c.toNat : Nat) : Int)) = false := by
          have : (l[i]'hlt).toNat ≠ c.toNat := fun e => hc (UInt8.toNat_inj.1 e)
          rw [beq_eq_false_iff_ne]; omega
        go_wp2
        refine ⟨⟨i + 1, by go_num, by omega, ?_⟩, ?_⟩
        · rw [List.take_add_one, List.getElem?_eq_getElem hlt]
          have h1 := HN.out
          rw [List.contains_eq_mem, decide_eq_false_iff_not] at h1 ⊢
          intro hm
          rcases List.mem_append.1 hm with h | h
          · exact h1 h
          · exact hc (List.mem_singleton.1 h).symm
        · simp [intOf] <;> omega
    · obtain rfl : i = l.length := by omega
      have HC := hid (show R = false by have := HN.out; rw [List.take_length] at this; rw [← HR.out]; exact this)
      go_wp2
      go_ret
      exact ⟨by rw [HC.out]; rfl, rfl⟩
theorem white_has (c : UInt8) : ([9, 10, 11, 12, 13, 32] : List UInt8).contains c = isWh c := by
  have key : ∀ k : UInt8, (c = k) ↔ c.toNat = k.toNat := fun k => ⟨fun h => by rw [h], fun h => UInt8.toNat_inj.1 h⟩
  unfold isWh
  rw [List.contains_eq_mem, Bool.eq_iff_iff]
  simp only [decide_eq_true_eq, Bool.or_eq_true, Bool.and_eq_true, List.mem_cons, List.not_mem_nil, or_false, key]
  have e1 : (9 : UInt8).toNat = 9 := rfl
  have e2 : (10 : UInt8).toNat = 10 := rfl
  have e3 : (11 : UInt8).toNat = 11 := rfl
  have e4 : (12 : UInt8).toNat = 12 := rfl
  have e5 : (13 : UInt8).toNat = 13 := rfl
  have e6 : (32 : UInt8).toNat = 32 := rfl
  omega
theorem has_white (c : UInt8) (w : World) : Calls Tryz.prog 163 #[.string ⟨#[9, 10, 11, 12, 13, 32]⟩, .int .u8 c.toNat] w fun e w' => e = .returned (.bool (isWh c)) ∧ w' = w := by
  have h := has_fn [9, 10, 11, 12, 13, 32] (by decide) c w
  rw [white_has] at h
  exact h
end Go.Proofs.YtabhkoklcjhlpaaGreatDoor
/-
  The reference: Strip.
-/
namespace Go.Proofs.YtabhkoklcjhlpaaGreatDoor
open Go.RowKit
set_option maxRecDepth 100000 in
set_option maxHeartbeats 4000000 in
theorem trim_fn (l : List UInt8) (hl : l.length ≤ 1000000000) (w : World) :
    Calls Tryz.prog 138 #[.string ⟨l.toArray⟩, .string ⟨#[9, 10, 11, 12, 13, 32]⟩, .bool true, .bool true] w fun e w' => e = .returned (.string ⟨(strip l).toArray⟩) ∧ w' = w := by
  go_enter Tryz.func138, Tryz.ntmps138
  go_upto_block 0 with fail
  go_cut [0] from 9 to 21 (fun v wx => v = .string ⟨(l.dropWhile isWh).toArray⟩ ∧ w = wx)
  case first =>
    go_wp2_with fail
    go_loop [0] (fun v => ∃ t : List UInt8, t.length ≤ 1000000000 ∧ v = .string ⟨t.toArray⟩ ∧ t.dropWhile isWh = l.dropWhile isWh) (fun v => Lib.strSize v)
    case atStart => exact ⟨l, hl, rfl, rfl⟩
    case round =>
      obtain ⟨t, ht, rfl, he⟩ := hrel
      have hE := hid he
      clear he
      cases t with
      | cons x t =>
        have h1 : (⟨(x :: t).toArray⟩ : ByteArray).size = t.length + 1 := by rw [Lib.size_mk]; simp
        have h2 : (⟨(x :: t).toArray⟩ : ByteArray).extract 1 (t.length + 1) = ⟨t.toArray⟩ := by
          rw [Lib.extract_mk]; simp
        have hx : ∀ h, (⟨(x :: t).toArray⟩ : ByteArray)[0]'h = x := fun h => rfl
        have hne : (x :: t == ([] : List UInt8)) = false := rfl
        have hl' : t.length ≤ 999999999 := by simpa using ht
        have hc := hid (has_white x w)
        clear ht
        go_wp2_with fail
        (with_reducible refine hc.out.mono ?_); rintro e w' ⟨rfl, rfl⟩
        cases hw : isWh x
        · have hd : (x :: t).dropWhile isWh = x :: t := by rw [List.dropWhile_cons, hw]; rfl
          go_wp2
          go_meet
          case rel => exact ⟨by rw [← hE.out, hd], rfl⟩
        · have hd : (x :: t).dropWhile isWh = t.dropWhile isWh := by rw [List.dropWhile_cons, hw]; rfl
          go_wp2
          refine ⟨⟨t, by omega, rfl, by rw [← hE.out, hd]⟩, ?_⟩
          rw [Lib.strSize_string, Lib.strSize_string, h1, Lib.size_mk]
          omega
      | nil =>
        have h1 : (⟨([] : List UInt8).toArray⟩ : ByteArray).size = 0 := rfl
        go_wp2
        go_meet
        case rel => exact ⟨by rw [← hE.out]; rfl, rfl⟩
  case rest =>
    obtain ⟨rfl, rfl⟩ := hcut
    have hL : (l.dropWhile isWh).length ≤ 1000000000 := Nat.le_trans (List.dropWhile_sublist _).length_le hl
    go_upto_block 2 with fail
    go_cut [0] from 22 to 40 (fun v wx => v = .string ⟨(strip l).toArray⟩ ∧ w = wx)
    case first =>
      go_wp2_with fail
      go_loop [0] (fun v => ∃ t : List UInt8, t.length ≤ 1000000000 ∧ v = .string ⟨t.toArray⟩ ∧ (t.reverse.dropWhile isWh).reverse = strip l) (fun v => Lib.strSize v)
      case atStart => exact ⟨_, hL, rfl, rfl⟩
      case round =>
        obtain ⟨t, ht, rfl, he⟩ := hrel
        have hE := hid he
        clear he
        rcases nil_or_snoc t with rfl | ⟨t, x, rfl⟩
        · have h1 : (⟨([] : List UInt8).toArray⟩ : ByteArray).size = 0 := rfl
          go_wp2
          go_meet
          case rel => exact ⟨by rw [← hE.out]; rfl, rfl⟩
        · have hre : (t ++ [x]).reverse = x :: t.reverse := by simp
          rw [hre] at hE
          have hE := hid hE.out
          clear hre
          have h1 : (⟨(t ++ [x]).toArray⟩ : ByteArray).size = t.length + 1 := by rw [Lib.size_mk]; simp
          have h2 : (⟨(t ++ [x]).toArray⟩ : ByteArray).extract 0 t.length = ⟨t.toArray⟩ := by
            rw [Lib.extract_mk]; simp
          have hx : ∀ h, (⟨(t ++ [x]).toArray⟩ : ByteArray)[t.length]'h = x := by
            intro h
            show (t ++ [x])[t.length] = x
            simp
          have hne : ((t ++ [x]) == ([] : List UInt8)) = false := by cases t <;> rfl
          have hl' : t.length ≤ 999999999 := by simpa using ht
          have hc := hid (has_white x w)
          clear ht
          generalize hT : t ++ [x] = T at *
          have HT := hid hT
          clear hT
          go_wp2_with fail
          (with_reducible refine hc.out.mono ?_); rintro e w' ⟨rfl, rfl⟩
          cases hw : isWh x
          · have hd : (x :: t.reverse).dropWhile isWh = x :: t.reverse := by rw [List.dropWhile_cons, hw]; rfl
            go_wp2
            go_meet
            case rel => exact ⟨by rw [← hE.out, hd]; simp [HT.out], rfl⟩
          · have hd : (x :: t.reverse).dropWhile isWh = t.reverse.dropWhile isWh := by rw [List.dropWhile_cons, hw]; rfl
            go_wp2
            refine ⟨⟨t, by omega, rfl, by rw [← hE.out, hd]⟩, ?_⟩
            rw [Lib.strSize_string, Lib.strSize_string, h1, Lib.size_mk]
            omega
    case rest =>
      obtain ⟨rfl, rfl⟩ := hcut
      go_wp2
      go_ret
      exact ⟨rfl, rfl⟩
theorem strip_fn (l : List UInt8) (hl : l.length ≤ 1000000000) (w : World) :
    Calls Tryz.prog 109 #[.string ⟨l.toArray⟩] w fun e w' => e = .returned (.string ⟨(strip l).toArray⟩) ∧ w' = w := by
  have hc := hid (trim_fn l hl w)
  go_enter Tryz.func109, Tryz.ntmps109
  go_wp2_with fail
  (with_reducible refine hc.out.mono ?_); rintro e w' ⟨rfl, rfl⟩
  go_wp2
  go_ret
  exact ⟨rfl, rfl⟩
end Go.Proofs.YtabhkoklcjhlpaaGreatDoor
/-
  The reference: decimal digits.
-/
namespace Go.Proofs.YtabhkoklcjhlpaaGreatDoor
open Go.RowKit
theorem Tryz.infoInt : (Tryz.prog.info? 3).map (fun i => (i.zero, i.size, i.bytes)) = some (some (.int .i64 0), 1, 8) := by kernel_rfl
/-- a number as the reference's nat: its decimal digits -/
def DecRep (w : World) (v : Value) (n : Nat) : Prop := Row .i64 w v (dlen 10 n) (dgt 10 n)
def OwnDec (w : World) (base : Nat) (v : Value) (n : Nat) : Prop := Own .i64 3 w base v (dlen 10 n) (dgt 10 n)
theorem DecRep.below {w w' : World} {v : Value} {n : Nat} (h : DecRep w v n) (hb : Below w.heap.size w w') : DecRep w' v n := Row.below h hb
theorem OwnDec.dec {w : World} {base : Nat} {v : Value} {n : Nat} (h : OwnDec w base v n) : DecRep w v n := Own.row h
theorem DecRep.shape {w : World} {v : Value} {n : Nat} (h : DecRep w v n) : ∃ a cap, v = .slice a (dlen 10 n) cap := by
  obtain ⟨a, cap, rfl, _⟩ := h
  exact ⟨a, cap, rfl⟩
section
variable {w : World} {ops : Array Oper} {rest : List Oper} {o : Oper} {a : Act} {Q : Exit → Act → World → Prop}
/-- 'append(s, x)', s a row of ints of the call's own -/
theorem app_i64 (hgd : o.guard = none) (s x : Operand)
    (ho : o.op = .call { callee := .builtin .append, args := #[s, x], argTypes := #[126, 126] })
    (base : Nat) (v : Value) (n : Nat) (f : Nat → Nat) (hs : a.eval s = v) (hown : Own .i64 3 w base v n f)
    (X : Int) (hx : a.eval x = .slice (some ⟨w.heap.size, 0, none⟩) 1 1) (hX : X = ((f n : Nat) : Int)) (hn : n ≤ 1000000000000) (hbase : base ≤ w.heap.size)
    (h : ∀ v' w', Own .i64 3 w' base v' (n + 1) f → Below base w w' → wpList Tryz.prog ops Q rest (a.put o.dst v') w') :
    wpList Tryz.prog ops Q (o :: rest) a (w.alloc (.cells #[.int .i64 X] 3)) := by
  subst hX
  obtain ⟨i0, hi, hz0, hz1, hz2⟩ := info_parts Tryz.infoInt
  refine wpList_append_own _ hgd s x 126 ho base 3 i0 (.int .i64 0) 1 8 Tryz.underlying126 hi hz0 hz1 hz2 rfl (by decide) v n _ hs (World.ownsRow.alloc hown _)
    ⟨w.heap.size, 0, none⟩ 1 1 [.int .i64 ((f n : Nat) : Int)] hx rfl (cell_one_new _ _ _) (by intro u hu; simp at hu; subst hu; rfl) (by unfold maxLen; omega) (by omega) (by simp; omega) ?_
  intro v' w' hown' hgrow _
  refine h v' w' (by unfold Own; rw [cellsK_succ]; exact hown') ?_
  refine (((Below.refl base w).alloc hbase _).grown hgrow (by simp; omega) ?_)
  intro k hk
  obtain ⟨hl, ⟨hv, h0⟩ | ⟨g, cap, cur, hv, hg, hr⟩⟩ := hown
  · subst hv; cases hk
  · subst hv
    simp [Value.ownBlock] at hk
    omega
end
theorem dgt_top (n j : Nat) (h : n < 10 ^ (j + 1)) (h0 : dgt 10 n j = 0) : n < 10 ^ j := by
  unfold dgt at h0
  rw [Nat.pow_succ] at h
  have hp : 0 < 10 ^ j := Nat.pow_pos (by decide)
  generalize 10 ^ j = X at *
  have h1 : n / X < 10 := by rw [Nat.div_lt_iff_lt_mul hp]; omega
  have h2 : n / X = 0 := by
    generalize n / X = e at *
    omega
  exact (Nat.div_eq_zero_iff_lt hp).1 h2
theorem dlen_of_top (n j : Nat) (h : n < 10 ^ j) (h0 : j = 0 ∨ dgt 10 n (j - 1) ≠ 0) : dlen 10 n = j := by
  have h1 := (dlen_le_iff 10 n j (by decide)).2 h
  rcases h0 with rfl | h0
  · omega
  · have h2 : ¬ dlen 10 n ≤ j - 1 := by
      intro h3
      have h4 := (dlen_le_iff 10 n (j - 1) (by decide)).1 h3
      apply h0
      unfold dgt
      rw [Nat.div_eq_of_lt h4]
    omega
set_option maxHeartbeats 1000000 in
theorem trimmedD_row {a : Option Addr} {cap n k : Nat} {w : World} (h : Row .i64 w (.slice a k cap) k (dgt 10 n)) (hk : k ≤ 1000000000) (hn : n < 10 ^ k) :
    Calls Tryz.prog 140 #[.slice a k cap] w fun e w' => e = .returned (.slice a (dlen 10 n) cap) ∧ w' = w := by
  obtain ⟨a', cap', hv, hcap, hcell⟩ := h
  simp only [Value.slice.injEq, true_and] at hv
  obtain ⟨rfl, rfl⟩ := hv
  have hl := (dlen_le_iff 10 n k (by decide)).2 hn
  clear hn
  go_enter Tryz.func140, Tryz.ntmps140
  go_wp2
  go_loop [0] (fun v => ∃ j : Nat, v = .slice a j cap ∧ dlen 10 n ≤ j ∧ j ≤ k) (fun v => lenOf v)
  case atStart => exact ⟨k, rfl, hl, Nat.le_refl _⟩
  case round =>
    obtain ⟨j, rfl, h1, h2⟩ := hrel
    by_cases hj : j = 0
    · subst hj
      go_wp2
      go_ret
      have hz : dlen 10 n = 0 := by omega
      exact ⟨by rw [hz]; rfl, rfl⟩
    · obtain ⟨b, off, rfl, hlt, hc⟩ := hcell (by omega)
      have hcj := hc (j - 1) (by omega)
      have hj' : ((j : Int) - 1) = ((j - 1 : Nat) : Int) := by omega
      by_cases hd : dgt 10 n (j - 1) = 0
      · have hd' : ((dgt 10 n (j - 1) : Nat) : Int) = 0 := by omega
        go_wp2
        go_round
        case rel =>
          refine ⟨j - 1, by go_num, ?_, by omega⟩
          exact (dlen_le_iff 10 n _ (by decide)).2 (dgt_top n (j - 1) (by rw [Nat.sub_add_cancel (by omega)]; exact (dlen_le_iff 10 n _ (by decide)).1 h1) hd)
        case measure => simp [lenOf] <;> omega
      · have hd' : (((dgt 10 n (j - 1) : Nat) : Int) == 0) = false := by rw [beq_eq_false_iff_ne]; omega
        have hz : dlen 10 n = j := dlen_of_top n j ((dlen_le_iff 10 n _ (by decide)).1 h1) (.inr hd)
        have HZ := hid hz
        clear hz
        go_wp2
        go_ret
        exact ⟨by rw [HZ.out]; rfl, rfl⟩
end Go.Proofs.YtabhkoklcjhlpaaGreatDoor
/-
  The reference: Num, reading decimal digits.
-/
namespace Go.Proofs.YtabhkoklcjhlpaaGreatDoor
open Go.RowKit
/-- an integer as the reference's Num -/
def DNum (w : World) (v : Value) (z : Int) : Prop := ∃ s, v = .agg #[.bool (decide (z < 0)), s] ∧ DecRep w s z.natAbs
def OwnDNum (w : World) (base : Nat) (v : Value) (z : Int) : Prop := ∃ s, v = .agg #[.bool (decide (z < 0)), s] ∧ OwnDec w base s z.natAbs
theorem OwnDNum.num {w : World} {base : Nat} {v : Value} {z : Int} (h : OwnDNum w base v z) : DNum w v z := by
  obtain ⟨s, rfl, h⟩ := h
  exact ⟨s, rfl, h.dec⟩
theorem DNum.below {w w' : World} {v : Value} {z : Int} (h : DNum w v z) (hb : Below w.heap.size w w') : DNum w' v z := by
  obtain ⟨s, rfl, h⟩ := h
  exact ⟨s, rfl, h.below hb⟩
theorem dlen_pos_iff (n : Nat) : 0 < dlen 10 n ↔ 0 < n := by
  have := dlen_zero_iff 10 n (by decide)
  omega
theorem num_fn {s : Value} {n : Nat} {w : World} (h : DecRep w s n) (hl : dlen 10 n ≤ 1000000000) (b : Bool) :
    Calls Tryz.prog 112 #[.bool b, s] w fun e w' => e = .returned (.agg #[.bool (b && decide (0 < n)), s]) ∧ Below w.heap.size w w' := by
  obtain ⟨a, cap, rfl⟩ := h.shape
  have hn : decide (0 < n) = decide ((0 : Int) < (dlen 10 n : Nat)) := by
    have := dlen_pos_iff n
    by_cases h0 : 0 < n
    · rw [decide_eq_true h0, decide_eq_true (by omega)]
    · rw [decide_eq_false h0, decide_eq_false (by omega)]
  rw [hn]
  clear hn
  cases b
  · go_enter Tryz.func112, Tryz.ntmps112
    go_wp2
    exact bodyPost_ret (v := .agg #[.bool false, .slice a (dlen 10 n) cap]) (by simp [results, Tryz.results112, go_sem]) rfl ⟨rfl, (Below.refl _ _).alloc (Nat.le_refl _) _⟩
  · go_enter Tryz.func112, Tryz.ntmps112
    go_wp2
    exact bodyPost_ret (v := .agg #[.bool (decide ((0 : Int) < (dlen 10 n : Nat))), .slice a (dlen 10 n) cap]) (by simp [results, Tryz.results112, go_sem]) rfl ⟨by simp, (Below.refl _ _).alloc (Nat.le_refl _) _⟩
theorem big_dlen (n : Nat) : decide ((600 : Int) < (dlen 10 n : Nat)) = decide (big600 ≤ n) := by
  have h1 := digits_600 n
  by_cases h2 : n < big600
  · have h3 := h1.2 h2
    rw [decide_eq_false (by omega), decide_eq_false (by omega)]
  · have h3 : ¬ dlen 10 n ≤ 600 := fun h => h2 (h1.1 h)
    rw [decide_eq_true (by omega), decide_eq_true (by omega)]
theorem long_fn {v : Value} {z : Int} {w : World} (h : DNum w v z) (_hl : dlen 10 z.natAbs ≤ 1000000000) :
    Calls Tryz.prog 113 #[v] w fun e w' => e = .returned (.bool (decide (big600 ≤ z.natAbs))) ∧ Below w.heap.size w w' := by
  obtain ⟨s, rfl, h⟩ := h
  obtain ⟨a, cap, rfl⟩ := h.shape
  have HB := hid (big_dlen z.natAbs)
  generalize decide (big600 ≤ z.natAbs) = R at HB ⊢
  go_enter Tryz.func113, Tryz.ntmps113
  go_wp2
  go_ret
  exact ⟨by rw [← HB.out]; rfl, (Below.refl _ _).alloc (Nat.le_refl _) _⟩
theorem snocRec {p : List UInt8 → Prop} (h0 : p []) (h1 : ∀ l c, p l → p (l ++ [c])) (l : List UInt8) : p l := by
  have key : ∀ r : List UInt8, p r.reverse := by
    intro r
    induction r with
    | nil => exact h0
    | cons c r ih => rw [List.reverse_cons]; exact h1 _ _ ih
  have := key l.reverse
  rwa [List.reverse_reverse] at this
/-- the digit number j from the end -/
def fdig (l : List UInt8) (j : Nat) : Nat := valOf (l.getD (l.length - 1 - j) 0)
theorem numOf_snoc (b : Nat) (l : List UInt8) (c : UInt8) : numOf b (l ++ [c]) = numOf b l * b + valOf c := by
  unfold numOf numFrom
  rw [List.foldl_append]
  rfl
theorem numOf_lt (b : Nat) (_hb : 2 ≤ b) (l : List UInt8) (h : ∀ c ∈ l, valOf c < b) : numOf b l < b ^ l.length := by
  revert h
  refine snocRec (p := fun l => (∀ c ∈ l, valOf c < b) → numOf b l < b ^ l.length) ?_ ?_ l
  · exact fun _ => Nat.one_pos
  · intro l c ih h
    rw [numOf_snoc, List.length_append, List.length_singleton, Nat.pow_succ]
    have h1 := ih (fun c hc => h c (List.mem_append_left _ hc))
    have h2 := h c (List.mem_append_right _ (List.mem_singleton.2 rfl))
    generalize b ^ l.length = X at *
    have h3 := Nat.mul_le_mul_right b (show numOf b l + 1 ≤ X from h1)
    rw [Nat.add_mul] at h3
    omega
theorem dgt_numOf (b : Nat) (hb : 2 ≤ b) (l : List UInt8) (h : ∀ c ∈ l, valOf c < b) (j : Nat) (hj : j < l.length) : dgt b (numOf b l) j = fdig l j := by
  revert h j
  refine snocRec (p := fun l => (∀ c ∈ l, valOf c < b) → ∀ j, j < l.length → dgt b (numOf b l) j = fdig l j) ?_ ?_ l
  · exact fun h j hj => absurd hj (Nat.not_lt_zero _)
  · intro l c ih h j hj
    have h2 := h c (List.mem_append_right _ (List.mem_singleton.2 rfl))
    rw [numOf_snoc]
    cases j with
    | zero =>
      have e : fdig (l ++ [c]) 0 = valOf c := by
        unfold fdig
        simp
      rw [e]
      unfold dgt
      rw [Nat.pow_zero, Nat.div_one, Nat.mul_comm, Nat.mul_add_mod, Nat.mod_eq_of_lt h2]
    | succ j =>
      have hj' : j < l.length := by simp at hj; omega
      have e : fdig (l ++ [c]) (j + 1) = fdig l j := by
        unfold fdig
        have e1 : (l ++ [c]).length - 1 - (j + 1) = l.length - 1 - j := by simp; omega
        rw [e1]
        simp only [List.getD_eq_getElem?_getD]
        rw [List.getElem?_append_left (by omega)]
      rw [e, ← ih (fun c hc => h c (List.mem_append_left _ hc)) j hj']
      unfold dgt
      rw [Nat.pow_succ, Nat.mul_comm (b ^ j) b, ← Nat.div_div_eq_div_mul, Nat.mul_comm (numOf b l) b, Nat.mul_add_div (by omega), Nat.div_eq_of_lt h2, Nat.add_zero]
end Go.Proofs.YtabhkoklcjhlpaaGreatDoor
/-
  The reference: decimal.
-/
namespace Go.Proofs.YtabhkoklcjhlpaaGreatDoor
open Go.RowKit
/-- what the reference's readers answer -/
def RefP (ok : Bool) (z : Int) (w : World) (e : Ending) (w' : World) : Prop :=
  ∃ v, e = .returned (.tuple #[v, .bool ok]) ∧ Below w.heap.size w w' ∧ (ok = true → OwnDNum w' w.heap.size v z) ∧ (∃ g s n c, v = .agg #[.bool g, .slice s n c])
theorem Blk.two {w : World} {b : Nat} {x y : Value} {t : TypeId} (h : Blk w b #[x, y] t) : (w.cell? ⟨b, 0, none⟩ = some x ∧ w.cell? ⟨b, 1, none⟩ = some y) ∧ (w.frozen? ⟨b, 0, none⟩ = false ∧ w.frozen? ⟨b, 1, none⟩ = false) :=
  ⟨⟨h.cell 0, h.cell 1⟩, h.free 0, h.free 1⟩
theorem own_set2 {ik : IntKind} {e : TypeId} {w : World} {base b n : Nat} {v : Value} {f : Nat → Nat} (h : Own ik e w base v n f) (x y : Value) (hb : b < base) : Own ik e ((w.setCell ⟨b, 0, none⟩ x).setCell ⟨b, 1, none⟩ y) base v n f :=
  ownsRow_setCell_below (ownsRow_setCell_below h (a := ⟨b, 0, none⟩) hb x) (a := ⟨b, 1, none⟩) hb y
set_option maxRecDepth 100000 in
set_option maxHeartbeats 4000000 in
theorem dec_fn (l : List UInt8) (hl : l.length ≤ 1000000000) (b : Bool) (w : World) :
    Calls Tryz.prog 110 #[.bool b, .string ⟨l.toArray⟩] w (RefP (rOK 10 l) (sgnInt b (numOf 10 l)) w) := by
  have hsz : (⟨l.toArray⟩ : ByteArray).size = l.length := Lib.size_mk _
  have k0 := Blk.new w #[.bool false, .slice none 0 0] 128
  have hb0 : Below w.heap.size w (w.alloc (.cells #[.bool false, .slice none 0 0] 128)) := (Below.refl _ _).alloc (Nat.le_refl _) _
  have hsz0 : (w.alloc (.cells #[.bool false, .slice none 0 0] 128)).heap.size = w.heap.size + 1 := by simp
  go_enter Tryz.func110, Tryz.ntmps110
  go_wp2
  generalize w.alloc (.cells #[.bool false, .slice none 0 0] 128) = W at *
  go_loopw [6, 7] (fun sv iv wr => ∃ k : Nat, iv = .int .i64 ((l.length : Int) - 1 - k) ∧ k ≤ l.length ∧ Own .i64 3 wr (w.heap.size + 1) sv k (fdig l) ∧ (∀ j, j < k → fdig l j < 10) ∧ Below w.heap.size w wr ∧ Blk wr w.heap.size #[.bool false, .slice none 0 0] 128) (fun _ iv _ => (intOf iv + 1).toNat)
  case atStart => exact ⟨0, by simp, Nat.zero_le _, Own.nil, fun j h => absurd h (Nat.not_lt_zero _), hb0, k0⟩
  case round =>
    obtain ⟨k, hiv, hk, hown, hall, hbr, kr⟩ := hrel
    clear k0 hb0 hsz0
    have hA := hid hall
    clear hall
    obtain ⟨a, cap, rfl⟩ := hown.shape
    have hszr := hbr.size
    have hltr := kr.lt
    by_cases hlt : k < l.length
    · obtain ⟨i, hi⟩ : ∃ i, i + k + 1 = l.length := ⟨l.length - 1 - k, by omega⟩
      have e : (l.length : Int) - 1 - k = (i : Int) := by omega
      rw [e] at hiv
      subst hiv
      have hil : i < l.length := by omega
      have hx : ∀ h, (⟨l.toArray⟩ : ByteArray)[i]'h = l[i]'hil := fun h => rfl
      have hfd : fdig l k = valOf (l[i]'hil) := by
        unfold fdig
        have e1 : l.length - 1 - k = i := by omega
        rw [e1, List.getD_eq_getElem?_getD, List.getElem?_eq_getElem hil]
        rfl
      have hc := fun w => hid (digitR_fn (l[i]'hil) 10 (by decide) (by decide) w)
      by_cases hv : valOf (l[i]'hil) < 10
      · have hd : digR (l[i]'hil) 10 = (valOf (l[i]'hil) : Int) := by unfold digR; rw [if_pos hv]
        rw [hd] at hc
        have hc' : ∀ w, Hid (Calls Tryz.prog 139 #[.int .u8 (l[i]'hil).toNat, .int .i64 10] w fun e w' => e = .returned (.int .i64 (valOf (l[i]'hil))) ∧ w' = w) := hc
        have HF := hid hfd
        clear hd hc e hfd
        go_wp2_with fail
        (with_reducible refine (hc' _).out.mono ?_); rintro e w' ⟨rfl, rfl⟩
        go_wp2_with fail
        (with_reducible refine (hc' _).out.mono ?_); rintro e w' ⟨rfl, rfl⟩
        go_wp2_with (at_builtin; refine app_i64 rfl _ _ rfl (w.heap.size + 1) _ k _ rfl hown _ rfl ?_ (by omega) (by omega) ?_; rotate_left; intro v' w2 hown2 hb2)
        · go_roundw
          case rel =>
            refine ⟨k + 1, ?_, by omega, hown2, ?_, hbr.trans (hb2.mono (by omega)), kr.below hb2 (by omega)⟩
            · congr 1; omega
            · intro j hj
              rcases Nat.lt_or_ge j k with h1 | h1
              · exact hA.out j h1
              · obtain rfl : j = k := by omega
                rw [HF.out]; exact hv
          case measure => simp [intOf] <;> omega
        · rw [HF.out]
      · have hd : digR (l[i]'hil) 10 = -1 := by unfold digR; rw [if_neg hv]
        rw [hd] at hc
        have hc' : ∀ w, Hid (Calls Tryz.prog 139 #[.int .u8 (l[i]'hil).toNat, .int .i64 10] w fun e w' => e = .returned (.int .i64 (-1)) ∧ w' = w) := hc
        have HB := hid (rOK_bad 10 l i hil hv)
        obtain ⟨⟨p1, p2⟩, q1, q2⟩ := kr.two
        clear hd hc e hfd hv
        go_wp2_with fail
        (with_reducible refine (hc' _).out.mono ?_); rintro e w' ⟨rfl, rfl⟩
        go_wp2
        refine bodyPost_ret (v := .tuple #[.agg #[.bool false, .slice none 0 0], .bool false]) (by simp [results, Tryz.results110, go_sem, p1, p2]) rfl ⟨_, by rw [HB.out], ?_, fun h => absurd h (by rw [HB.out]; decide), ⟨_, _, _, _, rfl⟩⟩
        exact (hbr.setCell (p := ⟨w.heap.size, 0, none⟩) (Nat.le_refl _) _).setCell (p := ⟨w.heap.size, 1, none⟩) (Nat.le_refl _) _
    · obtain rfl : k = l.length := by omega
      have e : (l.length : Int) - 1 - l.length = -1 := by omega
      rw [e] at hiv
      subst hiv
      have hallc : ∀ c ∈ l, valOf c < 10 := by
        intro c hc
        obtain ⟨i, hi, rfl⟩ := List.getElem_of_mem hc
        have h1 := hA.out (l.length - 1 - i) (by omega)
        unfold fdig at h1
        have e1 : l.length - 1 - (l.length - 1 - i) = i := by omega
        rw [e1, List.getD_eq_getElem?_getD, List.getElem?_eq_getElem hi] at h1
        exact h1
      have hrok : rOK 10 l = !l.isEmpty := by
        unfold rOK
        rw [List.all_eq_true.2 (fun c hc => decide_eq_true (hallc c hc)), Bool.and_true]
      have HROK := hid hrok
      have hN := numOf_lt 10 (by decide) l hallc
      have hown' := hown.congr (g := dgt 10 (numOf 10 l)) (fun j hj => (dgt_numOf 10 (by decide) l hallc j hj).symm)
      have hdl := (dlen_le_iff 10 _ _ (by decide)).2 hN
      have hcut := hown'.cut hdl
      have hct := hid (trimmedD_row hown'.row (by omega) hN)
      have HV := hid (show sgnInt b (numOf 10 l) = sgnInt b (numOf 10 l) from rfl)
      clear hallc hrok hN e hown hlt
      generalize hNN : numOf 10 l = N at *
      clear hNN
      have hrep : DecRep wr (.slice a (dlen 10 N) cap) N := Own.row hcut
      have hcn := hid (num_fn hrep (by omega) b)
      obtain ⟨⟨p1, p2⟩, q1, q2⟩ := kr.two
      go_wp2_with fail
      (with_reducible refine hct.out.mono ?_); rintro e w' ⟨rfl, rfl⟩
      go_wp2_with fail
      (with_reducible refine hcn.out.mono ?_); rintro e w1 ⟨rfl, hb1⟩
      obtain ⟨⟨r1, r2⟩, s1, s2⟩ := (kr.later hb1).two
      have hkF := own_set2 (hcut.keep hb1 (Nat.le_refl _)) (.bool (b && decide (0 < N))) (.slice a (dlen 10 N) cap) (b := w.heap.size) (by omega)
      have hbF := ((hbr.trans (hb1.mono hbr.size)).setCell (p := ⟨w.heap.size, 0, none⟩) (Nat.le_refl _) (.bool (b && decide (0 < N)))).setCell (p := ⟨w.heap.size, 1, none⟩) (Nat.le_refl _) (.slice a (dlen 10 N) cap)
      go_wp2
      refine bodyPost_ret (v := .tuple #[.agg #[.bool (b && decide (0 < N)), .slice a (dlen 10 N) cap], .bool (!l.isEmpty)]) (by simp [results, Tryz.results110, go_sem, r1, r2]) rfl ⟨_, by rw [HROK.out], hbF, fun _ => ⟨_, by rw [sgnInt_neg], ?_⟩, ⟨_, _, _, _, rfl⟩⟩
      unfold OwnDec
      rw [sgnInt_abs]
      exact hkF.mono (by omega)
end Go.Proofs.YtabhkoklcjhlpaaGreatDoor
/-
  The reference: a digit, the sum.
-/
namespace Go.Proofs.YtabhkoklcjhlpaaGreatDoor
open Go.RowKit
theorem dgt_out (n i : Nat) (h : dlen 10 n ≤ i) : dgt 10 n i = 0 := by
  unfold dgt
  rw [(dlen_div 10 n i (by decide)).2 h]
theorem dig_in (b off len cap i : Nat) (x : Int) (w : World) (hi : i < len) (_hl : len ≤ 1000000000000) (hc : w.cell? ⟨b, off + i, none⟩ = some (.int .i64 x)) :
    Calls Tryz.prog 164 #[.slice (some ⟨b, off, none⟩) len cap, .int .i64 i] w fun e w' => e = .returned (.int .i64 x) ∧ w' = w := by
  go_enter Tryz.func164, Tryz.ntmps164
  go_wp2
  go_ret
  exact ⟨rfl, rfl⟩
theorem dig_out (a : Option Addr) (len cap i : Nat) (w : World) (hi : len ≤ i) (_hl : i ≤ 1000000000000) :
    Calls Tryz.prog 164 #[.slice a len cap, .int .i64 i] w fun e w' => e = .returned (.int .i64 0) ∧ w' = w := by
  go_enter Tryz.func164, Tryz.ntmps164
  go_wp2
  go_ret
  exact ⟨rfl, rfl⟩
theorem dig_fn {v : Value} {n : Nat} {w : World} (h : DecRep w v n) (hl : dlen 10 n ≤ 1000000000) (i : Nat) (hi : i ≤ 1000000000) :
    Calls Tryz.prog 164 #[v, .int .i64 i] w fun e w' => e = .returned (.int .i64 (dgt 10 n i)) ∧ w' = w := by
  obtain ⟨a, cap, rfl, hc, h⟩ := h
  by_cases hlt : i < dlen 10 n
  · obtain ⟨b, off, rfl, _, hcell⟩ := h (by omega)
    exact dig_in b off _ cap i _ w hlt (by omega) (hcell i hlt)
  · have := dig_out a (dlen 10 n) cap i w (by omega) (by omega)
    rw [dgt_out n i (by omega)]
    exact this
/-- the carry of a sum behind i digits -/
def cy10 (m n i : Nat) : Nat := (m % 10 ^ i + n % 10 ^ i) / 10 ^ i
theorem mod10_succ (n i : Nat) : n % 10 ^ (i + 1) = dgt 10 n i * 10 ^ i + n % 10 ^ i := by
  unfold dgt
  rw [Nat.pow_succ, Nat.mod_mul, Nat.mul_comm (n / 10 ^ i % 10), Nat.add_comm]
theorem cy10_le (m n i : Nat) : cy10 m n i ≤ 1 := by
  unfold cy10
  have h1 := Nat.mod_lt m (Nat.pow_pos (n := i) (show 0 < 10 by decide))
  have h2 := Nat.mod_lt n (Nat.pow_pos (n := i) (show 0 < 10 by decide))
  have h3 : (m % 10 ^ i + n % 10 ^ i) / 10 ^ i < 2 := by
    rw [Nat.div_lt_iff_lt_mul (Nat.pow_pos (by decide))]; omega
  omega
theorem cy10_step (m n i : Nat) : (dgt 10 m i + dgt 10 n i + cy10 m n i) % 10 = dgt 10 (m + n) i ∧ (dgt 10 m i + dgt 10 n i + cy10 m n i) / 10 = cy10 m n (i + 1) := by
  have hp : 0 < 10 ^ i := Nat.pow_pos (by decide)
  have key : (m % 10 ^ (i + 1) + n % 10 ^ (i + 1)) / 10 ^ i = dgt 10 m i + dgt 10 n i + cy10 m n i := by
    rw [mod10_succ, mod10_succ]
    unfold cy10
    have e : dgt 10 m i * 10 ^ i + m % 10 ^ i + (dgt 10 n i * 10 ^ i + n % 10 ^ i) = (m % 10 ^ i + n % 10 ^ i) + 10 ^ i * (dgt 10 m i + dgt 10 n i) := by
      rw [Nat.mul_add, Nat.mul_comm (10 ^ i), Nat.mul_comm (10 ^ i)]; omega
    rw [e, Nat.add_mul_div_left _ _ hp]
    omega
  constructor
  · rw [← key]
    unfold dgt
    have h1 := Nat.div_add_mod m (10 ^ (i + 1))
    have h2 := Nat.div_add_mod n (10 ^ (i + 1))
    have e : m + n = (m % 10 ^ (i + 1) + n % 10 ^ (i + 1)) + 10 ^ i * (10 * (m / 10 ^ (i + 1) + n / 10 ^ (i + 1))) := by
      have ps : 10 ^ i * 10 = 10 ^ (i + 1) := (Nat.pow_succ 10 i).symm
      rw [← Nat.mul_assoc, ps, Nat.mul_add]
      omega
    conv => rhs; rw [e, Nat.add_mul_div_left _ _ hp, Nat.add_mul_mod_self_left]
  · rw [← key]
    unfold cy10
    rw [Nat.div_div_eq_div_mul, ← Nat.pow_succ]
theorem cy10_top (m n i : Nat) (hm : dlen 10 m ≤ i) (hn : dlen 10 n ≤ i) (h : cy10 m n i = 0) : dlen 10 (m + n) ≤ i := by
  rw [dlen_le_iff 10 _ _ (by decide)] at hm hn ⊢
  unfold cy10 at h
  rw [Nat.mod_eq_of_lt hm, Nat.mod_eq_of_lt hn] at h
  exact (Nat.div_eq_zero_iff_lt (Nat.pow_pos (by decide))).1 h
theorem cy10_grow (m n i : Nat) (h : i < dlen 10 m ∨ i < dlen 10 n ∨ 0 < cy10 m n i) : i < dlen 10 (m + n) := by
  rw [lt_dlen_iff 10 _ _ (by decide)] at *
  rw [lt_dlen_iff 10 n _ (by decide)] at h
  rcases h with h | h | h
  · omega
  · omega
  · unfold cy10 at h
    have h1 : 10 ^ i ≤ m % 10 ^ i + n % 10 ^ i := by
      rcases Nat.lt_or_ge (m % 10 ^ i + n % 10 ^ i) (10 ^ i) with h2 | h2
      · rw [Nat.div_eq_of_lt h2] at h; omega
      · exact h2
    have h3 := Nat.mod_le m (10 ^ i)
    have h4 := Nat.mod_le n (10 ^ i)
    omega
/-- a fresh number as decimal digits -/
def FreshDec (n : Nat) (w : World) (e : Ending) (w' : World) : Prop := ∃ v, e = .returned v ∧ OwnDec w' w.heap.size v n ∧ Below w.heap.size w w'
set_option maxRecDepth 100000 in
set_option maxHeartbeats 4000000 in
theorem plusD_fn {v u : Value} {m n : Nat} {w : World} (hv : DecRep w v m) (hu : DecRep w u n) (hm : dlen 10 m ≤ 100000000) (hn : dlen 10 n ≤ 100000000) :
    Calls Tryz.prog 141 #[v, u] w (FreshDec (m + n) w) := by
  obtain ⟨a1, c1, rfl⟩ := hv.shape
  obtain ⟨a2, c2, rfl⟩ := hu.shape
  go_enter Tryz.func141, Tryz.ntmps141
  go_wp2
  go_loopw [5, 6, 7] (fun sv cv iv wr => ∃ i : Nat, iv = .int .i64 i ∧ i ≤ 100000001 ∧ i ≤ dlen 10 (m + n) ∧ Own .i64 3 wr w.heap.size sv i (dgt 10 (m + n)) ∧ cv = .int .i64 (cy10 m n i) ∧ Below w.heap.size w wr) (fun _ _ iv _ => 100000001 - (intOf iv).toNat)
  case atStart => exact ⟨0, rfl, by decide, Nat.zero_le _, Own.nil, by simp [cy10], Below.refl _ _⟩
  case round =>
    obtain ⟨i, rfl, hi, hid1, hown, rfl, hbr⟩ := hrel
    obtain ⟨a3, c3, rfl⟩ := hown.shape
    have hcy := cy10_le m n i
    have hszr := hbr.size
    have hdm := dgt_lt 10 m i (by decide)
    have hdn := dgt_lt 10 n i (by decide)
    have hlim : i < dlen 10 m ∨ i < dlen 10 n ∨ 0 < cy10 m n i → i ≤ 100000000 := by
      intro h
      rcases h with h | h | h
      · omega
      · omega
      · rcases Nat.lt_or_ge i 100000001 with h2 | h2
        · omega
        · exfalso
          have h3 : dlen 10 m < i := by omega
          have h4 : dlen 10 n < i := by omega
          obtain ⟨j, rfl⟩ : ∃ j, i = j + 1 := ⟨i - 1, by omega⟩
          have h5 := (cy10_step m n j).2
          have h6 := cy10_le m n j
          rw [dgt_out m j (by omega), dgt_out n j (by omega)] at h5
          omega
    by_cases h1 : i < dlen 10 m
    · have hlim2 := hlim (.inl h1)
      clear hlim
      have hg := cy10_grow m n i (.inl h1)
      have hc1 := hid (dig_fn (hv.below hbr) (by omega) i (by omega))
      have hc2 := hid (dig_fn (hu.below hbr) (by omega) i (by omega))
      obtain ⟨hs1, hs2⟩ := cy10_step m n i
      have HS1 := hid hs1
      have HS2 := hid hs2
      clear hs1 hs2
      generalize dgt 10 m i = x at *
      generalize dgt 10 n i = y at *
      generalize cy10 m n i = z at *
      go_wp2_with fail
      (with_reducible refine hc1.out.mono ?_); rintro e w' ⟨rfl, rfl⟩
      go_wp2_with fail
      (with_reducible refine hc2.out.mono ?_); rintro e w' ⟨rfl, rfl⟩
      go_wp2_with (at_builtin; refine app_i64 rfl _ _ rfl w.heap.size _ i _ rfl hown _ rfl ?_ (by omega) (by omega) ?_; rotate_left; intro v' w2 hown2 hb2)
      · go_roundw
        case rel => exact ⟨i + 1, by go_num, by omega, by omega, hown2, by rw [← HS2.out]; rfl, hbr.trans (hb2.mono (Nat.le_refl _))⟩
        case measure => simp [intOf] <;> omega
      · rw [← HS1.out]; omega
    · by_cases h2 : i < dlen 10 n
      · have hlim2 := hlim (.inr (.inl h2))
        clear hlim
        have hg := cy10_grow m n i (.inr (.inl h2))
        have hc1 := hid (dig_fn (hv.below hbr) (by omega) i (by omega))
        have hc2 := hid (dig_fn (hu.below hbr) (by omega) i (by omega))
        obtain ⟨hs1, hs2⟩ := cy10_step m n i
        have HS1 := hid hs1
        have HS2 := hid hs2
        clear hs1 hs2
        generalize dgt 10 m i = x at *
        generalize dgt 10 n i = y at *
        generalize cy10 m n i = z at *
        go_wp2_with fail
        (with_reducible refine hc1.out.mono ?_); rintro e w' ⟨rfl, rfl⟩
        go_wp2_with fail
        (with_reducible refine hc2.out.mono ?_); rintro e w' ⟨rfl, rfl⟩
        go_wp2_with (at_builtin; refine app_i64 rfl _ _ rfl w.heap.size _ i _ rfl hown _ rfl ?_ (by omega) (by omega) ?_; rotate_left; intro v' w2 hown2 hb2)
        · go_roundw
          case rel => exact ⟨i + 1, by go_num, by omega, by omega, hown2, by rw [← HS2.out]; rfl, hbr.trans (hb2.mono (Nat.le_refl _))⟩
          case measure => simp [intOf] <;> omega
        · rw [← HS1.out]; omega
      · by_cases h3 : 0 < cy10 m n i
        · have hlim2 := hlim (.inr (.inr h3))
          clear hlim
          have hg := cy10_grow m n i (.inr (.inr h3))
          have hc1 := hid (dig_fn (hv.below hbr) (by omega) i (by omega))
          have hc2 := hid (dig_fn (hu.below hbr) (by omega) i (by omega))
          obtain ⟨hs1, hs2⟩ := cy10_step m n i
          have HS1 := hid hs1
          have HS2 := hid hs2
          clear hs1 hs2
          generalize dgt 10 m i = x at *
          generalize dgt 10 n i = y at *
          generalize cy10 m n i = z at *
          go_wp2_with fail
          (with_reducible refine hc1.out.mono ?_); rintro e w' ⟨rfl, rfl⟩
          go_wp2_with fail
          (with_reducible refine hc2.out.mono ?_); rintro e w' ⟨rfl, rfl⟩
          go_wp2_with (at_builtin; refine app_i64 rfl _ _ rfl w.heap.size _ i _ rfl hown _ rfl ?_ (by omega) (by omega) ?_; rotate_left; intro v' w2 hown2 hb2)
          · go_roundw
            case rel => exact ⟨i + 1, by go_num, by omega, by omega, hown2, by rw [← HS2.out]; rfl, hbr.trans (hb2.mono (Nat.le_refl _))⟩
            case measure => simp [intOf] <;> omega
          · rw [← HS1.out]; omega
        · have hz : cy10 m n i = 0 := by omega
          have htop := cy10_top m n i (by omega) (by omega) hz
          have hL := hid (show dlen 10 (m + n) = i by omega)
          clear hlim htop hid1
          rw [hz]
          clear h3 hcy hz
          go_wp2
          go_ret
          exact ⟨_, rfl, by unfold OwnDec; rw [hL.out]; exact hown, hbr⟩
end Go.Proofs.YtabhkoklcjhlpaaGreatDoor
/-
  The reference: natOf.
-/
namespace Go.Proofs.YtabhkoklcjhlpaaGreatDoor
open Go.RowKit
theorem dlen_small (n : Nat) (h : n ≤ 9223372036854775807) : dlen 10 n ≤ 19 := (dlen_le_iff 10 n 19 (by decide)).2 (by omega)
set_option maxRecDepth 100000 in
set_option maxHeartbeats 4000000 in
theorem natOf_fn (n : Nat) (hn : n ≤ 9223372036854775807) (w : World) :
    Calls Tryz.prog 143 #[.int .i64 n] w (FreshDec n w) := by
  have hdl := dlen_small n hn
  go_enter Tryz.func143, Tryz.ntmps143
  go_wp2
  go_loopw [0, 3] (fun nv sv wr => ∃ k : Nat, nv = .int .i64 ((n / 10 ^ k : Nat) : Int) ∧ k ≤ dlen 10 n ∧ Own .i64 3 wr w.heap.size sv k (dgt 10 n) ∧ Below w.heap.size w wr) (fun _ sv _ => dlen 10 n - lenOf sv)
  case atStart => exact ⟨0, by simp, Nat.zero_le _, Own.nil, Below.refl _ _⟩
  case round =>
    obtain ⟨k, rfl, hk, hown, hbr⟩ := hrel
    obtain ⟨a3, c3, rfl⟩ := hown.shape
    have hszr := hbr.size
    have hle : n / 10 ^ k ≤ n := Nat.div_le_self _ _
    have hz := dlen_div 10 n k (by decide)
    have HD := hid (show dgt 10 n k = n / 10 ^ k % 10 from rfl)
    have HS := hid (show n / 10 ^ (k + 1) = n / 10 ^ k / 10 by rw [Nat.pow_succ, Nat.div_div_eq_div_mul])
    generalize n / 10 ^ k = x at *
    by_cases h0 : 0 < x
    · have hlt : k < dlen 10 n := by omega
      go_wp2_with (at_builtin; refine app_i64 rfl _ _ rfl w.heap.size _ k _ rfl hown _ rfl ?_ (by omega) (by omega) ?_; rotate_left; intro v' w2 hown2 hb2)
      · go_roundw
        case rel => exact ⟨k + 1, by rw [HS.out]; rfl, by omega, hown2, hbr.trans (hb2.mono (Nat.le_refl _))⟩
        case measure =>
          have e2 := hown2.lenOf
          have e1 := hown.lenOf
          omega
      · rw [HD.out]; omega
    · have hx : x = 0 := by omega
      have hL := hid (show dlen 10 n = k by omega)
      subst hx
      clear hz hle
      go_wp2
      go_ret
      exact ⟨_, rfl, by unfold OwnDec; rw [hL.out]; exact hown, hbr⟩
end Go.Proofs.YtabhkoklcjhlpaaGreatDoor
/-
  Products digit by digit, to the base 10 (no program in sight).
-/
namespace Go.Proofs.YtabhkoklcjhlpaaGreatDoor
theorem pow10_pos (i : Nat) : 0 < 10 ^ i := Nat.pow_pos (by decide)
theorem mod_split10 (n i : Nat) : n % 10 ^ (i + 1) = n % 10 ^ i + 10 ^ i * dgt 10 n i := by
  rw [mod10_succ, Nat.mul_comm, Nat.add_comm]
theorem dgt_congr (x y t : Nat) (h : x % 10 ^ (t + 1) = y % 10 ^ (t + 1)) : dgt 10 x t = dgt 10 y t := by
  have e : ∀ z, dgt 10 z t = z % 10 ^ (t + 1) / 10 ^ t := by
    intro z
    rw [mod_split10, Nat.add_mul_div_left _ _ (pow10_pos t), Nat.div_eq_of_lt (Nat.mod_lt _ (pow10_pos t)), Nat.zero_add]
  rw [e, e, h]
/-- behind i rounds: the low digits of m times n -/
def sX (m n i : Nat) : Nat := m % 10 ^ i * n
/-- within round i, behind k digits of n -/
def tX (m n i k : Nat) : Nat := sX m n i % 10 ^ (i + k) + dgt 10 m i * (10 ^ i * (n % 10 ^ k))
def cX (m n i k : Nat) : Nat := tX m n i k / 10 ^ (i + k)
/-- the sum of a step -/
def uX (m n i k : Nat) : Nat := dgt 10 (sX m n i) (i + k) + dgt 10 m i * dgt 10 n k + cX m n i k
theorem tX_zero (m n i : Nat) : tX m n i 0 = sX m n i % 10 ^ i := by simp [tX, Nat.mod_one]
theorem cX_zero (m n i : Nat) : cX m n i 0 = 0 := by
  unfold cX; rw [tX_zero, Nat.add_zero]; exact Nat.div_eq_of_lt (Nat.mod_lt _ (pow10_pos i))
theorem tX_succ (m n i k : Nat) : tX m n i (k + 1) = tX m n i k + 10 ^ (i + k) * (dgt 10 (sX m n i) (i + k) + dgt 10 m i * dgt 10 n k) := by
  unfold tX
  rw [show i + (k + 1) = (i + k) + 1 by omega, mod_split10 (sX m n i) (i + k), mod_split10 n k]
  have e : dgt 10 m i * (10 ^ i * (n % 10 ^ k + 10 ^ k * dgt 10 n k)) = dgt 10 m i * (10 ^ i * (n % 10 ^ k)) + 10 ^ (i + k) * (dgt 10 m i * dgt 10 n k) := by
    rw [Nat.pow_add, Nat.mul_add (10 ^ i), Nat.mul_add (dgt 10 m i)]
    congr 1
    ac_rfl
  rw [e, Nat.mul_add (10 ^ (i + k))]
  omega
theorem uX_eq (m n i k : Nat) : uX m n i k = tX m n i (k + 1) / 10 ^ (i + k) := by
  rw [tX_succ, Nat.add_mul_div_left _ _ (pow10_pos _)]
  unfold uX cX
  omega
theorem uX_div (m n i k : Nat) : uX m n i k / 10 = cX m n i (k + 1) := by
  rw [uX_eq, Nat.div_div_eq_div_mul]
  unfold cX
  rw [show i + (k + 1) = (i + k) + 1 by omega, Nat.pow_succ]
theorem uX_mod (m n i k : Nat) : uX m n i k % 10 = dgt 10 (tX m n i (k + 1)) (i + k) := by
  rw [uX_eq]; rfl
theorem tX_low (m n i k t : Nat) (h : t < i + k) : dgt 10 (tX m n i k) t = dgt 10 (tX m n i (k + 1)) t := by
  apply dgt_congr
  rw [tX_succ]
  have e : 10 ^ (i + k) = 10 ^ (t + 1) * 10 ^ (i + k - (t + 1)) := by rw [← Nat.pow_add]; congr 1; omega
  rw [e, Nat.mul_assoc, Nat.add_mul_mod_self_left]
theorem cX_lt (m n i k : Nat) : cX m n i k < 10 := by
  induction k with
  | zero => rw [cX_zero]; decide
  | succ k ih =>
    rw [← uX_div]
    unfold uX
    have h1 := dgt_lt 10 (sX m n i) (i + k) (by decide)
    have h2 := dgt_lt 10 m i (by decide)
    have h3 := dgt_lt 10 n k (by decide)
    have h4 : dgt 10 m i * dgt 10 n k ≤ 9 * 9 := Nat.mul_le_mul (by omega) (by omega)
    omega
theorem sX_lt (m n i : Nat) : sX m n i < 10 ^ (i + dlen 10 n) := by
  unfold sX
  rw [Nat.pow_add]
  exact Nat.mul_lt_mul'' (Nat.mod_lt _ (pow10_pos i)) (dlen_lt 10 n (by decide))
theorem sX_succ (m n i : Nat) : sX m n (i + 1) = sX m n i + dgt 10 m i * (10 ^ i * n) := by
  unfold sX
  rw [mod_split10 m i, Nat.add_mul, Nat.mul_assoc, Nat.mul_left_comm]
theorem sX_zero (m n : Nat) : sX m n 0 = 0 := by simp [sX, Nat.mod_one]
theorem sX_all (m n : Nat) : sX m n (dlen 10 m) = m * n := by
  unfold sX; rw [Nat.mod_eq_of_lt (dlen_lt 10 m (by decide))]
theorem tX_end (m n i k : Nat) (hk : dlen 10 n ≤ k) : tX m n i k = sX m n (i + 1) := by
  have h1 := (dlen_le_iff 10 n k (by decide)).1 hk
  have h2 : sX m n i < 10 ^ (i + k) := Nat.lt_of_lt_of_le (sX_lt m n i) (Nat.pow_le_pow_right (by decide) (by omega))
  unfold tX
  rw [Nat.mod_eq_of_lt h1, Nat.mod_eq_of_lt h2, sX_succ]
theorem cX_in (m n i k : Nat) (hk : dlen 10 n ≤ k) (h : 0 < cX m n i k) : i + k < i + 1 + dlen 10 n := by
  unfold cX at h
  rw [tX_end m n i k hk] at h
  have h1 := sX_lt m n (i + 1)
  rcases Nat.lt_or_ge (i + k) (i + 1 + dlen 10 n) with h2 | h2
  · exact h2
  · rw [Nat.div_eq_of_lt (Nat.lt_of_lt_of_le h1 (Nat.pow_le_pow_right (by decide) h2))] at h
    omega
theorem dgt_high (x k t : Nat) (h : x < 10 ^ k) (ht : k ≤ t) : dgt 10 x t = 0 := dgt_out x t (Nat.le_trans ((dlen_le_iff 10 x k (by decide)).2 h) ht)
/-- the round's end: what is left of the row is as it shall be -/
theorem tX_rest (m n i k t : Nat) (hk : dlen 10 n ≤ k) (h : cX m n i k = 0) (ht : i + k ≤ t) : dgt 10 (sX m n i) t = dgt 10 (sX m n (i + 1)) t := by
  have h1 : sX m n (i + 1) < 10 ^ (i + k) := by
    unfold cX at h
    rw [tX_end m n i k hk] at h
    exact (Nat.div_eq_zero_iff_lt (pow10_pos _)).1 h
  rw [dgt_high _ _ _ h1 ht, dgt_high _ _ _ (Nat.lt_of_lt_of_le (sX_lt m n i) (Nat.pow_le_pow_right (by decide) (show i + dlen 10 n ≤ i + k by omega))) ht]
theorem tX_start (m n i t : Nat) (h : t < i) : dgt 10 (tX m n i 0) t = dgt 10 (sX m n i) t := by
  rw [tX_zero]
  apply dgt_congr
  have e : 10 ^ i = 10 ^ (t + 1) * 10 ^ (i - (t + 1)) := by rw [← Nat.pow_add]; congr 1; omega
  rw [e, Nat.mod_mul_right_mod]
theorem mulX_lt (m n : Nat) : m * n < 10 ^ (dlen 10 m + dlen 10 n) := by rw [← sX_all]; exact sX_lt m n _
end Go.Proofs.YtabhkoklcjhlpaaGreatDoor
/-
  The reference: the product.
-/
namespace Go.Proofs.YtabhkoklcjhlpaaGreatDoor
open Go.RowKit
theorem wrap_i64_nat (x : Nat) (h : x < 9223372036854775808) : IntKind.i64.wrap (x : Int) = x := by
  simp [IntKind.wrap, IntKind.bits, IntKind.signed]
  omega
section
variable {ops : Array Oper} {rest : List Oper} {o : Oper} {a : Act} {Q : Exit → Act → World → Prop}
/-- 'make(nat, n)' of the reference -/
theorem mk_i64 (w : World) (hgd : o.guard = none) (l c : Operand) (ho : o.op = Op.makeSlice 126 l c) (base n : Nat) (L C : Int) (hl : a.eval l = .int .i64 L) (hc : a.eval c = .int .i64 C) (hL : L = (n : Int)) (hC : C = (n : Int)) (hn : n ≤ 1000000000000) (hbase : base ≤ w.heap.size)
    (h : ∀ w', Own .i64 3 w' base (.slice (some ⟨w.heap.size, 0, none⟩) n n) n (fun _ => 0) → Below base w w' → w'.heap.size = w.heap.size + 1 → Below w.heap.size w w' → wpList Tryz.prog ops Q rest (a.put o.dst (.slice (some ⟨w.heap.size, 0, none⟩) n n)) w') :
    wpList Tryz.prog ops Q (o :: rest) a w := by
  obtain ⟨i0, hi, hz0, hz1, hz2⟩ := info_parts Tryz.infoInt
  subst hL
  subst hC
  have hm := run_make (P := Tryz.prog) w 126 3 i0 (.int .i64 0) Tryz.underlying126 hi hz0 .i64 .i64 n n (by omega) (by omega) (by rw [hz2]; omega) (by omega)
  refine wpList_plain hgd fun K hK' => ?_
  unfold Oper.wp
  simp only [Int.toNat_natCast] at hm
  simp [execOp, ho, hl, hc, hm, Result.andThen]
  refine hK' _ _ (h _ ?_ ?_ ?_ ?_)
  · have := World.ownsRow_lit (e := 3) (size := 1) w (madeCells (Value.int IntKind.i64 0).cells (n * 1)) n hbase (by unfold maxLen; omega) (size_madeCells _ _)
    unfold Own
    rw [← cellsK_make]
    rw [hz1]
    exact this
  · exact (Below.refl base w).alloc hbase _
  · simp
  · exact (Below.refl _ w).alloc (Nat.le_refl _) _
end
set_option maxRecDepth 100000 in
set_option maxHeartbeats 4000000 in
theorem timesD_fn {v u : Value} {m n : Nat} {w : World} (hv : DecRep w v m) (hu : DecRep w u n) (hm : dlen 10 m ≤ 10000000) (hn : dlen 10 n ≤ 10000000) :
    Calls Tryz.prog 142 #[v, u] w (FreshDec (m * n) w) := by
  obtain ⟨a, cap, rfl⟩ := hv.shape
  obtain ⟨a', cap', rfl⟩ := hu.shape
  go_enter Tryz.func142, Tryz.ntmps142
  go_wp2_with (at_make; refine mk_i64 _ rfl _ _ rfl w.heap.size (dlen 10 m + dlen 10 n) _ _ rfl rfl (by simp) (by simp) (by omega) (Nat.le_refl _) ?_; intro w1 hown hb hz hb1)
  go_loopw [18] (fun i wr => ∃ j : Nat, i = .int .i64 j ∧ j ≤ dlen 10 m ∧ Own .i64 3 wr w.heap.size (.slice (some ⟨w.heap.size, 0, none⟩) (dlen 10 m + dlen 10 n) (dlen 10 m + dlen 10 n)) (dlen 10 m + dlen 10 n) (dgt 10 (sX m n j)) ∧ Below w.heap.size w wr)
    (fun i _ => dlen 10 m - (intOf i).toNat)
  case atStart => exact ⟨0, rfl, Nat.zero_le _, hown.congr (fun t _ => by rw [sX_zero]; simp [dgt]), hb⟩
  case round =>
    obtain ⟨i, rfl, hi, hown1, hbr⟩ := hrel
    by_cases hlt : i < dlen 10 m
    · obtain ⟨a1, cap1, hv1, _, hcell⟩ := hv.below hbr
      simp only [Value.slice.injEq, true_and] at hv1
      obtain ⟨rfl, rfl⟩ := hv1
      obtain ⟨b, off, rfl, _, hc0⟩ := hcell (by omega)
      have hcj := hc0 i hlt
      have hd := dgt_lt 10 m i (by decide)
      clear hown hb hz hb1
      obtain ⟨wo, rfl⟩ : ∃ wo : World, wo = wr := ⟨_, rfl⟩
      go_wp2
      go_loopw [7, 8] (fun carry kv wr => ∃ k : Nat, kv = .int .i64 k ∧ i + k ≤ dlen 10 m + dlen 10 n ∧ carry = .int .i64 (cX m n i k) ∧ Own .i64 3 wr w.heap.size (.slice (some ⟨w.heap.size, 0, none⟩) (dlen 10 m + dlen 10 n) (dlen 10 m + dlen 10 n)) (dlen 10 m + dlen 10 n) (fun t => if t < i + k then dgt 10 (tX m n i k) t else dgt 10 (sX m n i) t) ∧ Below w.heap.size w wr)
        (fun _ k _ => dlen 10 m + dlen 10 n + 1 - (intOf k).toNat)
      case atStart =>
        refine ⟨0, rfl, by omega, by rw [cX_zero]; rfl, hown1.congr (fun t _ => ?_), hbr⟩
        by_cases e : t < i
        · rw [if_pos (by omega), tX_start m n i t e]
        · rw [if_neg (by omega)]
      case round =>
        obtain ⟨k, rfl, hk, rfl, hown2, hbr2⟩ := hrel
        have hsz2 := hbr2.size
        by_cases hlt2 : k < dlen 10 n
        · skip
          have hoc := hown2.cell (i + k) (by omega)
          rw [if_neg (by omega)] at hoc
          have hof := hown2.free (i + k)
          have hdn := dgt_lt 10 n k (by decide)
          have hds := dgt_lt 10 (sX m n i) (i + k) (by decide)
          have hcx := cX_lt m n i k
          have hpp : dgt 10 m i * dgt 10 n k ≤ 9 * 9 := Nat.mul_le_mul (by omega) (by omega)
          have hpc : ((dgt 10 m i : Nat) : Int) * ((dgt 10 n k : Nat) : Int) = ((dgt 10 m i * dgt 10 n k : Nat) : Int) := by rw [Int.natCast_mul]
          have HU1 := hid (uX_mod m n i k)
          have HU2 := hid (uX_div m n i k)
          have HU := hid (show uX m n i k = dgt 10 (sX m n i) (i + k) + dgt 10 m i * dgt 10 n k + cX m n i k from rfl)
          have hcd := hid (fun (q : Nat) => dig_fn (hu.below (hbr2.trans (below_drewN (Below.refl w.heap.size wr) q))) (by omega) k (by omega))
          have hwik : IntKind.i64.wrap ((i : Int) + (k : Int)) = ((i + k : Nat) : Int) := by rw [← Int.natCast_add]; exact wrap_i64_nat _ (by omega)
          have hw2 : IntKind.i64.wrap (((dgt 10 m i : Nat) : Int) * ((dgt 10 n k : Nat) : Int)) = ((dgt 10 m i * dgt 10 n k : Nat) : Int) := by rw [hpc]; exact wrap_i64_nat _ (by omega)
          have hw3 : IntKind.i64.wrap (((dgt 10 (sX m n i) (i + k) : Nat) : Int) + ((dgt 10 m i * dgt 10 n k : Nat) : Int)) = ((dgt 10 (sX m n i) (i + k) + dgt 10 m i * dgt 10 n k : Nat) : Int) := by rw [← Int.natCast_add]; exact wrap_i64_nat _ (by omega)
          have hw4 : IntKind.i64.wrap (((dgt 10 (sX m n i) (i + k) + dgt 10 m i * dgt 10 n k : Nat) : Int) + ((cX m n i k : Nat) : Int)) = ((uX m n i k : Nat) : Int) := by rw [← Int.natCast_add, HU.out]; exact wrap_i64_nat _ (by omega)
          have hul : uX m n i k < 1000 := by rw [HU.out]; omega
          have hix1 : 0 ≤ (i : Int) + (k : Int) := by omega
          have hix2 : (i : Int) + (k : Int) < (dlen 10 m : Int) + (dlen 10 n : Int) := by omega
          have hix3 : ((i : Int) + (k : Int)).toNat = i + k := by omega
          have hix4 : (0 ≤ (i : Int) + (k : Int) ∧ (i : Int) + (k : Int) < (dlen 10 m : Int) + (dlen 10 n : Int)) = True := by simp [hix1, hix2]
          have hik : i + k < dlen 10 m + dlen 10 n := by omega
          clear hcell hc0 hcj hpc
          obtain ⟨a2, cap2, hv2, _, hcell2⟩ := hv.below hbr2
          simp only [Value.slice.injEq, true_and] at hv2
          obtain ⟨rfl, rfl⟩ := hv2
          obtain ⟨b2, off2, hbo, _, hc2⟩ := hcell2 (by omega)
          simp only [Option.some.injEq, Addr.mk.injEq, and_true] at hbo
          obtain ⟨rfl, rfl⟩ := hbo
          have hcj := hc2 i hlt
          clear hc2 hcell2
          go_wp2_with fail
          go_quiet ((go_at_call 164; exact Calls.quiet_of_same (hcd.out _)))
          have hX : ((uX m n i k : Nat) : Int) = ((dgt 10 (sX m n i) (i + k) : Nat) : Int) + ((dgt 10 m i : Nat) : Int) * ((dgt 10 n k : Nat) : Int) + ((cX m n i k : Nat) : Int) := by rw [HU.out]; simp
          have HX := hid hX
          clear hX
          go_wp2
          go_roundw
          case rel =>
            refine ⟨k + 1, by go_num, by omega, ?_, ?_, (below_drewN hbr2 nq).setCell (Nat.le_refl _) _⟩
            · rw [← HU2.out, ← HX.out]; rfl
            · rw [← HX.out, show ((uX m n i k : Nat) : Int) % 10 = ((uX m n i k % 10 : Nat) : Int) by omega, HU1.out]
              have hown3 : Own .i64 3 (wr.drewN nq) w.heap.size (.slice (some ⟨w.heap.size, 0, none⟩) (dlen 10 m + dlen 10 n) (dlen 10 m + dlen 10 n)) (dlen 10 m + dlen 10 n) (fun t => if t < i + k then dgt 10 (tX m n i k) t else dgt 10 (sX m n i) t) := hown2
              refine (hown3.store (i + k) _).congr ?_
              intro t ht
              show (if t = i + k then _ else if t < i + k then _ else _) = _
              by_cases e : t = i + k
              · rw [if_pos e, if_pos (by omega), e]
              · rw [if_neg e]
                by_cases e2 : t < i + k
                · rw [if_pos e2, if_pos (by omega), tX_low m n i k t e2]
                · rw [if_neg e2, if_neg (by omega)]
          case measure => simp [intOf] <;> omega
        · by_cases hc0' : 0 < cX m n i k
          · have hin := cX_in m n i k (by omega) hc0'
            have hoc := hown2.cell (i + k) (by omega)
            rw [if_neg (by omega)] at hoc
            have hof := hown2.free (i + k)
            have hdn := dgt_lt 10 n k (by decide)
            have hds := dgt_lt 10 (sX m n i) (i + k) (by decide)
            have hcx := cX_lt m n i k
            have hpp : dgt 10 m i * dgt 10 n k ≤ 9 * 9 := Nat.mul_le_mul (by omega) (by omega)
            have hpc : ((dgt 10 m i : Nat) : Int) * ((dgt 10 n k : Nat) : Int) = ((dgt 10 m i * dgt 10 n k : Nat) : Int) := by rw [Int.natCast_mul]
            have HU1 := hid (uX_mod m n i k)
            have HU2 := hid (uX_div m n i k)
            have HU := hid (show uX m n i k = dgt 10 (sX m n i) (i + k) + dgt 10 m i * dgt 10 n k + cX m n i k from rfl)
            have hcd := hid (fun (q : Nat) => dig_fn (hu.below (hbr2.trans (below_drewN (Below.refl w.heap.size wr) q))) (by omega) k (by omega))
            have hwik : IntKind.i64.wrap ((i : Int) + (k : Int)) = ((i + k : Nat) : Int) := by rw [← Int.natCast_add]; exact wrap_i64_nat _ (by omega)
            have hw2 : IntKind.i64.wrap (((dgt 10 m i : Nat) : Int) * ((dgt 10 n k : Nat) : Int)) = ((dgt 10 m i * dgt 10 n k : Nat) : Int) := by rw [hpc]; exact wrap_i64_nat _ (by omega)
            have hw3 : IntKind.i64.wrap (((dgt 10 (sX m n i) (i + k) : Nat) : Int) + ((dgt 10 m i * dgt 10 n k : Nat) : Int)) = ((dgt 10 (sX m n i) (i + k) + dgt 10 m i * dgt 10 n k : Nat) : Int) := by rw [← Int.natCast_add]; exact wrap_i64_nat _ (by omega)
            have hw4 : IntKind.i64.wrap (((dgt 10 (sX m n i) (i + k) + dgt 10 m i * dgt 10 n k : Nat) : Int) + ((cX m n i k : Nat) : Int)) = ((uX m n i k : Nat) : Int) := by rw [← Int.natCast_add, HU.out]; exact wrap_i64_nat _ (by omega)
            have hul : uX m n i k < 1000 := by rw [HU.out]; omega
            have hix1 : 0 ≤ (i : Int) + (k : Int) := by omega
            have hix2 : (i : Int) + (k : Int) < (dlen 10 m : Int) + (dlen 10 n : Int) := by omega
            have hix3 : ((i : Int) + (k : Int)).toNat = i + k := by omega
            have hix4 : (0 ≤ (i : Int) + (k : Int) ∧ (i : Int) + (k : Int) < (dlen 10 m : Int) + (dlen 10 n : Int)) = True := by simp [hix1, hix2]
            have hik : i + k < dlen 10 m + dlen 10 n := by omega
            clear hcell hc0 hcj hpc
            obtain ⟨a2, cap2, hv2, _, hcell2⟩ := hv.below hbr2
            simp only [Value.slice.injEq, true_and] at hv2
            obtain ⟨rfl, rfl⟩ := hv2
            obtain ⟨b2, off2, hbo, _, hc2⟩ := hcell2 (by omega)
            simp only [Option.some.injEq, Addr.mk.injEq, and_true] at hbo
            obtain ⟨rfl, rfl⟩ := hbo
            have hcj := hc2 i hlt
            clear hc2 hcell2
            go_wp2_with fail
            go_quiet ((go_at_call 164; exact Calls.quiet_of_same (hcd.out _)))
            have hX : ((uX m n i k : Nat) : Int) = ((dgt 10 (sX m n i) (i + k) : Nat) : Int) + ((dgt 10 m i : Nat) : Int) * ((dgt 10 n k : Nat) : Int) + ((cX m n i k : Nat) : Int) := by rw [HU.out]; simp
            have HX := hid hX
            clear hX
            go_wp2
            go_roundw
            case rel =>
              refine ⟨k + 1, by go_num, by omega, ?_, ?_, (below_drewN hbr2 nq).setCell (Nat.le_refl _) _⟩
              · rw [← HU2.out, ← HX.out]; rfl
              · rw [← HX.out, show ((uX m n i k : Nat) : Int) % 10 = ((uX m n i k % 10 : Nat) : Int) by omega, HU1.out]
                have hown3 : Own .i64 3 (wr.drewN nq) w.heap.size (.slice (some ⟨w.heap.size, 0, none⟩) (dlen 10 m + dlen 10 n) (dlen 10 m + dlen 10 n)) (dlen 10 m + dlen 10 n) (fun t => if t < i + k then dgt 10 (tX m n i k) t else dgt 10 (sX m n i) t) := hown2
                refine (hown3.store (i + k) _).congr ?_
                intro t ht
                show (if t = i + k then _ else if t < i + k then _ else _) = _
                by_cases e : t = i + k
                · rw [if_pos e, if_pos (by omega), e]
                · rw [if_neg e]
                  by_cases e2 : t < i + k
                  · rw [if_pos e2, if_pos (by omega), tX_low m n i k t e2]
                  · rw [if_neg e2, if_neg (by omega)]
            case measure => simp [intOf] <;> omega
          · have hz : cX m n i k = 0 := by omega
            have hE := hown2.congr (g := dgt 10 (sX m n (i + 1))) (fun t ht => by
              show (if t < i + k then _ else _) = _
              by_cases e : t < i + k
              · rw [if_pos e, tX_end m n i k (by omega)]
              · rw [if_neg e, tX_rest m n i k t (by omega) hz (by omega)])
            clear hown2
            go_wp2
            go_roundw
            case rel => exact ⟨i + 1, by go_num, by omega, hE, hbr2⟩
            case measure => simp [intOf] <;> omega
    · obtain rfl : i = dlen 10 m := by omega
      rw [sX_all] at hown1
      have hN := mulX_lt m n
      have hdl := (dlen_le_iff 10 _ _ (by decide)).2 hN
      have hct := hid (trimmedD_row hown1.row (by omega) hN)
      go_wp2_with fail
      (with_reducible refine hct.out.mono ?_); rintro e w' ⟨rfl, rfl⟩
      go_wp2
      go_ret
      exact ⟨_, rfl, hown1.cut hdl, hbr⟩
end Go.Proofs.YtabhkoklcjhlpaaGreatDoor
/-
  The reference: digits of a base.
-/
namespace Go.Proofs.YtabhkoklcjhlpaaGreatDoor
open Go.RowKit
/-- what the reference reads: a number too long may be cut -/
def Near (n N : Nat) : Prop := n = N ∨ (big600 ≤ n ∧ big600 ≤ N)
theorem big_1200 (n : Nat) (h : 1200 < dlen 10 n) : big600 ≤ n := by
  have h1 := digits_600 n
  rcases Nat.lt_or_ge n big600 with h2 | h2
  · have := h1.2 h2; omega
  · exact h2
theorem dlen_mono (m n : Nat) (h : m ≤ n) : dlen 10 m ≤ dlen 10 n := (dlen_le_iff 10 m _ (by decide)).2 (Nat.lt_of_le_of_lt h (dlen_lt 10 n (by decide)))
theorem dlen_step (n b c : Nat) (hb : b ≤ 36) (hc : c ≤ 36) : dlen 10 (n * b + c) ≤ dlen 10 n + 2 := by
  rw [dlen_le_iff 10 _ _ (by decide)]
  have h1 := dlen_lt 10 n (by decide)
  have h2 := Nat.mul_le_mul_left n hb
  rw [Nat.pow_add]
  generalize 10 ^ dlen 10 n = X at h1 ⊢
  omega
/-- what 'digits' answers -/
def DigP (b : Nat) (l : List UInt8) (w : World) (e : Ending) (w' : World) : Prop :=
  ∃ v n, e = .returned (.tuple #[v, .bool (rOK b l)]) ∧ Below w.heap.size w w' ∧ OwnDec w' w.heap.size v n ∧ dlen 10 n ≤ 2000 ∧ (rOK b l = true → Near n (numOf b l))
theorem near_step (n N b c : Nat) (hb : 2 ≤ b) (h : Near n N) : Near (n * b + c) (N * b + c) := by
  rcases h with rfl | ⟨h1, h2⟩
  · exact .inl rfl
  · right
    have h3 := Nat.le_mul_of_pos_right n (show 0 < b by omega)
    have h4 := Nat.le_mul_of_pos_right N (show 0 < b by omega)
    omega
theorem near_keep (n N b c : Nat) (hb : 2 ≤ b) (h : Near n N) (hn : big600 ≤ n) : Near n (N * b + c) := by
  right
  have h4 := Nat.le_mul_of_pos_right N (show 0 < b by omega)
  rcases h with rfl | ⟨h1, h2⟩ <;> omega
set_option maxRecDepth 100000 in
set_option maxHeartbeats 4000000 in
theorem digits_fn (l : List UInt8) (hl : l.length ≤ 1000000000) (b : Nat) (hb2 : 2 ≤ b) (hb36 : b ≤ 36) (w : World) :
    Calls Tryz.prog 111 #[.string ⟨l.toArray⟩, .int .i64 b] w (DigP b l w) := by
  have hsz : (⟨l.toArray⟩ : ByteArray).size = l.length := Lib.size_mk _
  go_enter Tryz.func111, Tryz.ntmps111
  go_wp2
  go_loopw [6, 7, 12] (fun sv zv iv wr => ∃ (i n : Nat) (z : Bool), iv = .int .i64 i ∧ i ≤ l.length ∧ OwnDec wr w.heap.size sv n ∧ zv = .bool z ∧ (z = true → n = 0 ∧ numOf b (l.take i) = 0) ∧ Near n (numOf b (l.take i)) ∧ dlen 10 n ≤ 1202 ∧ (∀ j (h : j < l.length), j < i → valOf (l[j]'h) < b) ∧ Below w.heap.size w wr) (fun _ _ iv _ => l.length - (intOf iv).toNat)
  case atStart => exact ⟨0, 0, true, rfl, Nat.zero_le _, Own.nil, rfl, fun _ => ⟨rfl, rfl⟩, .inl rfl, by decide, fun j _ h => absurd h (Nat.not_lt_zero _), Below.refl _ _⟩
  case round =>
    obtain ⟨i, n, z, rfl, hi, hown, rfl, hz, hnear, hdl, hall, hbr⟩ := hrel
    obtain ⟨a, cap, hv⟩ := hown.dec.shape
    subst hv
    have HZ := hid hz
    have HN := hid hnear
    have HA := hid hall
    have hszr := hbr.size
    clear hz hnear hall
    by_cases hlt : i < l.length
    · have hx : ∀ h, (⟨l.toArray⟩ : ByteArray)[i]'h = l[i]'hlt := fun h => rfl
      have hc := hid (digitR_fn (l[i]'hlt) b hb36 hb2 wr)
      have HT := hid (numOf_take_succ b l i hlt)
      have hv36 := valOf_le (l[i]'hlt)
      by_cases hv : valOf (l[i]'hlt) < b
      · have hd : digR (l[i]'hlt) b = (valOf (l[i]'hlt) : Int) := by unfold digR; rw [if_pos hv]
        rw [hd] at hc
        have hc := hid hc.out
        have HA2 := hid (show ∀ j (h : j < l.length), j < i + 1 → valOf (l[j]'h) < b from fun j h hj => by
          rcases Nat.lt_or_ge j i with h1 | h1
          · exact HA.out j h h1
          · obtain rfl : j = i := by omega
            exact hv)
        clear hd
        generalize valOf (l[i]'hlt) = c at *
        by_cases hskip : z = true ∧ c = 0
        · obtain ⟨rfl, rfl⟩ := hskip
          go_wp2_with fail
          (with_reducible refine hc.out.mono ?_); rintro e w' ⟨rfl, rfl⟩
          go_wp2
          go_roundw
          case rel =>
            obtain ⟨h1, h2⟩ := HZ.out (by first | rfl | trivial)
            refine ⟨i + 1, n, true, by go_num, by omega, hown, rfl, fun _ => ⟨h1, by rw [HT.out, h2]; simp⟩, ?_, hdl, HA2.out, hbr⟩
            rw [HT.out, h2, h1]
            left; simp
          case measure => simp [intOf] <;> omega
        · cases z with
          | false =>
            have HB := hid (big_1200 n)
            by_cases hlong : dlen 10 n ≤ 1200
            · have hn1 := hid (natOf_fn b (by omega) wr)
              have hdlb := dlen_step n b c hb36 hv36
              have hdb : dlen 10 b ≤ 19 := dlen_small b (by omega)
              have hdc : dlen 10 c ≤ 19 := dlen_small c (by omega)
              have hdnb : dlen 10 (n * b) ≤ 1300 := by have := dlen_step n b 0 hb36 (by omega); simp at this; omega
              go_wp2_with fail
              (with_reducible refine hc.out.mono ?_); rintro e w' ⟨rfl, rfl⟩
              go_wp2_with fail
              (with_reducible refine hn1.out.mono ?_); rintro e w1 ⟨v1, rfl, ho1, hb1⟩
              have ht := hid (timesD_fn (hown.dec.below hb1) ho1.dec (by omega) (by omega))
              obtain ⟨a1, p1, rfl⟩ := ho1.dec.shape
              go_wp2_with fail
              (with_reducible refine ht.out.mono ?_); rintro e w2 ⟨v2, rfl, ho2, hb2'⟩
              have hn2 := hid (natOf_fn c (by omega) w2)
              obtain ⟨a2, p2, rfl⟩ := ho2.dec.shape
              go_wp2_with fail
              (with_reducible refine hn2.out.mono ?_); rintro e w3 ⟨v3, rfl, ho3, hb3⟩
              have hp := hid (plusD_fn (ho2.dec.below hb3) ho3.dec (by omega) (by omega))
              obtain ⟨a3, p3, rfl⟩ := ho3.dec.shape
              go_wp2_with fail
              (with_reducible refine hp.out.mono ?_); rintro e w4 ⟨v4, rfl, ho4, hb4⟩
              obtain ⟨a4, p4, rfl⟩ := ho4.dec.shape
              have e1 := hb1.size
              have e2 := hb2'.size
              have e3 := hb3.size
              go_wp2
              go_roundw
              case rel =>
                refine ⟨i + 1, n * b + c, false, by go_num, by omega, Own.mono ho4 (by omega), rfl, fun h => (by first | exact absurd h (by decide) | cases h), ?_, by omega, HA2.out, hbr.trans ((hb1.mono hszr).trans ((hb2'.mono (by omega)).trans ((hb3.mono (by omega)).trans (hb4.mono (by omega)))))⟩
                rw [HT.out]
                exact near_step n _ b c hb2 HN.out
              case measure => simp [intOf] <;> omega
            · go_wp2_with fail
              (with_reducible refine hc.out.mono ?_); rintro e w' ⟨rfl, rfl⟩
              go_wp2
              go_roundw
              case rel =>
                refine ⟨i + 1, n, false, by go_num, by omega, hown, rfl, fun h => (by first | exact absurd h (by decide) | cases h), ?_, hdl, HA2.out, hbr⟩
                rw [HT.out]
                exact near_keep n _ b c hb2 HN.out (HB.out (by omega))
              case measure => simp [intOf] <;> omega
          | true =>
            have hc0 : c ≠ 0 := fun h => hskip ⟨rfl, h⟩
            have hcb : ((c : Int) == 0) = false := by rw [beq_eq_false_iff_ne]; omega
            clear hskip
            have HB := hid (big_1200 n)
            by_cases hlong : dlen 10 n ≤ 1200
            · have hn1 := hid (natOf_fn b (by omega) wr)
              have hdlb := dlen_step n b c hb36 hv36
              have hdb : dlen 10 b ≤ 19 := dlen_small b (by omega)
              have hdc : dlen 10 c ≤ 19 := dlen_small c (by omega)
              have hdnb : dlen 10 (n * b) ≤ 1300 := by have := dlen_step n b 0 hb36 (by omega); simp at this; omega
              go_wp2_with fail
              (with_reducible refine hc.out.mono ?_); rintro e w' ⟨rfl, rfl⟩
              go_wp2_with fail
              (with_reducible refine hn1.out.mono ?_); rintro e w1 ⟨v1, rfl, ho1, hb1⟩
              have ht := hid (timesD_fn (hown.dec.below hb1) ho1.dec (by omega) (by omega))
              obtain ⟨a1, p1, rfl⟩ := ho1.dec.shape
              go_wp2_with fail
              (with_reducible refine ht.out.mono ?_); rintro e w2 ⟨v2, rfl, ho2, hb2'⟩
              have hn2 := hid (natOf_fn c (by omega) w2)
              obtain ⟨a2, p2, rfl⟩ := ho2.dec.shape
              go_wp2_with fail
              (with_reducible refine hn2.out.mono ?_); rintro e w3 ⟨v3, rfl, ho3, hb3⟩
              have hp := hid (plusD_fn (ho2.dec.below hb3) ho3.dec (by omega) (by omega))
              obtain ⟨a3, p3, rfl⟩ := ho3.dec.shape
              go_wp2_with fail
              (with_reducible refine hp.out.mono ?_); rintro e w4 ⟨v4, rfl, ho4, hb4⟩
              obtain ⟨a4, p4, rfl⟩ := ho4.dec.shape
              have e1 := hb1.size
              have e2 := hb2'.size
              have e3 := hb3.size
              go_wp2
              go_roundw
              case rel =>
                refine ⟨i + 1, n * b + c, false, by go_num, by omega, Own.mono ho4 (by omega), rfl, fun h => (by first | exact absurd h (by decide) | cases h), ?_, by omega, HA2.out, hbr.trans ((hb1.mono hszr).trans ((hb2'.mono (by omega)).trans ((hb3.mono (by omega)).trans (hb4.mono (by omega)))))⟩
                rw [HT.out]
                exact near_step n _ b c hb2 HN.out
              case measure => simp [intOf] <;> omega
            · go_wp2_with fail
              (with_reducible refine hc.out.mono ?_); rintro e w' ⟨rfl, rfl⟩
              go_wp2
              go_roundw
              case rel =>
                refine ⟨i + 1, n, false, by go_num, by omega, hown, rfl, fun h => (by first | exact absurd h (by decide) | cases h), ?_, hdl, HA2.out, hbr⟩
                rw [HT.out]
                exact near_keep n _ b c hb2 HN.out (HB.out (by omega))
              case measure => simp [intOf] <;> omega
      · have hd : digR (l[i]'hlt) b = -1 := by unfold digR; rw [if_neg hv]
        rw [hd] at hc
        have hc := hid hc.out
        have HB := hid (rOK_bad b l i hlt hv)
        clear hd hv
        go_wp2_with fail
        (with_reducible refine hc.out.mono ?_); rintro e w' ⟨rfl, rfl⟩
        go_wp2
        refine bodyPost_ret (v := .tuple #[.slice none 0 0, .bool false]) (by simp [results, Tryz.results111, go_sem]) rfl ⟨_, 0, by rw [HB.out], hbr, Own.nil, by decide, fun h => absurd h (by rw [HB.out]; decide)⟩
    · obtain rfl : i = l.length := by omega
      have HR := hid (show rOK b l = !l.isEmpty by
        unfold rOK
        rw [List.all_eq_true.2 (fun c hc => by
          obtain ⟨j, hj, rfl⟩ := List.getElem_of_mem hc
          exact decide_eq_true (HA.out j hj hj)), Bool.and_true])
      have hnn := HN.out
      rw [List.take_length] at hnn
      have HNN := hid hnn
      clear hnn HN HZ
      go_wp2
      refine bodyPost_ret (v := .tuple #[.slice a (dlen 10 n) cap, .bool (!l.isEmpty)]) (by simp [results, Tryz.results111, go_sem]) rfl ⟨_, n, by rw [HR.out], hbr, hown, by omega, fun _ => HNN.out⟩
end Go.Proofs.YtabhkoklcjhlpaaGreatDoor
/-
  The reference: Number.
-/
namespace Go.Proofs.YtabhkoklcjhlpaaGreatDoor
open Go.RowKit
/-- a number that the reference read: too long ones may be cut -/
def PRef (w : World) (base : Nat) (v : Value) (z : Int) : Prop := ∃ z', OwnDNum w base v z' ∧ dlen 10 z'.natAbs ≤ 2002000 ∧ (z' = z ∨ (big600 ≤ z'.natAbs ∧ big600 ≤ z.natAbs ∧ decide (z' < 0) = decide (z < 0)))
/-- what 'Number' answers -/
def NumP (l : List UInt8) (w : World) (e : Ending) (w' : World) : Prop :=
  ∃ v, e = .returned (.tuple #[v, .bool (pOK l)]) ∧ Below w.heap.size w w' ∧ (pOK l = true → PRef w' w.heap.size v (pVal l)) ∧ (∃ g s n c, v = .agg #[.bool g, .slice s n c])
/-- the first byte, 0 for none -/
def b0 (S : List UInt8) : Nat := (S.headD 0).toNat
set_option maxRecDepth 100000 in
set_option maxHeartbeats 4000000 in
theorem number_fn (l : List UInt8) (hl : l.length ≤ 2000000) (w : World) :
    Calls Tryz.prog 88 #[.string ⟨l.toArray⟩] w (NumP l w) := by
  have k0 := Blk.new w #[.bool false, .slice none 0 0] 128
  have hb0 : Below w.heap.size w (w.alloc (.cells #[.bool false, .slice none 0 0] 128)) := (Below.refl _ _).alloc (Nat.le_refl _) _
  have hsz0 : (w.alloc (.cells #[.bool false, .slice none 0 0] 128)).heap.size = w.heap.size + 1 := by simp
  have hc := fun w => hid (strip_fn l (by omega) w)
  have hS : (strip l).length ≤ 2000000 := Nat.le_trans (strip_len l) hl
  go_enter Tryz.func88, Tryz.ntmps88
  go_upto_region 3 with (first | fail | (with_reducible refine (hc _).out.mono ?_); rintro e w' ⟨rfl, rfl⟩)
  generalize w.alloc (.cells #[.bool false, .slice none 0 0] 128) = W at *
  clear hc
  generalize hSS : strip l = S at *
  have hSS := hid hSS
  go_cut [21] from 10 to 21 (fun v wx => v = .bool (([45] : List UInt8).isPrefixOf S || ([43] : List UInt8).isPrefixOf S) ∧ W = wx)
  case first =>
    cases S with
    | nil =>
      go_wp2
      go_meet
      case rel => exact ⟨rfl, rfl⟩
    | cons x T =>
      have h1 : (⟨(x :: T).toArray⟩ : ByteArray).size = T.length + 1 := by rw [Lib.size_mk]; simp
      have hx : ∀ h, (⟨(x :: T).toArray⟩ : ByteArray)[0]'h = x := fun h => rfl
      have hne : (x :: T == ([] : List UInt8)) = false := rfl
      have hT : T.length ≤ 1999999 := by simpa using hS
      have hpre : (([45] : List UInt8).isPrefixOf (x :: T) || ([43] : List UInt8).isPrefixOf (x :: T)) = ((45 == x) || (43 == x)) := by simp [List.isPrefixOf]
      have HP := hid hpre
      clear hS hpre
      by_cases e1 : x = 45
      · subst e1
        go_wp2
        go_meet
        case rel => exact ⟨by rw [HP.out]; rfl, rfl⟩
      · have n1 : (((x.toNat : Nat) : Int) == 45) = false := by
          rw [beq_eq_false_iff_ne]
          intro h
          exact e1 (UInt8.toNat_inj.1 (show x.toNat = 45 by omega))
        have m1 : ((45 : UInt8) == x) = false := by rw [beq_eq_false_iff_ne]; exact fun h => e1 h.symm
        by_cases e2 : x = 43
        · subst e2
          go_wp2
          go_meet
          case rel => exact ⟨by rw [HP.out]; rfl, rfl⟩
        · have n2 : (((x.toNat : Nat) : Int) == 43) = false := by
            rw [beq_eq_false_iff_ne]
            intro h
            exact e2 (UInt8.toNat_inj.1 (show x.toNat = 43 by omega))
          have m2 : ((43 : UInt8) == x) = false := by rw [beq_eq_false_iff_ne]; exact fun h => e2 h.symm
          go_wp2
          go_meet
          case rel => exact ⟨by rw [HP.out, m1, m2]; rfl, rfl⟩
  case rest =>
    obtain ⟨rfl, rfl⟩ := hcut
    generalize hBB : (([45] : List UInt8).isPrefixOf S || ([43] : List UInt8).isPrefixOf S) = B
    have HB0 := hid hBB
    clear hBB
    go_upto_if 21 with fail
    go_cut [0, 4] from 22 to 26 (fun s0 s4 wx => s0 = .string ⟨(pRest S).toArray⟩ ∧ s4 = .bool (pNeg S) ∧ W = wx)
    case first =>
      obtain ⟨T, hT, hcase⟩ := sign_cases S
      have HT := hid hT
      clear hT
      rcases hcase with ⟨rfl, hn⟩ | ⟨rfl, hn, hm, hp⟩ | ⟨hST, hn, hm, hp⟩
      · have HN := hid hn
        have h1 : (⟨(45 :: T).toArray⟩ : ByteArray).size = T.length + 1 := by rw [Lib.size_mk]; simp
        have h2 : (⟨(45 :: T).toArray⟩ : ByteArray).extract 1 (T.length + 1) = ⟨T.toArray⟩ := by rw [Lib.extract_mk]; simp
        have hx : ∀ h, (⟨(45 :: T).toArray⟩ : ByteArray)[0]'h = 45 := fun h => rfl
        have hb : B = true := by rw [← HB0.out]; simp [List.isPrefixOf]
        have hT' : T.length ≤ 1999999 := by simpa using hS
        subst hb
        clear hn hS
        go_wp2
        go_meet
        case rel => exact ⟨by rw [HT.out], by rw [HN.out], rfl⟩
      · have HN := hid hn
        have h1 : (⟨(43 :: T).toArray⟩ : ByteArray).size = T.length + 1 := by rw [Lib.size_mk]; simp
        have h2 : (⟨(43 :: T).toArray⟩ : ByteArray).extract 1 (T.length + 1) = ⟨T.toArray⟩ := by rw [Lib.extract_mk]; simp
        have hx : ∀ h, (⟨(43 :: T).toArray⟩ : ByteArray)[0]'h = 43 := fun h => rfl
        have hb : B = true := by rw [← HB0.out]; simp [List.isPrefixOf]
        have hT' : T.length ≤ 1999999 := by simpa using hS
        subst hb
        clear hn hm hp hS
        go_wp2
        go_meet
        case rel => exact ⟨by rw [HT.out], by rw [HN.out], rfl⟩
      · have HN := hid hn
        have hST' := hid hST
        have hb : B = false := by rw [← HB0.out, hm, hp]; rfl
        subst hb
        clear hn hm hp hST
        go_wp2
        go_meet
        case rel => exact ⟨by rw [HT.out, ← hST'.out], by rw [HN.out], rfl⟩
    case rest =>
      obtain ⟨rfl, rfl, rfl⟩ := hcut
      have hT : (pRest S).length ≤ 2000000 := by
        refine Nat.le_trans ?_ hS
        unfold pRest
        split
        · rw [List.length_tail]; omega
        · exact Nat.le_refl _
      have hok : pOK l = rOK (pBase (pRest (strip l))) (pBody (pRest (strip l))) := rfl
      have hval : pVal l = sgnInt (pNeg (strip l)) (numOf (pBase (pRest (strip l))) (pBody (pRest (strip l)))) := rfl
      rw [hSS.out] at hok hval
      have HOK := hid hok
      have HVAL := hid hval
      clear hok hval hS hSS
      generalize pRest S = T at *
      generalize pNeg S = ng at *
      go_upto_region 7 with fail
      go_cut [34] from 27 to 34 (fun v wx => v = .bool (decide (1 < T.length) && ((48 : UInt8) == T.headD 0)) ∧ W = wx)
      case first =>
        cases T with
        | nil =>
          have h1 : (⟨([] : List UInt8).toArray⟩ : ByteArray).size = 0 := rfl
          go_wp2
          go_meet
          case rel => exact ⟨rfl, rfl⟩
        | cons x R =>
          have h1 : (⟨(x :: R).toArray⟩ : ByteArray).size = R.length + 1 := by rw [Lib.size_mk]; simp
          have hx : ∀ h, (⟨(x :: R).toArray⟩ : ByteArray)[0]'h = x := fun h => rfl
          have hR : R.length ≤ 1999999 := by simpa using hT
          have HL := hid (show decide (1 < (x :: R).length) = decide (1 < R.length + 1) by simp)
          clear hT
          by_cases hr : 0 < R.length
          · by_cases e1 : x = 48
            · subst e1
              have hr2 : 1 < R.length + 1 := by omega
              go_wp2
              go_meet
              case rel => exact ⟨by rw [HL.out, decide_eq_true (by omega)]; rfl, rfl⟩
            · have n1 : (((x.toNat : Nat) : Int) == 48) = false := by
                rw [beq_eq_false_iff_ne]
                intro h
                exact e1 (UInt8.toNat_inj.1 (show x.toNat = 48 by omega))
              have m1 : ((48 : UInt8) == x) = false := by rw [beq_eq_false_iff_ne]; exact fun h => e1 h.symm
              have hr2 : 1 < R.length + 1 := by omega
              go_wp2
              go_meet
              case rel => exact ⟨by rw [List.headD_cons, m1, Bool.and_false], rfl⟩
          · have hr2 : ¬ 1 < R.length + 1 := by omega
            go_wp2
            go_meet
            case rel => exact ⟨by rw [HL.out, decide_eq_false (by omega)]; rfl, rfl⟩
      case rest =>
        obtain ⟨rfl, rfl⟩ := hcut
        generalize hBB : (decide (1 < T.length) && ((48 : UInt8) == T.headD 0)) = B2
        have HB2 := hid hBB
        clear hBB
        go_upto_if 34 with fail
        go_cut [0, 5] from 35 to 46 (fun s0 s5 wx => s0 = .string ⟨(pBody T).toArray⟩ ∧ s5 = .int .i64 (pBase T) ∧ W = wx)
        case first =>
          have three : ∀ (x : UInt8) (R : List UInt8) (W : World), T = 48 :: x :: R → B2 = true := fun x R _ h => by rw [← HB2.out, h]; simp
          cases B2 with
          | false =>
            have hpre : ∀ p : UInt8, ([48, p] : List UInt8).isPrefixOf T = false := by
              intro p
              cases T with
              | nil => rfl
              | cons y T =>
                cases T with
                | nil => simp [List.isPrefixOf]
                | cons z R =>
                  have h := HB2.out
                  have h2 : ((48 : UInt8) == y) = false := by simpa using h
                  simp [List.isPrefixOf, h2]
            have HB := hid (show pBase T = 10 by unfold pBase; rw [hpre, hpre, hpre]; rfl)
            have HD := hid (show pBody T = T by unfold pBody; rw [hpre, hpre, hpre]; rfl)
            clear three hpre
            go_wp2
            go_meet
            case rel => exact ⟨by rw [HD.out], by rw [HB.out]; rfl, rfl⟩
          | true =>
            obtain ⟨x, R, hTT⟩ : ∃ x R, T = 48 :: x :: R := by
              have h := HB2.out
              cases T with
              | nil => simp at h
              | cons y T =>
                cases T with
                | nil => simp at h
                | cons z R =>
                  have h2 : y = 48 := by
                    have : (48 : UInt8) == y := by simpa using h
                    exact (by simpa using this : (48 : UInt8) = y).symm
                  subst h2
                  exact ⟨z, R, rfl⟩
            subst hTT
            clear three HB2
            have h1 : (⟨(48 :: x :: R).toArray⟩ : ByteArray).size = R.length + 2 := by rw [Lib.size_mk]; simp
            have h2 : (⟨(48 :: x :: R).toArray⟩ : ByteArray).extract 2 (R.length + 2) = ⟨R.toArray⟩ := by rw [Lib.extract_mk]; simp
            have hx : ∀ h, (⟨(48 :: x :: R).toArray⟩ : ByteArray)[1]'h = x := fun h => rfl
            have hR : R.length ≤ 2000000 := by simp at hT; omega
            clear hT
            have key : ∀ k : UInt8, x ≠ k → (((x.toNat : Nat) : Int) == ((k.toNat : Nat) : Int)) = false ∧ ((k == x) = false) := fun k hk => ⟨by
              rw [beq_eq_false_iff_ne]
              intro h
              exact hk (UInt8.toNat_inj.1 (by omega)), by rw [beq_eq_false_iff_ne]; exact fun h => hk h.symm⟩
            by_cases e1 : x = 120
            · subst e1
              have HB := hid (show pBase (48 :: 120 :: R) = 16 by simp [pBase, List.isPrefixOf])
              have HD := hid (show pBody (48 :: 120 :: R) = R by simp [pBody, List.isPrefixOf])
              clear key
              go_wp2
              go_meet
              case rel => exact ⟨by rw [HD.out], by rw [HB.out]; rfl, rfl⟩
            · obtain ⟨n1, m1⟩ := key 120 e1
              have n1 : (((x.toNat : Nat) : Int) == 120) = false := n1
              by_cases e2 : x = 111
              · subst e2
                have HB := hid (show pBase (48 :: 111 :: R) = 8 by simp [pBase, List.isPrefixOf])
                have HD := hid (show pBody (48 :: 111 :: R) = R by simp [pBody, List.isPrefixOf])
                clear key
                go_wp2
                go_meet
                case rel => exact ⟨by rw [HD.out], by rw [HB.out]; rfl, rfl⟩
              · obtain ⟨n2, m2⟩ := key 111 e2
                have n2 : (((x.toNat : Nat) : Int) == 111) = false := n2
                by_cases e3 : x = 98
                · subst e3
                  have HB := hid (show pBase (48 :: 98 :: R) = 2 by simp [pBase, List.isPrefixOf])
                  have HD := hid (show pBody (48 :: 98 :: R) = R by simp [pBody, List.isPrefixOf])
                  clear key
                  go_wp2
                  go_meet
                  case rel => exact ⟨by rw [HD.out], by rw [HB.out]; rfl, rfl⟩
                · obtain ⟨n3, m3⟩ := key 98 e3
                  have n3 : (((x.toNat : Nat) : Int) == 98) = false := n3
                  have HB := hid (show pBase (48 :: x :: R) = 10 by simp [pBase, List.isPrefixOf, m1, m2, m3])
                  have HD := hid (show pBody (48 :: x :: R) = 48 :: x :: R by simp [pBody, List.isPrefixOf, m1, m2, m3])
                  clear key e1 e2 e3 m1 m2 m3
                  go_wp2
                  go_meet
                  case rel => exact ⟨by rw [HD.out], by rw [HB.out]; rfl, rfl⟩
        case rest =>
          obtain ⟨rfl, rfl, rfl⟩ := hcut
          have hU : (pBody T).length ≤ 2000000 := by
            refine Nat.le_trans ?_ hT
            unfold pBody
            split
            · rw [List.length_drop]; omega
            · exact Nat.le_refl _
          have hb16 : 2 ≤ pBase T ∧ pBase T ≤ 16 := by
            unfold pBase
            repeat' split
            all_goals decide
          obtain ⟨hb2, hb16⟩ := hb16
          generalize pBody T = U at *
          generalize pBase T = b at *
          clear HB2
          by_cases hten : b = 10
          · subst hten
            have HC := hid (dec_fn U (by omega) ng W)
            go_wp2_with fail
            (with_reducible refine HC.out.mono ?_); rintro e w1 ⟨v, rfl, hb1, hv, g, s, n, c, rfl⟩
            obtain ⟨⟨r1, r2⟩, s1, s2⟩ := (k0.later hb1).two
            have HV2 := hid hv
            clear hv
            have hsz1 := hb1.size
            have hbF := ((hb0.trans (hb1.mono (by omega))).setCell (p := ⟨w.heap.size, 0, none⟩) (Nat.le_refl _) (.bool g)).setCell (p := ⟨w.heap.size, 1, none⟩) (Nat.le_refl _) (.slice s n c)
            go_wp2
            refine bodyPost_ret (v := .tuple #[.agg #[.bool g, .slice s n c], .bool (rOK 10 U)]) (by simp [results, Tryz.results88, go_sem, r1, r2]) rfl ⟨_, by rw [HOK.out], hbF, fun h => ?_, ⟨_, _, _, _, rfl⟩⟩
            have hok : rOK 10 U = true := by rw [← HOK.out]; exact h
            obtain ⟨sv, he, hown⟩ := HV2.out hok
            rw [HVAL.out]
            refine ⟨sgnInt ng (numOf 10 U), ⟨sv, he, ?_⟩, ?_, .inl rfl⟩
            · unfold OwnDec
              exact (own_set2 (show Own .i64 3 w1 W.heap.size sv _ _ from hown) _ _ (by omega)).mono (by omega)
            · rw [sgnInt_abs]
              have hall : ∀ c ∈ U, valOf c < 10 := by
                unfold rOK at hok
                intro c hc
                exact of_decide_eq_true (List.all_eq_true.1 (Bool.and_eq_true_iff.1 hok).2 c hc)
              have h1 := numOf_lt 10 (by decide) U hall
              have h2 := (dlen_le_iff 10 _ _ (by decide)).2 h1
              omega
          · have hne : ((b : Int) == 10) = false := by rw [beq_eq_false_iff_ne]; omega
            have HC := hid (digits_fn U (by omega) b hb2 (by omega) W)
            clear hten
            go_wp2_with fail
            (with_reducible refine HC.out.mono ?_); rintro e w1 ⟨v, n, rfl, hb1, hown, hdl, hnear⟩
            obtain ⟨a, cap, rfl⟩ := hown.dec.shape
            have HN := hid hnear
            clear hnear
            have HC2 := hid (num_fn hown.dec (by omega) ng)
            go_wp2_with fail
            (with_reducible refine HC2.out.mono ?_); rintro e w2 ⟨rfl, hb2'⟩
            obtain ⟨⟨r1, r2⟩, s1, s2⟩ := ((k0.later hb1).later hb2').two
            have hsz1 := hb1.size
            have hsz2 := hb2'.size
            have hbF := ((hb0.trans ((hb1.mono (by omega)).trans (hb2'.mono (by omega)))).setCell (p := ⟨w.heap.size, 0, none⟩) (Nat.le_refl _) (.bool (ng && decide (0 < n)))).setCell (p := ⟨w.heap.size, 1, none⟩) (Nat.le_refl _) (.slice a (dlen 10 n) cap)
            go_wp2
            refine bodyPost_ret (v := .tuple #[.agg #[.bool (ng && decide (0 < n)), .slice a (dlen 10 n) cap], .bool (rOK b U)]) (by simp [results, Tryz.results88, go_sem, r1, r2]) rfl ⟨_, by rw [HOK.out], hbF, fun h => ?_, ⟨_, _, _, _, rfl⟩⟩
            have hok : rOK b U = true := by rw [← HOK.out]; exact h
            have hnear := HN.out hok
            rw [HVAL.out]
            refine ⟨sgnInt ng n, ⟨_, by rw [sgnInt_neg], ?_⟩, by rw [sgnInt_abs]; omega, ?_⟩
            · unfold OwnDec
              rw [sgnInt_abs]
              exact (own_set2 (Own.keep hown hb2' (Nat.le_refl _)) _ _ (by omega)).mono (by omega)
            · rcases hnear with rfl | ⟨h1, h2⟩
              · exact .inl rfl
              · right
                have h3 := big600_pos
                rw [sgnInt_abs, sgnInt_abs, sgnInt_neg, sgnInt_neg, decide_eq_true (by omega), decide_eq_true (by omega)]
                exact ⟨h1, h2, rfl⟩
end Go.Proofs.YtabhkoklcjhlpaaGreatDoor
/-
  The reference: Itoa of a digit, Text, told, Canonical, Valid.
-/
namespace Go.Proofs.YtabhkoklcjhlpaaGreatDoor
open Go.RowKit
/-- the text of a digit -/
def digS (d : Nat) : List UInt8 := [UInt8.ofNat (chN d)]
theorem lit_dig (d : Nat) (h : d < 10) : ∀ s : ByteArray, s = ⟨#[48, 49, 50, 51, 52, 53, 54, 55, 56, 57, 97, 98, 99, 100, 101, 102, 103, 104, 105, 106, 107, 108, 109, 110, 111, 112, 113, 114, 115, 116, 117, 118, 119, 120, 121, 122]⟩ → s.extract d (d + 1) = ⟨(digS d).toArray⟩ := by
  rintro s rfl
  have : d = 0 ∨ d = 1 ∨ d = 2 ∨ d = 3 ∨ d = 4 ∨ d = 5 ∨ d = 6 ∨ d = 7 ∨ d = 8 ∨ d = 9 := by omega
  rcases this with rfl | rfl | rfl | rfl | rfl | rfl | rfl | rfl | rfl | rfl <;> decide
theorem smallI_fn (d : Nat) (hd : d < 10) (w : World) :
    Calls Tryz.prog 185 #[.int .i64 d] w fun e w' => e = .returned (.string ⟨(digS d).toArray⟩) ∧ w' = w := by
  have HL := hid (lit_dig d hd)
  go_enter Tryz.func185, Tryz.ntmps185
  go_wp2
  go_ret
  exact ⟨by rw [← HL.out _ rfl]; rfl, rfl⟩
theorem fmtI_fn (d : Nat) (hd : d < 10) (w : World) :
    Calls Tryz.prog 177 #[.int .i64 d, .int .i64 10] w fun e w' => e = .returned (.string ⟨(digS d).toArray⟩) ∧ w' = w := by
  have hc := hid (smallI_fn d hd w)
  go_enter Tryz.func177, Tryz.ntmps177
  go_wp2_with fail
  (with_reducible refine hc.out.mono ?_); rintro e w' ⟨rfl, rfl⟩
  go_wp2
  go_ret
  exact ⟨rfl, rfl⟩
theorem itoaI_fn (d : Nat) (hd : d < 10) (w : World) :
    Calls Tryz.prog 165 #[.int .i64 d] w fun e w' => e = .returned (.string ⟨(digS d).toArray⟩) ∧ w' = w := by
  have hc := hid (fmtI_fn d hd w)
  go_enter Tryz.func165, Tryz.ntmps165
  go_wp2_with fail
  (with_reducible refine hc.out.mono ?_); rintro e w' ⟨rfl, rfl⟩
  go_wp2
  go_ret
  exact ⟨rfl, rfl⟩
theorem itoa_fn (d : Nat) (hd : d < 10) (w : World) :
    Calls Tryz.prog 144 #[.int .i64 d] w fun e w' => e = .returned (.string ⟨(digS d).toArray⟩) ∧ w' = w := by
  have hc := hid (itoaI_fn d hd w)
  go_enter Tryz.func144, Tryz.ntmps144
  go_wp2_with fail
  (with_reducible refine hc.out.mono ?_); rintro e w' ⟨rfl, rfl⟩
  go_wp2
  go_ret
  exact ⟨rfl, rfl⟩
/-- the text of the lowest digits -/
def lowS (n k : Nat) : List UInt8 := (List.range k).map fun t => UInt8.ofNat (chN (dgt 10 n (k - 1 - t)))
theorem lowS_zero (n : Nat) : lowS n 0 = [] := rfl
theorem lowS_length (n k : Nat) : (lowS n k).length = k := by simp [lowS]
theorem lowS_succ (n k : Nat) : lowS n (k + 1) = digS (dgt 10 n k) ++ lowS n k := by
  unfold lowS digS
  rw [List.range_succ_eq_map]
  simp only [List.map_cons, List.map_map, List.singleton_append, List.cons.injEq]
  refine ⟨by simp, ?_⟩
  apply List.map_congr_left
  intro t ht
  have := List.mem_range.1 ht
  show UInt8.ofNat (chN (dgt 10 n (k + 1 - 1 - (t + 1)))) = _
  rw [show k + 1 - 1 - (t + 1) = k - 1 - t from by omega]
theorem lowS_all (n : Nat) : lowS n (dlen 10 n) = strOf 10 n := rfl
set_option maxRecDepth 100000 in
set_option maxHeartbeats 4000000 in
theorem textR_fn {v : Value} {z : Int} {w : World} (h : DNum w v z) (hl : dlen 10 z.natAbs ≤ 1000000) :
    Calls Tryz.prog 114 #[v] w fun e w' => e = .returned (.string ⟨(numText 10 z.natAbs (decide (z < 0))).toArray⟩) ∧ Below w.heap.size w w' := by
  obtain ⟨s, rfl, h⟩ := h
  generalize hneg : decide (z < 0) = neg
  clear hneg
  generalize z.natAbs = n at *
  obtain ⟨a, cap, rfl⟩ := h.shape
  have k0 := Blk.new w #[.bool neg, .slice a (dlen 10 n) cap] 128
  have hb0 : Below w.heap.size w (w.alloc (.cells #[.bool neg, .slice a (dlen 10 n) cap] 128)) := (Below.refl _ _).alloc (Nat.le_refl _) _
  have hrep := h.below hb0
  have hem := strOf_isEmpty 10 n (by decide)
  go_enter Tryz.func114, Tryz.ntmps114
  go_wp2
  generalize w.alloc (.cells #[.bool neg, .slice a (dlen 10 n) cap] 128) = W at *
  obtain ⟨⟨p1, p2⟩, q1, q2⟩ := k0.two
  have hcell := hrep
  obtain ⟨a', cap', hv, hcap, hcell⟩ := hcell
  simp only [Value.slice.injEq, true_and] at hv
  obtain ⟨rfl, rfl⟩ := hv
  go_loop [3, 9] (fun sv iv => ∃ k : Nat, iv = .int .i64 k ∧ k ≤ dlen 10 n ∧ sv = .string ⟨(lowS n k).toArray⟩) (fun _ iv => dlen 10 n - (intOf iv).toNat)
  case atStart => exact ⟨0, rfl, Nat.zero_le _, rfl⟩
  case round =>
    obtain ⟨k, rfl, hk, rfl⟩ := hrel
    by_cases hlt : k < dlen 10 n
    · obtain ⟨b, off, rfl, hbl, hc⟩ := hcell (by omega)
      have hck := hc k hlt
      have HC := hid (itoa_fn (dgt 10 n k) (dgt_lt 10 n k (by decide)) W)
      have HS := hid (lowS_succ n k)
      have hlen := lowS_length n k
      have h1 : (⟨(lowS n k).toArray⟩ : ByteArray).size = k := by rw [Lib.size_mk]; exact hlen
      have h2 : (⟨(digS (dgt 10 n k)).toArray⟩ : ByteArray).size = 1 := rfl
      clear hlen
      go_wp2_with fail
      (with_reducible refine HC.out.mono ?_); rintro e w' ⟨rfl, rfl⟩
      go_wp2
      go_round
      case rel => exact ⟨k + 1, by go_num, by omega, by rw [HS.out]; exact congrArg Value.string (by apply ByteArray.ext; simp [ByteArray.data_append])⟩
      case measure => simp [intOf] <;> omega
    · obtain rfl : k = dlen 10 n := by omega
      rw [lowS_all]
      have HE := hem
      by_cases h0 : n = 0
      · rw [decide_eq_true h0] at hem
        have hn : numText 10 n neg = [48] := by rw [numText, if_pos h0]
        have HN := hid hn
        clear h0 hn HE
        go_wp2
        go_ret
        exact ⟨by rw [HN.out]; rfl, hb0⟩
      · rw [decide_eq_false h0] at hem
        have hlen := strOf_length 10 n
        have hsz : (strOf 10 n).length ≤ 32000000 := by omega
        clear hlen HE
        cases neg
        · have hn : numText 10 n false = strOf 10 n := by rw [numText, if_neg h0]; rfl
          have HN := hid hn
          clear h0 hn
          go_wp2
          go_ret
          exact ⟨by rw [HN.out]; rfl, hb0⟩
        · have hn : numText 10 n true = 45 :: strOf 10 n := by rw [numText, if_neg h0]; rfl
          have HN := hid hn
          clear h0 hn
          go_wp2
          go_ret
          exact ⟨by rw [HN.out]; rfl, hb0⟩
end Go.Proofs.YtabhkoklcjhlpaaGreatDoor
/-
  The reference: told.
-/
namespace Go.Proofs.YtabhkoklcjhlpaaGreatDoor
open Go.RowKit
/-- a slice of numbers -/
def Nums (w : World) (v : Value) (zs : List Int) : Prop :=
  ∃ (a : Option Addr) (cap : Nat), v = .slice a zs.length cap ∧ zs.length ≤ cap ∧ (0 < zs.length → ∃ b, a = some ⟨b, 0, none⟩ ∧ b < w.heap.size ∧ ∀ i, i < zs.length → ∃ s c, w.cell? ⟨b, i * 2, none⟩ = some (.bool (decide (zs.getD i 0 < 0))) ∧ w.cell? ⟨b, i * 2 + 1, none⟩ = some (.slice s (dlen 10 (zs.getD i 0).natAbs) c) ∧ DecRep w (.slice s (dlen 10 (zs.getD i 0).natAbs) c) (zs.getD i 0).natAbs)
theorem Nums.nil (w : World) : Nums w (.slice none 0 0) [] := ⟨none, 0, rfl, Nat.le_refl _, fun h => absurd h (Nat.lt_irrefl 0)⟩
theorem Nums.below {w w' : World} {v : Value} {zs : List Int} (h : Nums w v zs) (hb : Below w.heap.size w w') : Nums w' v zs := by
  obtain ⟨a, cap, rfl, hc, h⟩ := h
  refine ⟨a, cap, rfl, hc, fun h0 => ?_⟩
  obtain ⟨b, rfl, hlt, hcell⟩ := h h0
  refine ⟨b, rfl, Nat.lt_of_lt_of_le hlt hb.size, fun i hi => ?_⟩
  obtain ⟨s, c, h1, h2, h3⟩ := hcell i hi
  exact ⟨s, c, (hb.cell (p := ⟨b, i * 2, none⟩) hlt).trans h1, (hb.cell (p := ⟨b, i * 2 + 1, none⟩) hlt).trans h2, h3.below hb⟩
/-- whether one of the numbers is too long -/
def anyBig (zs : List Int) : Bool := zs.any fun z => decide (big600 ≤ z.natAbs)
def toldRes (z : Int) (zs : List Int) : List UInt8 × Int := if anyBig zs then ([], 4) else resOf z
theorem DNum.shape {w : World} {v : Value} {z : Int} (h : DNum w v z) : ∃ a c, v = .agg #[.bool (decide (z < 0)), .slice a (dlen 10 z.natAbs) c] ∧ DecRep w (.slice a (dlen 10 z.natAbs) c) z.natAbs := by
  obtain ⟨s, rfl, h⟩ := h
  obtain ⟨a, c, rfl⟩ := h.shape
  exact ⟨a, c, rfl, h⟩
set_option maxRecDepth 100000 in
set_option maxHeartbeats 4000000 in
theorem told_fn {v u : Value} {z : Int} {zs : List Int} {w : World} (h : DNum w v z) (hl : dlen 10 z.natAbs ≤ 10000000) (hs : Nums w u zs) (hz : ∀ x ∈ zs, dlen 10 x.natAbs ≤ 10000000) (hn : zs.length ≤ 100) :
    Calls Tryz.prog 89 #[v, u] w fun e w' => e = .returned (.tuple #[.string ⟨(toldRes z zs).1.toArray⟩, .int .i64 (toldRes z zs).2]) ∧ Below w.heap.size w w' := by
  obtain ⟨a, cap, rfl, hd⟩ := h.shape
  have hs0 := hs
  obtain ⟨su, cu, rfl, hcu, hcell⟩ := hs0
  have k0 := Blk.new w #[.bool (decide (z < 0)), .slice a (dlen 10 z.natAbs) cap] 128
  have hb0 : Below w.heap.size w (w.alloc (.cells #[.bool (decide (z < 0)), .slice a (dlen 10 z.natAbs) cap] 128)) := (Below.refl _ _).alloc (Nat.le_refl _) _
  have hsz0 : (w.alloc (.cells #[.bool (decide (z < 0)), .slice a (dlen 10 z.natAbs) cap] 128)).heap.size = w.heap.size + 1 := by simp
  have HZ := hid hz
  have HC := hid hcell
  clear hz hcell
  go_enter Tryz.func89, Tryz.ntmps89
  go_wp2
  generalize w.alloc (.cells #[.bool (decide (z < 0)), .slice a (dlen 10 z.natAbs) cap] 128) = W at *
  go_loopw [10] (fun iv wr => ∃ k : Nat, iv = .int .i64 k ∧ k ≤ zs.length ∧ anyBig (zs.take k) = false ∧ Below w.heap.size w wr ∧ Blk wr w.heap.size #[.bool (decide (z < 0)), .slice a (dlen 10 z.natAbs) cap] 128) (fun iv _ => zs.length - (intOf iv).toNat)
  case atStart => exact ⟨0, rfl, Nat.zero_le _, rfl, hb0, k0⟩
  case round =>
    obtain ⟨k, rfl, hk, hany, hbr, kr⟩ := hrel
    have HA := hid hany
    clear hany
    by_cases hlt : k < zs.length
    · obtain ⟨b, rfl, hbl, hc⟩ := HC.out (by omega)
      obtain ⟨s, c, c1, c2, c3⟩ := hc k hlt
      have c1 := (hbr.cell (p := ⟨b, k * 2, none⟩) hbl).trans c1
      have c2 := (hbr.cell (p := ⟨b, k * 2 + 1, none⟩) hbl).trans c2
      have e : zs.getD k 0 = zs[k] := by rw [List.getD_eq_getElem?_getD, List.getElem?_eq_getElem hlt]; rfl
      have hdl := HZ.out (zs[k]) (List.getElem_mem hlt)
      rw [e] at c1 c2 c3
      have HT := hid (show anyBig (zs.take (k + 1)) = decide (big600 ≤ (zs[k]).natAbs) by
        have h1 := HA.out
        unfold anyBig at h1 ⊢
        rw [List.take_add_one, List.getElem?_eq_getElem hlt, List.any_append, h1]
        simp)
      have hmono : anyBig (zs.take (k + 1)) = true → anyBig zs = true := by
        unfold anyBig
        intro h
        rw [List.any_eq_true] at h ⊢
        obtain ⟨x, h1, h2⟩ := h
        exact ⟨x, List.mem_of_mem_take h1, h2⟩
      have HM := hid hmono
      clear hmono e hc
      generalize zs[k] = y at *
      have k1 := Blk.new wr #[.bool (decide (y < 0)), .slice s (dlen 10 y.natAbs) c] 128
      have hb1 : Below wr.heap.size wr (wr.alloc (.cells #[.bool (decide (y < 0)), .slice s (dlen 10 y.natAbs) c] 128)) := (Below.refl _ _).alloc (Nat.le_refl _) _
      have hD : DNum (wr.alloc (.cells #[.bool (decide (y < 0)), .slice s (dlen 10 y.natAbs) c] 128)) (.agg #[.bool (decide (y < 0)), .slice s (dlen 10 y.natAbs) c]) y := ⟨_, rfl, (c3.below hbr).below hb1⟩
      have HLC := hid (long_fn hD (by omega))
      have hszr := hbr.size
      go_wp2_with fail
      (with_reducible refine HLC.out.mono ?_); rintro e w2 ⟨rfl, hb2⟩
      have hb3 := hbr.trans ((hb1.mono hszr).trans (hb2.mono (Nat.le_trans hszr hb1.size)))
      by_cases hbig : big600 ≤ y.natAbs
      · have HR := hid (show toldRes z zs = ([], 4) by unfold toldRes; rw [HM.out (by rw [HT.out]; exact decide_eq_true hbig)]; rfl)
        rw [decide_eq_true hbig]
        clear hbig
        go_wp2
        go_ret2
        exact ⟨by rw [HR.out]; rfl, hb3⟩
      · have HF := hid (show anyBig (zs.take (k + 1)) = false by rw [HT.out]; exact decide_eq_false hbig)
        rw [decide_eq_false hbig]
        clear hbig
        have kr2 := (kr.later hb1).later hb2
        go_wp2
        go_roundw
        case rel => exact ⟨k + 1, by go_num, by omega, HF.out, hb3, kr2⟩
        case measure => simp [intOf] <;> omega
    · obtain rfl : k = zs.length := by omega
      have hany := HA.out
      rw [List.take_length] at hany
      have HR := hid (show toldRes z zs = resOf z by unfold toldRes; rw [hany]; rfl)
      clear hany
      have hD : DNum wr (.agg #[.bool (decide (z < 0)), .slice a (dlen 10 z.natAbs) cap]) z := ⟨_, rfl, hd.below hbr⟩
      have HLC := hid (long_fn hD (by omega))
      have hszr := hbr.size
      obtain ⟨⟨p1, p2⟩, q1, q2⟩ := kr.two
      go_wp2_with fail
      (with_reducible refine HLC.out.mono ?_); rintro e w2 ⟨rfl, hb2⟩
      have hb3 := hbr.trans (hb2.mono hszr)
      clear p1 p2 q1 q2
      obtain ⟨⟨p1, p2⟩, q1, q2⟩ := (kr.later hb2).two
      by_cases hbig : big600 ≤ z.natAbs
      · have HR2 := hid (show resOf z = ([], 4) by unfold resOf; rw [if_neg (by omega)])
        rw [decide_eq_true hbig]
        clear hbig
        go_wp2
        go_ret2
        exact ⟨by rw [HR.out, HR2.out]; rfl, hb3⟩
      · have HR2 := hid (show resOf z = (numText 10 z.natAbs (decide (z < 0)), 0) by unfold resOf; rw [if_pos (by omega)])
        have HTC := hid (textR_fn (hD.below hb2) (by have := (digits_600 z.natAbs).2 (by omega); omega))
        rw [decide_eq_false hbig]
        clear hbig
        go_wp2_with fail
        (with_reducible refine HTC.out.mono ?_); rintro e w3 ⟨rfl, hb4⟩
        go_wp2
        go_ret2
        exact ⟨by rw [HR.out, HR2.out]; rfl, hb3.trans (hb4.mono (Nat.le_trans hszr hb2.size))⟩
/-- a number that was read, told -/
theorem toldRes_nil (z : Int) : toldRes z [] = resOf z := rfl
end Go.Proofs.YtabhkoklcjhlpaaGreatDoor
/- PRUNED -/
/-
  The reference: Canonical, Valid. The laws' helpers: right, awake, long.
-/
namespace Go.Proofs.YtabhkoklcjhlpaaGreatDoor
open Go.RowKit
theorem resOf_big (z : Int) (h : big600 ≤ z.natAbs) : resOf z = ([], 4) := by unfold resOf; rw [if_neg (by omega)]
/-- too long ones may be cut -/
def Cut (z' z : Int) : Prop := z' = z ∨ (big600 ≤ z'.natAbs ∧ big600 ≤ z.natAbs ∧ decide (z' < 0) = decide (z < 0))
theorem Cut.res {z' z : Int} (h : Cut z' z) : resOf z' = resOf z := by
  rcases h with rfl | ⟨h1, h2, _⟩
  · rfl
  · rw [resOf_big _ h1, resOf_big _ h2]
theorem Cut.big {z' z : Int} (h : Cut z' z) : decide (big600 ≤ z'.natAbs) = decide (big600 ≤ z.natAbs) := by
  rcases h with rfl | ⟨h1, h2, _⟩
  · rfl
  · rw [decide_eq_true h1, decide_eq_true h2]
theorem Cut.small {z' z : Int} (h : Cut z' z) (hs : z.natAbs < big600) : z' = z := by
  rcases h with rfl | ⟨h1, h2, _⟩
  · rfl
  · omega
theorem canRes_eq (a : List UInt8) : canRes a = if pOK a = true then resOf (pVal a) else ([], 2) := by
  unfold canRes oneRes
  by_cases h : pOK a = true
  · rw [if_pos h, if_pos h, if_neg (by simp)]
    by_cases hb : big600 ≤ (pVal a).natAbs
    · rw [if_pos hb, resOf_big _ hb]
    · rw [if_neg hb]
  · rw [if_neg h, if_neg h]
set_option maxRecDepth 100000 in
set_option maxHeartbeats 4000000 in
theorem canR_fn (a : List UInt8) (ha : a.length ≤ 2000000) (w : World) :
    Calls Tryz.prog 53 #[.string ⟨a.toArray⟩] w fun e w' => e = .returned (.tuple #[.string ⟨(canRes a).1.toArray⟩, .int .i64 (canRes a).2]) ∧ Below w.heap.size w w' := by
  have hc := hid (number_fn a ha w)
  unfold NumP at hc
  cases hok : pOK a with
  | false =>
    have HR := hid (show canRes a = ([], 2) by rw [canRes_eq, hok]; rfl)
    rw [hok] at hc
    clear hok
    go_enter Tryz.func53, Tryz.ntmps53
    go_wp2_with fail
    (with_reducible refine hc.out.mono ?_); rintro e w1 ⟨v, rfl, hb1, hv, g, s, n, c, rfl⟩
    go_wp2
    go_ret2
    exact ⟨by rw [HR.out]; rfl, hb1.alloc hb1.size _⟩
  | true =>
    have HR := hid (show canRes a = resOf (pVal a) by rw [canRes_eq, hok]; rfl)
    rw [hok] at hc
    clear hok
    go_enter Tryz.func53, Tryz.ntmps53
    go_wp2_with fail
    (with_reducible refine hc.out.mono ?_); rintro e w1 ⟨v, rfl, hb1, hv, g, s, n, c, rfl⟩
    obtain ⟨z', hz, hdl, hcut⟩ := hv (by first | rfl | trivial)
    have HC := hid (Cut.res hcut)
    have hbA : Below w.heap.size w (w1.alloc (.cells #[.bool g, .slice s n c] 128)) := hb1.alloc hb1.size _
    have kA := Blk.new w1 #[.bool g, .slice s n c] 128
    have hD := hz.num.below ((Below.refl _ w1).alloc (Nat.le_refl _) (.cells #[.bool g, .slice s n c] 128))
    have HT := hid (told_fn hD (by omega) (Nums.nil _) (fun x h => by cases h) (by decide))
    rw [toldRes_nil, HC.out] at HT
    clear hcut hv
    have hsz1 := hb1.size
    go_wp2_with fail
    (with_reducible refine HT.out.mono ?_); rintro e w2 ⟨rfl, hb2⟩
    go_wp2
    go_ret2
    exact ⟨by rw [HR.out]; rfl, hbA.trans (hb2.mono hbA.size)⟩
theorem validR_fn (a : List UInt8) (ha : a.length ≤ 2000000) (w : World) :
    Calls Tryz.prog 60 #[.string ⟨a.toArray⟩] w fun e w' => e = .returned (.bool (validRes a)) ∧ Below w.heap.size w w' := by
  have hc := hid (canR_fn a ha w)
  unfold validRes
  generalize canRes a = r at hc ⊢
  obtain ⟨r1, r2⟩ := r
  have hc := hid hc.out
  go_enter Tryz.func60, Tryz.ntmps60
  go_wp2_with fail
  (with_reducible refine hc.out.mono ?_); rintro e w1 ⟨rfl, hb1⟩
  go_wp2
  go_ret
  exact ⟨rfl, hb1⟩
theorem awake_div : divVal [45, 55] [50] = .tuple #[.string ⟨#[45, 52]⟩, .string ⟨#[49]⟩, .int .i64 0] := by
  have h1 : quoRes [45, 55] [50] = ([45, 52], 0) := by decide +kernel
  have h2 : remRes [45, 55] [50] = ([49], 0) := by decide +kernel
  unfold divVal
  rw [h1, h2]
  rfl
theorem awake_base : baseRes [50, 53, 53] 16 = ([102, 102], 0) := by decide +kernel
end Go.Proofs.YtabhkoklcjhlpaaGreatDoor
