/-
  Part K5 of the proofs of this seat: contracts of functions and plain facts, merged from 8 texts.
-/
import Derived.Shelf.Strings.OnBuilder
import Derived.Shelf.Bits.Mul64
import Derived.Shelf.LaysM
import Derived.Test.YtheiageokcgbhaaGreatDoorProg
import Derived.Laws.CopyOwn
import Derived.Laws.MakeOwn
import Derived.Test.YtheiageokcgbhaaGreatDoorK0
import Derived.Test.YtheiageokcgbhaaGreatDoorK1
import Derived.Test.YtheiageokcgbhaaGreatDoorK2
import Derived.Test.YtheiageokcgbhaaGreatDoorK3
import Derived.Test.YtheiageokcgbhaaGreatDoorK4
/-
  Lists: what trimming, Concat and Repeat answer (plain).
-/
namespace Go.Proofs.YtheiageokcgbhaaGreatDoor.Pz
open Go.RowKit
/-- how many backslashes a reversed text begins with -/
def slashes : Str → Nat
  | [] => 0
  | c :: t => if c == 92 then slashes t + 1 else 0
/-- white bytes off the end of a text that is given reversed; one that is escaped stays -/
def cutR : Str → Str
  | [] => []
  | c :: t => if white c && slashes t % 2 == 0 then cutR t else c :: t
def cutL : Str → Str
  | [] => []
  | c :: t => if white c then cutL t else c :: t
def trimE (s : Str) : Str := (cutR (cutL s).reverse).reverse
theorem cutL_len : ∀ s : Str, (cutL s).length ≤ s.length
  | [] => Nat.le_refl _
  | c :: t => by
    rw [cutL]
    split
    · have := cutL_len t
      simp only [List.length_cons]
      omega
    · exact Nat.le_refl _
theorem cutR_len : ∀ s : Str, (cutR s).length ≤ s.length
  | [] => Nat.le_refl _
  | c :: t => by
    rw [cutR]
    split
    · have := cutR_len t
      simp only [List.length_cons]
      omega
    · exact Nat.le_refl _
theorem trimE_len (s : Str) : (trimE s).length ≤ s.length := by
  have h1 := cutR_len (cutL s).reverse
  have h2 := cutL_len s
  rw [List.length_reverse] at h1
  rw [trimE, List.length_reverse]
  omega
theorem slashes_drop : ∀ t : Str, (t.dropWhile (([92] : Str).contains ·)).length + slashes t = t.length
  | [] => rfl
  | c :: t => by
    have ih := slashes_drop t
    rw [slashes, List.dropWhile_cons]
    by_cases h : c = 92
    · subst h
      simp only [List.length_cons]
      have e : ([92] : Str).contains 92 = true := rfl
      rw [if_pos e, if_pos (show ((92 : UInt8) == 92) = true from rfl)]
      omega
    · have e : ([92] : Str).contains c = false := by simp [h]
      have e2 : (c == 92) = false := by simp [h]
      rw [e, e2]
      rfl
theorem slashes_le (t : Str) : slashes t ≤ t.length := by
  have := slashes_drop t
  omega
/-- what the texts of a row are put together to -/
def catE : List Str → List Str
  | [] => []
  | a :: l => if (trimE a).isEmpty then catE l else trimE a :: catE l
def spread : List Str → Str
  | [] => []
  | [a] => a
  | a :: b :: l => a ++ 32 :: spread (b :: l)
def concatE (l : List Str) : Str := spread (catE l)
theorem catE_app : ∀ (l : List Str) (a : Str), catE (l ++ [a]) = if (trimE a).isEmpty then catE l else catE l ++ [trimE a]
  | [], a => by
    rw [List.nil_append, catE, catE]
    split <;> rfl
  | b :: l, a => by
    rw [List.cons_append, catE, catE_app l a, catE]
    split <;> split <;> rfl
theorem spread_app : ∀ (l : List Str) (a : Str), spread (l ++ [a]) = if l.isEmpty then a else spread l ++ 32 :: a
  | [], a => rfl
  | [b], a => rfl
  | b :: c :: l, a => by
    have ih := spread_app (c :: l) a
    rw [List.cons_append] at ih
    rw [List.cons_append, List.cons_append, spread, ih, spread]
    simp
theorem catE_ne : ∀ (l : List Str), ∀ x ∈ catE l, x ≠ []
  | [], x, h => by cases h
  | a :: l, x, h => by
    rw [catE] at h
    split at h
    · exact catE_ne l x h
    · rename_i hn
      rcases List.mem_cons.1 h with rfl | h
      · intro e
        rw [e] at hn
        exact hn rfl
      · exact catE_ne l x h
theorem spread_nil {l : List Str} (h : ∀ x ∈ l, x ≠ []) : (spread l = []) ↔ l = [] := by
  cases l with
  | nil => exact ⟨fun _ => rfl, fun _ => rfl⟩
  | cons a l =>
    have ha := h a (List.mem_cons_self ..)
    cases l with
    | nil => simp [spread, ha]
    | cons b l => simp [spread]
theorem concatE_app (l : List Str) (a : Str) : concatE (l ++ [a]) = if (trimE a).isEmpty then concatE l else if (concatE l).isEmpty then trimE a else concatE l ++ 32 :: trimE a := by
  unfold concatE
  rw [catE_app]
  by_cases h : (trimE a).isEmpty = true
  · rw [if_pos h, if_pos h]
  · rw [if_neg h, if_neg h, spread_app]
    have e := spread_nil (catE_ne l)
    by_cases h2 : catE l = []
    · rw [h2]; rfl
    · have h3 : ¬ spread (catE l) = [] := fun h => h2 (e.1 h)
      rw [if_neg (by simpa using h2), if_neg (by simpa using h3)]
theorem catE_sum : ∀ l : List Str, sumS (catE l) ≤ sumS l
  | [] => Nat.le_refl _
  | a :: l => by
    have ih := catE_sum l
    have h := trimE_len a
    rw [catE]
    split
    · rw [sumS]; omega
    · rw [sumS, sumS]; omega
theorem spread_len : ∀ l : List Str, (spread l).length ≤ sumS l
  | [] => Nat.le_refl _
  | [a] => by rw [spread, sumS]; omega
  | a :: b :: l => by
    have ih := spread_len (b :: l)
    rw [spread, sumS, List.length_append, List.length_cons]
    omega
theorem concatE_len (l : List Str) : (concatE l).length ≤ sumS l := Nat.le_trans (spread_len _) (catE_sum l)
/-- Repeat -/
def repL (l : List Str) : Nat → List Str
  | 0 => []
  | n + 1 => repL l n ++ l
theorem repL_len (l : List Str) : ∀ n, (repL l n).length = n * l.length
  | 0 => by simp [repL]
  | n + 1 => by rw [repL, List.length_append, repL_len l n, Nat.succ_mul]
theorem repL_nil : ∀ n, repL [] n = []
  | 0 => rfl
  | n + 1 => by rw [repL, repL_nil n]; rfl
theorem repL_mem (l : List Str) : ∀ n, ∀ x ∈ repL l n, x ∈ l
  | 0, x, h => by cases h
  | n + 1, x, h => by
    rw [repL] at h
    rcases List.mem_append.1 h with h | h
    · exact repL_mem l n x h
    · exact h
def repE (l : List Str) (n : Int) : Str × Int := joinRes (repL l n.toNat)
end Go.Proofs.YtheiageokcgbhaaGreatDoor.Pz
/-
  Lists: trimming walked, of the program and of the reference.
-/
namespace Go.Proofs.YtheiageokcgbhaaGreatDoor.Pz
open Go.RowKit
def whiteB : Str := [9, 10, 11, 12, 13, 32]
theorem white_has (c : UInt8) : whiteB.contains c = white c := by
  have h : (List.range 256).all (fun n => whiteB.contains (UInt8.ofNat n) == white (UInt8.ofNat n)) = true := by kernel_rfl
  have h2 := List.all_eq_true.1 h c.toNat (List.mem_range.2 c.toNat_lt)
  simpa using h2
theorem idxW_fn (c : UInt8) (w : World) : ∃ I : Int, Calls Tryz.prog 117 #[.string ⟨#[9, 10, 11, 12, 13, 32]⟩, .int .u8 c.toNat] w (fun e w' => e = .returned (.int .i64 I) ∧ w' = w) ∧ decide (0 ≤ I) = white c := by
  refine ⟨Lib.indexByte whiteB c, ?_, by rw [← has_idx, white_has]⟩
  have h := Tryz.strings_IndexByte ⟨#[9, 10, 11, 12, 13, 32]⟩ (c.toNat : Int) w
  have e1 : ((c.toNat : Int)).toNat.toUInt8 = c := by simp
  rw [e1] at h
  exact h
theorem tail_ext (c : UInt8) (t : Str) : (⟨(c :: t).toArray⟩ : ByteArray).extract 1 (t.length + 1) = ⟨t.toArray⟩ := by
  have h := (At.start (c :: t)).tail.all
  rwa [List.length_cons] at h
theorem init_ext (c : UInt8) (t : Str) : (⟨((c :: t).reverse).toArray⟩ : ByteArray).extract 0 t.length = ⟨t.reverse.toArray⟩ := by
  rw [Lib.extract_mk, List.reverse_cons, List.drop_zero, Nat.sub_zero, List.take_append_of_le_length (by simp), List.take_of_length_le (by simp)]
theorem last_get (c : UInt8) (t : Str) : ∀ h', (⟨((c :: t).reverse).toArray⟩ : ByteArray)[t.length]'h' = c := by
  have ha : At ((c :: t).reverse) [c] t.length := ⟨by simp, by rw [List.reverse_cons, List.drop_append_of_le_length (by simp), List.drop_of_length_le (by simp)]; rfl⟩
  exact ha.byte
set_option maxRecDepth 100000 in
set_option maxHeartbeats 1000000 in
theorem trimL_fn (s : Str) (_ : s.length ≤ 1000000) (w : World) :
    Calls Tryz.prog 121 #[.string ⟨s.toArray⟩, .string ⟨#[9, 10, 11, 12, 13, 32]⟩, .bool true, .bool false] w fun e w' => e = .returned (.string ⟨(cutL s).toArray⟩) ∧ w' = w := by
  obtain ⟨R, hR⟩ : ∃ R, R = cutL s := ⟨_, rfl⟩
  rw [← hR]
  have HR := hid hR
  clear hR
  go_enter Tryz.func121, Tryz.ntmps121
  go_wp2
  go_loopg [0] s.length (fun k sv wr => ∃ rest : Str, sv = .string ⟨rest.toArray⟩ ∧ R = cutL rest ∧ wr = w ∧ k = rest.length ∧ rest.length ≤ s.length)
  case atStart => exact ⟨s, rfl, HR.out, rfl, rfl, Nat.le_refl _⟩
  case round =>
    obtain ⟨rest, rfl, hr, hw, rfl, hle⟩ := hrel
    replace hw := hw.symm
    subst hw
    cases rest with
    | nil =>
      have hsz : (⟨([] : Str).toArray⟩ : ByteArray).size = 0 := rfl
      rw [cutL] at hr
      have HE := hid hr
      clear hr HR
      go_wp2
      go_loopg [0] 0 (fun k sv wr => sv = .string ⟨R.toArray⟩ ∧ wr = w ∧ k = 0)
      case atStart => exact ⟨by rw [HE.out], rfl, rfl⟩
      case round =>
        obtain ⟨rfl, hw, rfl⟩ := hrel
        subst hw
        go_wp2
        go_ret
        exact ⟨rfl, rfl⟩
    | cons c t =>
      obtain ⟨I, hI, hI2⟩ := idxW_fn c w
      have hx := (At.start (c :: t)).byte
      have hemp : (c :: t).isEmpty = false := rfl
      have hsz : (⟨(c :: t).toArray⟩ : ByteArray).size = t.length + 1 := Lib.size_mk _
      have htl := tail_ext c t
      have HC := hid hI
      simp only [List.length_cons] at hle
      cases hw : white c with
      | true =>
        rw [hw] at hI2
        have h0 : 0 ≤ I := of_decide_eq_true hI2
        have hR2 : R = cutL t := by rw [hr, cutL, if_pos hw]
        have HE := hid hR2
        clear hr HR hR2 hI hI2 hw
        go_wp2_with fail
        (with_reducible refine HC.out.mono ?_); rintro e w1 ⟨rfl, hw⟩; subst w1
        go_wp2
        go_roundg t.length
        case measure => simp
        case rel => exact ⟨t, by rw [← htl], HE.out, rfl, rfl, by omega⟩
      | false =>
        rw [hw] at hI2
        have h0 : ¬ 0 ≤ I := of_decide_eq_false hI2
        have hR2 : R = c :: t := by rw [hr, cutL, hw]; rfl
        have HE := hid hR2
        clear hr HR hR2 hI hI2 hw
        go_wp2_with fail
        (with_reducible refine HC.out.mono ?_); rintro e w1 ⟨rfl, hw⟩; subst w1
        go_wp2
        go_loopg [0] 0 (fun k sv wr => sv = .string ⟨R.toArray⟩ ∧ wr = w ∧ k = 0)
        case atStart => exact ⟨by rw [HE.out], rfl, rfl⟩
        case round =>
          obtain ⟨rfl, hw, rfl⟩ := hrel
          subst hw
          go_wp2
          go_ret
          exact ⟨rfl, rfl⟩
end Go.Proofs.YtheiageokcgbhaaGreatDoor.Pz
/-
  Lists: trimmed of the program.
-/
namespace Go.Proofs.YtheiageokcgbhaaGreatDoor.Pz
open Go.RowKit
theorem trimBs_fn (s : Str) (w : World) (hl : s.length ≤ 1000000) :
    Calls Tryz.prog 122 #[.string ⟨s.toArray⟩, .string ⟨#[92]⟩] w fun e w' => e = .returned (.string ⟨((s.reverse.dropWhile (([92] : Str).contains ·)).reverse).toArray⟩) ∧ Below w.heap.size w w' :=
  Any.strings_TrimRight_laid Tryz.lays162 (by kernel_rfl) ⟨s.toArray⟩ ⟨#[92]⟩ w (by rw [Lib.size_mk]; omega) (by decide) (ascii_of_all (by decide))
set_option maxRecDepth 100000 in
set_option maxHeartbeats 1000000 in
theorem trimmed_fn (s : Str) (hs : s.length ≤ 1000000) (w : World) :
    Calls Tryz.prog 75 #[.string ⟨s.toArray⟩] w fun e w' => e = .returned (.string ⟨(trimE s).toArray⟩) ∧ Below w.heap.size w w' := by
  have HT := hid (trimL_fn s hs w)
  have hcl := cutL_len s
  obtain ⟨R, hR⟩ : ∃ R, R = trimE s := ⟨_, rfl⟩
  rw [← hR]
  rw [trimE] at hR
  generalize cutL s = s1 at HT hR hcl
  have HR := hid hR
  clear hR
  go_enter Tryz.func75, Tryz.ntmps75
  go_wp2_with fail
  (with_reducible refine HT.out.mono ?_); rintro e w1 ⟨rfl, hw⟩; subst w1
  go_wp2
  go_loopg [0] s1.length (fun k sv wr => ∃ r : Str, sv = .string ⟨r.reverse.toArray⟩ ∧ R = (cutR r).reverse ∧ Below w.heap.size w wr ∧ k = r.length ∧ r.length ≤ s1.length)
  case atStart => exact ⟨s1.reverse, by rw [List.reverse_reverse], HR.out, Below.refl _ _, by simp, by simp⟩
  case round =>
    obtain ⟨r, rfl, hr, hb, rfl, hle⟩ := hrel
    have HB := hid hb
    cases r with
    | nil =>
      have hsz : (⟨([] : Str).reverse.toArray⟩ : ByteArray).size = 0 := rfl
      rw [cutR] at hr
      subst hr
      clear HR hb
      go_wp2
      go_ret
      exact ⟨rfl, HB.out⟩
    | cons c t =>
      have hx := last_get c t
      have hi := init_ext c t
      have hemp : (c :: t).reverse.isEmpty = false := by simp
      have hsz : (⟨(c :: t).reverse.toArray⟩ : ByteArray).size = t.length + 1 := by rw [Lib.size_mk]; simp
      generalize hq : (c :: t).reverse = q at hx hi hemp hsz ⊢
      have HQ := hid hq
      clear hq
      have hszt : (⟨t.reverse.toArray⟩ : ByteArray).size = t.length := by rw [Lib.size_mk]; simp
      have hwc := hid (white_fn c wr)
      simp only [List.length_cons] at hle
      have htr := trimBs_fn t.reverse wr (by simp; omega)
      rw [List.reverse_reverse] at htr
      have hsd := slashes_drop t
      obtain ⟨m, hm⟩ : ∃ m, m = (t.dropWhile (([92] : Str).contains ·)).length := ⟨_, rfl⟩
      rw [← hm] at hsd
      generalize t.dropWhile (([92] : Str).contains ·) = d at htr hm
      have hszd : (⟨d.reverse.toArray⟩ : ByteArray).size = m := by rw [Lib.size_mk, hm]; simp
      have hsl : (t.length : Int) - (m : Int) = (slashes t : Nat) := by omega
      obtain ⟨sl, hsln⟩ : ∃ sl, sl = slashes t := ⟨_, rfl⟩
      rw [← hsln] at hsl
      have HTR := hid htr
      have hml : m ≤ t.length := by omega
      have htl : t.length ≤ 1000000 := by omega
      clear htr hsd
      cases hw : white c with
      | true =>
        rw [hw] at hwc
        by_cases hodd : sl % 2 = 1
        · have hR2 : R = q := by rw [hr, cutR, hw, ← hsln, show (sl % 2 == 0) = false by rw [hodd]; rfl, ← HQ.out]; rfl
          have HE := hid hR2
          clear hr HR hR2 hw hb hm hsln
          go_wp2_with fail
          (with_reducible refine hwc.out.mono ?_); rintro e w1 ⟨rfl, hw⟩; subst w1
          go_wp2_with fail
          (with_reducible refine HTR.out.mono ?_); rintro e w1 ⟨rfl, hb1⟩
          have HB1 := hid (HB.out.trans (hb1.mono HB.out.size))
          clear hb1
          go_wp2
          go_ret
          exact ⟨by rw [HE.out] <;> rfl, HB1.out⟩
        · have hev : sl % 2 = 0 := by omega
          have hR2 : R = (cutR t).reverse := by rw [hr, cutR, hw, ← hsln, hev]; rfl
          have HE := hid hR2
          clear hr HR hR2 hw hb hm hsln
          go_wp2_with fail
          (with_reducible refine hwc.out.mono ?_); rintro e w1 ⟨rfl, hw⟩; subst w1
          go_wp2_with fail
          (with_reducible refine HTR.out.mono ?_); rintro e w1 ⟨rfl, hb1⟩
          have HB1 := hid (HB.out.trans (hb1.mono HB.out.size))
          clear hb1
          go_wp2
          go_roundg t.length
          case measure => simp
          case rel => exact ⟨t, by rw [← hi], HE.out, HB1.out, rfl, by omega⟩
      | false =>
        rw [hw] at hwc
        have hR2 : R = q := by rw [hr, cutR, hw, ← HQ.out]; rfl
        have HE := hid hR2
        clear hr HR hR2 hw hb hm hsln
        go_wp2_with fail
        (with_reducible refine hwc.out.mono ?_); rintro e w1 ⟨rfl, hw⟩; subst w1
        go_wp2
        go_ret
        exact ⟨by rw [HE.out] <;> rfl, HB.out⟩
end Go.Proofs.YtheiageokcgbhaaGreatDoor.Pz
/-
  Lists: trimming of the reference.
-/
namespace Go.Proofs.YtheiageokcgbhaaGreatDoor.Pz
open Go.RowKit
set_option maxRecDepth 100000 in
set_option maxHeartbeats 1000000 in
theorem hasR_fn (s : Str) (c : UInt8) (hs : s.length ≤ 1000000) (w : World) :
    Calls Tryz.prog 164 #[.string ⟨s.toArray⟩, .int .u8 c.toNat] w fun e w' => e = .returned (.bool (s.contains c)) ∧ w' = w := by
  have hsz : (⟨s.toArray⟩ : ByteArray).size = s.length := Lib.size_mk _
  obtain ⟨R, hR⟩ : ∃ R, R = s.contains c := ⟨_, rfl⟩
  rw [← hR]
  have HR := hid hR
  clear hR
  go_enter Tryz.func164, Tryz.ntmps164
  go_wp2
  go_loopg [8] s.length (fun k iv wr => ∃ (i : Nat) (rest : Str), iv = .int .i64 (i : Nat) ∧ At s rest i ∧ R = rest.contains c ∧ wr = w ∧ k = rest.length)
  case atStart => exact ⟨0, s, rfl, At.start s, HR.out, rfl, rfl⟩
  case round =>
    obtain ⟨i, rest, rfl, ha, hr, hw, rfl⟩ := hrel
    replace hw := hw.symm
    subst hw
    cases rest with
    | nil =>
      have hge : s.length ≤ i := ha.nil_iff.1 rfl
      have hF : R = false := hr
      subst hF
      clear hr HR
      go_wp2
      go_ret
      exact ⟨rfl, rfl⟩
    | cons d t =>
      have hlt := ha.lt
      have hx := ha.byte
      have ha2 := hid ha.tail
      by_cases hdc : d = c
      · subst hdc
        have hT : R = true := by rw [hr, List.contains_cons]; simp
        subst hT
        clear hr HR ha
        go_wp2
        go_ret
        exact ⟨rfl, rfl⟩
      · have hne : ((d.toNat : Int) == (c.toNat : Int)) = false := by
          rw [beq_eq_false_iff_ne]
          intro h
          exact hdc (UInt8.toNat_inj.1 (by omega))
        have hT : R = t.contains c := by rw [hr, List.contains_cons, show (c == d) = false by simpa using fun h => hdc h.symm, Bool.false_or]
        have HT := hid hT
        clear hr HR hT ha
        go_wp2
        go_roundg t.length
        case measure => simp
        case rel => exact ⟨i + 1, t, by go_num, ha2.out, HT.out, rfl, rfl⟩
set_option maxRecDepth 100000 in
set_option maxHeartbeats 1000000 in
theorem trimLR_fn (s : Str) (_ : s.length ≤ 1000000) (w : World) :
    Calls Tryz.prog 124 #[.string ⟨s.toArray⟩, .string ⟨#[9, 10, 11, 12, 13, 32]⟩, .bool true, .bool false] w fun e w' => e = .returned (.string ⟨(cutL s).toArray⟩) ∧ w' = w := by
  obtain ⟨R, hR⟩ : ∃ R, R = cutL s := ⟨_, rfl⟩
  rw [← hR]
  have HR := hid hR
  clear hR
  go_enter Tryz.func124, Tryz.ntmps124
  go_wp2
  go_loopg [0] s.length (fun k sv wr => ∃ rest : Str, sv = .string ⟨rest.toArray⟩ ∧ R = cutL rest ∧ wr = w ∧ k = rest.length ∧ rest.length ≤ s.length)
  case atStart => exact ⟨s, rfl, HR.out, rfl, rfl, Nat.le_refl _⟩
  case round =>
    obtain ⟨rest, rfl, hr, hw, rfl, hle⟩ := hrel
    replace hw := hw.symm
    subst hw
    cases rest with
    | nil =>
      have hsz : (⟨([] : Str).toArray⟩ : ByteArray).size = 0 := rfl
      rw [cutL] at hr
      have HE := hid hr
      clear hr HR
      go_wp2
      go_loopg [0] 0 (fun k sv wr => sv = .string ⟨R.toArray⟩ ∧ wr = w ∧ k = 0)
      case atStart => exact ⟨by rw [HE.out] <;> rfl, rfl, rfl⟩
      case round =>
        obtain ⟨rfl, hw, rfl⟩ := hrel
        subst hw
        go_wp2
        go_ret
        exact ⟨rfl, rfl⟩
    | cons c t =>
      have hI := hasR_fn whiteB c (by decide) w
      rw [white_has] at hI
      have HC := hid (show Calls Tryz.prog 164 #[.string ⟨#[9, 10, 11, 12, 13, 32]⟩, .int .u8 c.toNat] w fun e w' => e = .returned (.bool (white c)) ∧ w' = w from hI)
      have hx := (At.start (c :: t)).byte
      have hemp : (c :: t).isEmpty = false := rfl
      have hsz : (⟨(c :: t).toArray⟩ : ByteArray).size = t.length + 1 := Lib.size_mk _
      have htl := tail_ext c t
      simp only [List.length_cons] at hle
      cases hw : white c with
      | true =>
        rw [hw] at HC
        have hR2 : R = cutL t := by rw [hr, cutL, if_pos hw]
        have HE := hid hR2
        clear hr HR hR2 hI hw
        go_wp2_with fail
        (with_reducible refine HC.out.mono ?_); rintro e w1 ⟨rfl, hw⟩; subst w1
        go_wp2
        go_roundg t.length
        case measure => simp
        case rel => exact ⟨t, by rw [← htl], HE.out, rfl, rfl, by omega⟩
      | false =>
        rw [hw] at HC
        have hR2 : R = c :: t := by rw [hr, cutL, hw]; rfl
        have HE := hid hR2
        clear hr HR hR2 hI hw
        go_wp2_with fail
        (with_reducible refine HC.out.mono ?_); rintro e w1 ⟨rfl, hw⟩; subst w1
        go_wp2
        go_loopg [0] 0 (fun k sv wr => sv = .string ⟨R.toArray⟩ ∧ wr = w ∧ k = 0)
        case atStart => exact ⟨by rw [HE.out] <;> rfl, rfl, rfl⟩
        case round =>
          obtain ⟨rfl, hw, rfl⟩ := hrel
          subst hw
          go_wp2
          go_ret
          exact ⟨rfl, rfl⟩
theorem slash_get (c d : UInt8) (t v : Str) (n : Nat) (h : t.drop n = d :: v) : ∀ h', (⟨((c :: t).reverse).toArray⟩ : ByteArray)[v.length]'h' = d := by
  have ha : At ((c :: t).reverse) (d :: ((t.take n).reverse ++ [c])) v.length := by
    have e : t = t.take n ++ (d :: v) := by rw [← h, List.take_append_drop]
    have e2 : (c :: t).reverse = v.reverse ++ (d :: ((t.take n).reverse ++ [c])) := by
      rw [List.reverse_cons]
      conv => lhs; rw [e]
      simp
    have hl := congrArg List.length e2
    refine ⟨?_, ?_⟩
    · rw [hl, List.length_append, List.length_reverse]
    · rw [e2, List.drop_append_of_le_length (by simp), List.drop_of_length_le (by simp)]; rfl
  exact ha.byte
set_option maxRecDepth 100000 in
set_option maxHeartbeats 2000000 in
theorem trimmedR_fn (s : Str) (hs : s.length ≤ 1000000) (w : World) :
    Calls Tryz.prog 77 #[.string ⟨s.toArray⟩] w fun e w' => e = .returned (.string ⟨(trimE s).toArray⟩) ∧ w' = w := by
  have HT := hid (trimLR_fn s hs w)
  have hcl := cutL_len s
  obtain ⟨R, hR⟩ : ∃ R, R = trimE s := ⟨_, rfl⟩
  rw [← hR]
  rw [trimE] at hR
  generalize cutL s = s1 at HT hR hcl
  have HR := hid hR
  clear hR
  go_enter Tryz.func77, Tryz.ntmps77
  go_wp2_with fail
  (with_reducible refine HT.out.mono ?_); rintro e w1 ⟨rfl, hw⟩; subst w1
  go_wp2
  go_loopg [0] s1.length (fun k sv wr => ∃ r : Str, sv = .string ⟨r.reverse.toArray⟩ ∧ R = (cutR r).reverse ∧ wr = w ∧ k = r.length ∧ r.length ≤ s1.length)
  case atStart => exact ⟨s1.reverse, by rw [List.reverse_reverse], HR.out, rfl, by simp, by simp⟩
  case round =>
    obtain ⟨r, rfl, hr, hw, rfl, hle⟩ := hrel
    replace hw := hw.symm
    subst hw
    cases r with
    | nil =>
      have hsz : (⟨([] : Str).reverse.toArray⟩ : ByteArray).size = 0 := rfl
      rw [cutR] at hr
      subst hr
      clear HR
      go_wp2
      go_ret
      exact ⟨rfl, rfl⟩
    | cons c t =>
      have hx := last_get c t
      have hi := init_ext c t
      have hemp : (c :: t).reverse.isEmpty = false := by simp
      have hsz : (⟨(c :: t).reverse.toArray⟩ : ByteArray).size = t.length + 1 := by rw [Lib.size_mk]; simp
      have hsg := slash_get c
      have hsg2 := fun d v n (h : t.drop n = d :: v) => hsg d t v n h
      clear hsg
      generalize hq : (c :: t).reverse = q at hx hi hemp hsz hsg2 ⊢
      have HQ := hid hq
      clear hq
      have hwc := hid (whiteR_fn c w)
      simp only [List.length_cons] at hle
      have htl : t.length ≤ 1000000 := by omega
      cases hw : white c with
      | true =>
        rw [hw] at hwc
        have hR2 : R = if slashes t % 2 = 0 then (cutR t).reverse else q := by
          rw [hr, cutR, hw, Bool.true_and]
          by_cases h : slashes t % 2 = 0
          · rw [if_pos h, h]; rfl
          · rw [if_neg h, show (slashes t % 2 == 0) = false by simpa using h, ← HQ.out]; rfl
        have HE := hid hR2
        have HSG := hid hsg2
        clear hsg2
        clear hr HR hR2 hw
        go_wp2_with fail
        (with_reducible refine hwc.out.mono ?_); rintro e w1 ⟨rfl, hw⟩; subst w1
        go_wp2
        go_loopg [3] t.length (fun k nv wr => ∃ (n : Nat) (u : Str), nv = .int .i64 (n : Nat) ∧ t.drop n = u ∧ slashes t = n + slashes u ∧ n + u.length = t.length ∧ wr = w ∧ k = u.length)
        case atStart => exact ⟨0, t, rfl, rfl, by omega, by omega, rfl, rfl⟩
        case round =>
          obtain ⟨n, u, rfl, hd, hsl, hnu, hw, rfl⟩ := hrel
          replace hw := hw.symm
          subst hw
          have hfin : u = [] ∨ (∃ d v, u = d :: v ∧ d ≠ 92) ∨ (∃ v, u = 92 :: v) := by
            cases u with
            | nil => exact .inl rfl
            | cons d v =>
              by_cases h : d = 92
              · exact .inr (.inr ⟨v, by rw [h]⟩)
              · exact .inr (.inl ⟨d, v, rfl, h⟩)
          rcases hfin with rfl | ⟨d, v, rfl, h92⟩ | ⟨v, rfl⟩
          · have hs2 : slashes t = n := by rw [hsl]; rfl
            have hnt : n = t.length := by simpa using hnu
            have HE2 := HE.out
            rw [hs2] at HE2
            clear hsl hs2 HE hd
            by_cases hodd : n % 2 = 0
            · rw [if_pos hodd] at HE2
              have HE3 := hid HE2
              clear HE2
              go_wp2
              go_roundg t.length
              case measure => simp
              case rel => exact ⟨t, by rw [← hi], HE3.out, rfl, rfl, by omega⟩
            · rw [if_neg hodd] at HE2
              have hod : n % 2 = 1 := by omega
              have HE3 := hid HE2
              clear HE2
              go_wp2
              go_ret
              exact ⟨by rw [HE3.out] <;> rfl, rfl⟩
          · have hs2 : slashes t = n := by rw [hsl, slashes, show (d == 92) = false by simpa using h92]; rfl
            have hxd := HSG.out d v n hd
            have hb := byte_ne 92 h92 rfl
            simp only [List.length_cons] at hnu
            have hidx : (t.length : Int) + 1 - 2 - (n : Int) = (v.length : Int) := by omega
            have HE2 := HE.out
            rw [hs2] at HE2
            clear hsl hs2 HE hd HSG
            by_cases hodd : n % 2 = 0
            · rw [if_pos hodd] at HE2
              have HE3 := hid HE2
              clear HE2
              go_wp2
              go_roundg t.length
              case measure => simp
              case rel => exact ⟨t, by rw [← hi], HE3.out, rfl, rfl, by omega⟩
            · rw [if_neg hodd] at HE2
              have hod : n % 2 = 1 := by omega
              have HE3 := hid HE2
              clear HE2
              go_wp2
              go_ret
              exact ⟨by rw [HE3.out] <;> rfl, rfl⟩
          · have hs2 : slashes t = (n + 1) + slashes v := by rw [hsl, slashes, if_pos (show ((92 : UInt8) == 92) = true from rfl)]; omega
            have hxd := HSG.out 92 v n hd
            simp only [List.length_cons] at hnu
            have hidx : (t.length : Int) + 1 - 2 - (n : Int) = (v.length : Int) := by omega
            have hd2 : t.drop (n + 1) = v := by rw [← List.drop_drop, hd]; rfl
            have HD2 := hid hd2
            have HS2 := hid hs2
            clear hsl hs2 hd HSG hd2
            go_wp2
            go_roundg v.length
            case measure => simp
            case rel => exact ⟨n + 1, v, by go_num, HD2.out, HS2.out, by omega, rfl, rfl⟩
      | false =>
        rw [hw] at hwc
        have hR2 : R = q := by rw [hr, cutR, hw, ← HQ.out]; rfl
        have HE := hid hR2
        clear hr HR hR2 hw
        go_wp2_with fail
        (with_reducible refine hwc.out.mono ?_); rintro e w1 ⟨rfl, hw⟩; subst w1
        go_wp2
        go_ret
        exact ⟨by rw [HE.out] <;> rfl, rfl⟩
end Go.Proofs.YtheiageokcgbhaaGreatDoor.Pz
/-
  Contracts of the library, laid at this program by the kit's shelf tools.
-/
namespace Go.Proofs.YtheiageokcgbhaaGreatDoor.Pz
open Go.Shelf
def Tryz.lays156_ren : Go.Shelf.Ren := ⟨fun | 156 => 76 | 165 => 123 | 166 => 72 | 169 => 68 | 240 => 119 | 241 => 163 | 276 => 160 | 277 => 183 | n => n, fun | 31 => 24 | 9 => 9 | 3 => 3 | 4 => 4 | 0 => 0 | 20 => 20 | 72 => 75 | 76 => 80 | 70 => 72 | 37 => 73 | 75 => 77 | 127 => 123 | 164 => 148 | 5 => 5 | 80 => 79 | n => n, fun | n => n⟩
theorem Tryz.lays156 : Go.Proofs.Lays.n156 Tryz.prog Tryz.lays156_ren := {
  mixed := by kernel_rfl
  f156 := Tryz.func76.trans (congrArg some (by kernel_rfl))
  f165 := Tryz.func123.trans (congrArg some (by kernel_rfl))
  f166 := Tryz.func72.trans (congrArg some (by kernel_rfl))
  f169 := Tryz.func68.trans (congrArg some (by kernel_rfl))
  f240 := Tryz.func119.trans (congrArg some (by kernel_rfl))
  f241 := Tryz.func163.trans (congrArg some (by kernel_rfl))
  f276 := Tryz.func160.trans (congrArg some (by kernel_rfl))
  f277 := Tryz.func183.trans (congrArg some (by kernel_rfl))
  t0 := Tryz.underlying0
  a0 := Tryz.isAgg0
  z0 := Tryz.sizeOf0
  v0 := Tryz.zeroValue0
  t3 := Tryz.underlying3
  a3 := Tryz.isAgg3
  z3 := Tryz.sizeOf3
  v3 := Tryz.zeroValue3
  t4 := Tryz.underlying4
  a4 := Tryz.isAgg4
  z4 := Tryz.sizeOf4
  v4 := Tryz.zeroValue4
  t9 := Tryz.underlying9
  a9 := Tryz.isAgg9
  z9 := Tryz.sizeOf9
  v9 := Tryz.zeroValue9
  t20 := Tryz.underlying20
  a20 := Tryz.isAgg20
  z20 := Tryz.sizeOf20
  v20 := Tryz.zeroValue20
  t31 := Tryz.underlying24
  a31 := Tryz.isAgg24
  z31 := Tryz.sizeOf24
  v31 := Tryz.zeroValue24
  t37 := Tryz.underlying73
  a37 := Tryz.isAgg73
  z37 := Tryz.sizeOf73
  v37 := Tryz.zeroValue73
  t70 := Tryz.underlying72
  a70 := Tryz.isAgg72
  z70 := Tryz.sizeOf72
  v70 := Tryz.zeroValue72
  t72 := Tryz.underlying75
  a72 := Tryz.isAgg75
  z72 := Tryz.sizeOf75
  v72 := Tryz.zeroValue75
  t75 := Tryz.underlying77
  a75 := Tryz.isAgg77
  z75 := Tryz.sizeOf77
  v75 := Tryz.zeroValue77
  t76 := Tryz.underlying80
  a76 := Tryz.isAgg80
  z76 := Tryz.sizeOf80
  v76 := Tryz.zeroValue80
  t127 := Tryz.underlying123
  a127 := Tryz.isAgg123
  z127 := Tryz.sizeOf123
  v127 := Tryz.zeroValue123
  t164 := Tryz.underlying148
  a164 := Tryz.isAgg148
  z164 := Tryz.sizeOf148
  v164 := Tryz.zeroValue148 }
theorem Tryz.Builder_Extra_156 : Builder.Extra Tryz.prog Tryz.lays156_ren := {
  sizeBuilder := by kernel_rfl
  liesBuilder := by kernel_rfl
  t5 := Tryz.underlying5
  a5 := Tryz.isAgg5
  z5 := Tryz.sizeOf5
  v5 := Tryz.zeroValue5
  infoByte := by kernel_rfl
  cellsByte := by kernel_rfl
  sizeByte := by kernel_rfl
  neB5 := by decide }
open Go.RowKit in
theorem Tryz.strings_Join (bk o c : Nat) (xs : List ByteArray) (sep : ByteArray) (w : World) (hcells : ∀ (j : Nat) x, xs[j]? = some x → w.cell? ⟨bk, o + j, none⟩ = some (.string x)) (hbk : bk < w.heap.size) (hN : xs.length ≤ 140737488355328) (hcap : xs.length ≤ c) (hlen : (Lib.join (xs.map (·.data.toList)) sep.data.toList).length ≤ 140737488355328) :
    Calls Tryz.prog 76 #[.slice (some ⟨bk, o, none⟩) xs.length c, .string sep] w fun e w' => e = .returned (.string ⟨(Lib.join (xs.map (·.data.toList)) sep.data.toList).toArray⟩) ∧ Below w.heap.size w w' := Any.strings_Join Tryz.lays156 Tryz.Builder_Extra_156 bk o c xs sep w hcells hbk hN hcap hlen
open Go.RowKit in
theorem Tryz.strings_Join_none (a : Option Addr) (c : Nat) (sep : ByteArray) (w : World) :
    Calls Tryz.prog 76 #[.slice a 0 c, .string sep] w fun e w' => e = .returned (.string ⟨#[]⟩) ∧ w' = w := Any.strings_Join_none Tryz.lays156 Tryz.Builder_Extra_156 a c sep w
def Tryz.lays212_ren : Go.Shelf.Ren := ⟨fun | 212 => 120 | 263 => 161 | 264 => 162 | n => n, fun | 46 => 124 | 51 => 150 | 146 => 151 | 53 => 153 | 148 => 154 | n => n, fun | n => n⟩
theorem Tryz.lays212 : Go.Proofs.Lays.n212 Tryz.prog Tryz.lays212_ren := {
  mixed := by kernel_rfl
  f212 := Tryz.func120.trans (congrArg some (by kernel_rfl))
  f263 := Tryz.func161.trans (congrArg some (by kernel_rfl))
  f264 := Tryz.func162.trans (congrArg some (by kernel_rfl))
  t46 := Tryz.underlying124
  a46 := Tryz.isAgg124
  z46 := Tryz.sizeOf124
  v46 := Tryz.zeroValue124
  t51 := Tryz.underlying150
  a51 := Tryz.isAgg150
  z51 := Tryz.sizeOf150
  v51 := Tryz.zeroValue150
  t53 := Tryz.underlying153
  a53 := Tryz.isAgg153
  z53 := Tryz.sizeOf153
  v53 := Tryz.zeroValue153
  t146 := Tryz.underlying151
  a146 := Tryz.isAgg151
  z146 := Tryz.sizeOf151
  v146 := Tryz.zeroValue151
  t148 := Tryz.underlying154
  a148 := Tryz.isAgg154
  z148 := Tryz.sizeOf154
  v148 := Tryz.zeroValue154 }
open Go.RowKit Go.Lib in
theorem Tryz.bits_Mul (x y : Nat) (hx : x < 18446744073709551616) (hy : y < 18446744073709551616) (w : World) :
    Calls Tryz.prog 120 #[.int .u64 x, .int .u64 y] w fun e w' => e = .returned (.tuple #[.int .u64 ((x * y / 18446744073709551616 : Nat) : Int), .int .u64 ((x * y % 18446744073709551616 : Nat) : Int)]) ∧ w' = w := Any.bits_Mul Tryz.lays212 x y hx hy w
end Go.Proofs.YtheiageokcgbhaaGreatDoor.Pz
/-
  Lists: Concat of both.
-/
namespace Go.Proofs.YtheiageokcgbhaaGreatDoor.Pz
open Go.RowKit
theorem join_spread : ∀ l : List Str, Lib.join l [32] = spread l
  | [] => rfl
  | [a] => Lib.join_one a _
  | a :: b :: l => by
    have ih := join_spread (b :: l)
    rw [Lib.join_cons] at ih
    rw [Lib.join_cons, spread, ← ih]
    simp [Lib.joinTail]
theorem joinS_fn (l : List Str) (v : Value) (w : World) (hv : StrsAt w v l) (hb : sumS l ≤ 1000000) :
    Calls Tryz.prog 76 #[v, .string ⟨#[32]⟩] w fun e w' => e = .returned (.string ⟨(spread l).toArray⟩) ∧ Below w.heap.size w w' := by
  obtain ⟨a, cap, rfl, hcap, hcell⟩ := hv
  cases l with
  | nil => exact (Tryz.strings_Join_none a cap ⟨#[32]⟩ w).mono fun e w' h => ⟨h.1, by rw [h.2]; exact Below.refl _ _⟩
  | cons x l =>
    obtain ⟨p, rfl, hbk, hc⟩ := hcell 0 (by simp)
    have hsp := World.cell?_spot hc
    obtain ⟨bk, o, spot⟩ := p
    obtain rfl : spot = none := by simpa [Addr.add] using hsp
    have hlen := sumS_len (x :: l)
    have hm : ((x :: l).map fun s : Str => (⟨s.toArray⟩ : ByteArray)).map (·.data.toList) = x :: l := by
      rw [List.map_map]
      conv => rhs; rw [← List.map_id (x :: l)]
      rfl
    have h := Tryz.strings_Join bk o cap ((x :: l).map fun s : Str => (⟨s.toArray⟩ : ByteArray)) ⟨#[32]⟩ w (fun j y hy => by
      rw [List.getElem?_map] at hy
      cases hj : (x :: l)[j]? with
      | none => rw [hj] at hy; cases hy
      | some z =>
        rw [hj] at hy
        have hy := Option.some.inj hy
        subst hy
        obtain ⟨hjl, hz⟩ := List.getElem?_eq_some_iff.1 hj
        obtain ⟨q, hq, _, hcq⟩ := hcell j hjl
        have hq := Option.some.inj hq
        subst hq
        rw [add_none, hz] at hcq
        exact hcq) hbk (by rw [List.length_map]; omega) (by rw [List.length_map]; exact hcap) (by
        rw [hm, show (⟨#[32]⟩ : ByteArray).data.toList = [32] from rfl, join_spread]
        have := spread_len (x :: l)
        omega)
    rw [hm, show (⟨#[32]⟩ : ByteArray).data.toList = [32] from rfl, join_spread, List.length_map] at h
    exact h
theorem sumS_take : ∀ (l : List Str) (i : Nat), sumS (l.take i) ≤ sumS l
  | [], i => by simp
  | a :: l, 0 => by simp [sumS]
  | a :: l, i + 1 => by
    have := sumS_take l i
    rw [List.take_succ_cons, sumS, sumS]
    omega
set_option maxRecDepth 100000 in
set_option maxHeartbeats 1000000 in
theorem concat_fn (l : List Str) (v : Value) (w : World) (hv : StrsAt w v l) (hb : sumS l ≤ 1000000) :
    Calls Tryz.prog 34 #[v] w fun e w' => e = .returned (.string ⟨(concatE l).toArray⟩) ∧ Below w.heap.size w w' := by
  obtain ⟨a, cap, rfl, hcap, hcell⟩ := hv
  obtain ⟨n, hn⟩ : ∃ n, n = l.length := ⟨_, rfl⟩
  have HN := hid hn
  have hnb : n ≤ 1000000 := by have := sumS_len l; omega
  have HV := hid hcell
  have HCT := hid (fun i (h : i < l.length) => (show catE (l.take (i + 1)) = if (trimE l[i]).isEmpty then catE (l.take i) else catE (l.take i) ++ [trimE l[i]] by rw [List.take_succ_eq_append_getElem h, catE_app]))
  have HSM := hid (fun i (h : i < l.length) => (show l[i].length ≤ 1000000 by have := sumS_mem l l[i] (List.getElem_mem h); omega))
  have HCL := hid (fun i => (show (catE (l.take i)).length ≤ 1000000 by have h1 := catE_sum (l.take i); have h2 := sumS_len (catE (l.take i)); have h3 := sumS_take l i; omega))
  have HCS := hid (show sumS (catE l) ≤ 1000000 by have := catE_sum l; omega)
  have HALL := hid (show l.take n = l by rw [hn]; exact List.take_length)
  rw [← hn] at hcap ⊢
  obtain ⟨R, hR⟩ : ∃ R, R = concatE l := ⟨_, rfl⟩
  rw [← hR]
  have HR := hid hR
  clear hR hcell hn hb
  go_enter Tryz.func34, Tryz.ntmps34
  go_wp2_with fail
  go_loopg [3, 8] n (fun k ov iv wr => ∃ i : Nat, iv = .int .i64 (i : Nat) ∧ i ≤ n ∧ RowS w.heap.size wr ov (catE (l.take i)) ∧ Below w.heap.size w wr ∧ k = n - i)
  case atStart => exact ⟨0, rfl, Nat.zero_le _, by rw [List.take_zero, catE]; exact RowS.nil _ _, Below.refl _ _, by simp⟩
  case round =>
    obtain ⟨i, rfl, hi, hrow, hbl, rfl⟩ := hrel
    have hsw := hbl.size
    rcases Nat.lt_or_ge i n with hlt | hge
    · have hlt' : i < l.length := by rw [← HN.out]; exact hlt
      obtain ⟨p, rfl, hbb, hcw⟩ := HV.out i hlt'
      have hcw1 : wr.cell? (p.add i) = some (.string ⟨l[i].toArray⟩) := by rw [hbl.cell (p := p.add i) (by rw [add_block]; exact hbb)]; exact hcw
      have hz0 : i = 0 → wr.cell? p = some (.string ⟨l[i].toArray⟩) := by
        intro h0
        subst h0
        exact hcw1
      have hct := HCT.out i hlt'
      have hlm := HSM.out i hlt'
      have hcl := HCL.out i
      generalize l[i] = s at hcw1 hct hlm hz0
      have hT := trimmed_fn s hlm wr
      generalize trimE s = x at hT hct
      have HT := hid hT
      obtain ⟨nx, hnx⟩ : ∃ nx, nx = catE (l.take (i + 1)) := ⟨_, rfl⟩
      rw [← hnx] at hct
      have HNX := hid hnx
      generalize catE (l.take i) = cu at hrow hct hcl
      have HCTX := hid hct
      have HROW := hid hrow
      clear hT hct hcw hnx hrow
      obtain ⟨ao, co, rfl⟩ := HROW.out.shape
      have main : ∀ (P0 : Prop), P0 → P0 := fun _ h => h
      cases x with
      | nil =>
        have hne : (⟨([] : Str).toArray⟩ : ByteArray).size = 0 := rfl
        have hnx2 : nx = cu := HCTX.out
        have HNX2 := hid (show catE (l.take (i + 1)) = cu by rw [← HNX.out, hnx2])
        clear HCTX HNX hnx2
        by_cases h0 : i = 0
        · subst h0
          replace hcw1 := hz0 rfl
          clear hz0
          go_wp2_with fail
          (with_reducible refine HT.out.mono ?_); rintro e w1 ⟨rfl, hb1⟩
          have HB1 := hid (hbl.trans (hb1.mono hsw))
          have HR1 := hid (HROW.out.on hb1)
          clear hb1
          go_wp2
          go_roundg (n - (0 + 1))
          case measure => omega
          case rel => exact ⟨0 + 1, by go_num, by omega, by rw [HNX2.out]; exact HR1.out, HB1.out, rfl⟩
        · clear hz0
          go_wp2_with fail
          (with_reducible refine HT.out.mono ?_); rintro e w1 ⟨rfl, hb1⟩
          have HB1 := hid (hbl.trans (hb1.mono hsw))
          have HR1 := hid (HROW.out.on hb1)
          clear hb1
          go_wp2
          go_roundg (n - (i + 1))
          case measure => omega
          case rel => exact ⟨i + 1, by go_num, by omega, by rw [HNX2.out]; exact HR1.out, HB1.out, rfl⟩
      | cons xc xt =>
        have hemp : (xc :: xt).isEmpty = false := rfl
        have hnx2 : nx = cu ++ [xc :: xt] := HCTX.out
        have HNX2 := hid (show catE (l.take (i + 1)) = cu ++ [xc :: xt] by rw [← HNX.out, hnx2])
        clear HCTX HNX hnx2
        generalize xc :: xt = x at HT hemp HNX2
        by_cases h0 : i = 0
        · subst h0
          replace hcw1 := hz0 rfl
          clear hz0
          go_wp2_with fail
          (with_reducible refine HT.out.mono ?_); rintro e w1 ⟨rfl, hb1⟩
          have HB1 := hid (hbl.trans (hb1.mono hsw))
          have HR1 := hid (HROW.out.on hb1)
          have hz := HB1.out.size
          have hdn : cu.length ≤ 10000000 := by omega
          clear hb1
          go_wp2_with (at_builtin; go_loud (refine app_one (w := w1) rfl rfl (.tmp 16) (.tmp 18) rfl w.heap.size _ cu x rfl HR1.out rfl hz hdn ?_))
          intro v2 w2 hr2 hg2 hv2
          have HB2 := hid (HB1.out.grown hg2 hz fun k hk => (HR1.out.lt k hk).2)
          have HR2 := hid hr2
          clear hr2 hg2 hv2
          go_wp2
          go_roundg (n - (0 + 1))
          case measure => omega
          case rel => exact ⟨0 + 1, by go_num, by omega, by rw [HNX2.out]; exact HR2.out, HB2.out, rfl⟩
        · clear hz0
          go_wp2_with fail
          (with_reducible refine HT.out.mono ?_); rintro e w1 ⟨rfl, hb1⟩
          have HB1 := hid (hbl.trans (hb1.mono hsw))
          have HR1 := hid (HROW.out.on hb1)
          have hz := HB1.out.size
          have hdn : cu.length ≤ 10000000 := by omega
          clear hb1
          go_wp2_with (at_builtin; go_loud (refine app_one (w := w1) rfl rfl (.tmp 16) (.tmp 18) rfl w.heap.size _ cu x rfl HR1.out rfl hz hdn ?_))
          intro v2 w2 hr2 hg2 hv2
          have HB2 := hid (HB1.out.grown hg2 hz fun k hk => (HR1.out.lt k hk).2)
          have HR2 := hid hr2
          clear hr2 hg2 hv2
          go_wp2
          go_roundg (n - (i + 1))
          case measure => omega
          case rel => exact ⟨i + 1, by go_num, by omega, by rw [HNX2.out]; exact HR2.out, HB2.out, rfl⟩
    · obtain rfl : i = n := by omega
      rw [HALL.out] at hrow
      have HJ := hid (joinS_fn (catE l) _ wr hrow.strs HCS.out)
      have HR2 := hid (show spread (catE l) = R from HR.out.symm)
      rw [HR2.out] at HJ
      obtain ⟨ao, co, rfl⟩ := hrow.shape
      clear hrow HR2 HR
      go_wp2_with fail
      (with_reducible refine HJ.out.mono ?_); rintro e w1 ⟨rfl, hb1⟩
      have HB1 := hid (hbl.trans (hb1.mono hsw))
      clear hb1
      go_wp2
      go_ret
      exact ⟨rfl, HB1.out⟩
theorem cat_nil (x : Str) : (⟨#[]⟩ : ByteArray) ++ ⟨x.toArray⟩ = ⟨x.toArray⟩ := by
  rw [ByteArray.ext_iff, ByteArray.data_append]
  simp
theorem cat_mid (o x : Str) : (⟨o.toArray⟩ : ByteArray) ++ ⟨#[32]⟩ ++ ⟨x.toArray⟩ = ⟨(o ++ 32 :: x).toArray⟩ := by
  rw [ByteArray.ext_iff, ByteArray.data_append, ByteArray.data_append]
  simp
set_option maxRecDepth 100000 in
set_option maxHeartbeats 1000000 in
theorem concatR_fn (l : List Str) (v : Value) (w : World) (hv : StrsAt w v l) (hb : sumS l ≤ 1000000) :
    Calls Tryz.prog 35 #[v] w fun e w' => e = .returned (.string ⟨(concatE l).toArray⟩) ∧ w' = w := by
  obtain ⟨a, cap, rfl, hcap, hcell⟩ := hv
  obtain ⟨n, hn⟩ : ∃ n, n = l.length := ⟨_, rfl⟩
  have HN := hid hn
  have hnb : n ≤ 1000000 := by have := sumS_len l; omega
  have HV := hid hcell
  have HCT := hid (fun i (h : i < l.length) => (show concatE (l.take (i + 1)) = if (trimE l[i]).isEmpty then concatE (l.take i) else if (concatE (l.take i)).isEmpty then trimE l[i] else concatE (l.take i) ++ 32 :: trimE l[i] by rw [List.take_succ_eq_append_getElem h, concatE_app]))
  have HSM := hid (fun i (h : i < l.length) => (show l[i].length ≤ 1000000 by have := sumS_mem l l[i] (List.getElem_mem h); omega))
  have HCL := hid (fun i => (show (concatE (l.take i)).length ≤ 1000000 by have h1 := concatE_len (l.take i); have h2 := sumS_take l i; omega))
  have HALL := hid (show l.take n = l by rw [hn]; exact List.take_length)
  rw [← hn] at hcap ⊢
  obtain ⟨R, hR⟩ : ∃ R, R = concatE l := ⟨_, rfl⟩
  rw [← hR]
  have HR := hid hR
  clear hR hcell hn hb
  go_enter Tryz.func35, Tryz.ntmps35
  go_wp2_with fail
  go_loopg [3, 8] n (fun k ov iv wr => ∃ (i : Nat) (o : Str), iv = .int .i64 (i : Nat) ∧ ov = .string ⟨o.toArray⟩ ∧ i ≤ n ∧ o = concatE (l.take i) ∧ wr = w ∧ k = n - i)
  case atStart => exact ⟨0, [], rfl, rfl, Nat.zero_le _, by rw [List.take_zero]; rfl, rfl, by simp⟩
  case round =>
    obtain ⟨i, o, rfl, rfl, hi, ho, hw, rfl⟩ := hrel
    replace hw := hw.symm
    subst hw
    rcases Nat.lt_or_ge i n with hlt | hge
    · have hlt' : i < l.length := by rw [← HN.out]; exact hlt
      obtain ⟨p, rfl, hbb, hcw1⟩ := HV.out i hlt'
      have hz0 : i = 0 → w.cell? p = some (.string ⟨l[i].toArray⟩) := by
        intro h0
        subst h0
        exact hcw1
      have hct := HCT.out i hlt'
      have hlm := HSM.out i hlt'
      generalize l[i] = s at hcw1 hct hlm hz0
      have hT := trimmedR_fn s hlm w
      have hxl : (trimE s).length ≤ 1000000 := by have := trimE_len s; omega
      have hol : o.length ≤ 1000000 := by rw [ho]; exact HCL.out i
      generalize trimE s = x at hT hct hxl
      have hsx : (⟨x.toArray⟩ : ByteArray).size = x.length := Lib.size_mk _
      rw [← ho] at hct
      have HT := hid hT
      have HCTX := hid hct
      have HO := hid ho
      clear hT hct ho
      have hso : (⟨o.toArray⟩ : ByteArray).size = o.length := Lib.size_mk _
      by_cases h0 : i = 0
      · subst h0
        replace hcw1 := hz0 rfl
        clear hz0
        obtain rfl : o = [] := by rw [HO.out, List.take_zero]; rfl
        cases x with
        | nil =>
          go_wp2_with fail
          (with_reducible refine HT.out.mono ?_); rintro e w1 ⟨rfl, hw⟩; subst w1
          go_wp2
          go_roundg (n - (0 + 1))
          case measure => omega
          case rel => exact ⟨0 + 1, [], by go_num, rfl, by omega, HCTX.out.symm, rfl, rfl⟩
        | cons xc xt =>
          have hemp : (xc :: xt).isEmpty = false := rfl
          have hnx2 := HCTX.out
          have HNX2 := hid (show concatE (l.take (0 + 1)) = xc :: xt from hnx2)
          clear HCTX hnx2
          generalize xc :: xt = x at HT hemp HNX2 hxl hsx
          go_wp2_with fail
          (with_reducible refine HT.out.mono ?_); rintro e w1 ⟨rfl, hw⟩; subst w1
          go_wp2
          go_roundg (n - (0 + 1))
          case measure => omega
          case rel => exact ⟨0 + 1, x, by go_num, by simp; exact cat_nil x, by omega, HNX2.out.symm, rfl, rfl⟩
      · clear hz0
        cases x with
        | nil =>
          go_wp2_with fail
          (with_reducible refine HT.out.mono ?_); rintro e w1 ⟨rfl, hw⟩; subst w1
          go_wp2
          go_roundg (n - (i + 1))
          case measure => omega
          case rel => exact ⟨i + 1, o, by go_num, rfl, by omega, HCTX.out.symm, rfl, rfl⟩
        | cons xc xt =>
          have hemp : (xc :: xt).isEmpty = false := rfl
          have hnx2 := HCTX.out
          rw [hemp, if_neg (by simp)] at hnx2
          have HNX2 := hid hnx2
          clear HCTX hnx2
          generalize xc :: xt = x at HT hemp HNX2 hxl hsx
          cases o with
          | nil =>
            go_wp2_with fail
            (with_reducible refine HT.out.mono ?_); rintro e w1 ⟨rfl, hw⟩; subst w1
            go_wp2
            go_roundg (n - (i + 1))
            case measure => omega
            case rel => exact ⟨i + 1, x, by go_num, by simp; exact cat_nil x, by omega, HNX2.out.symm, rfl, rfl⟩
          | cons oc ot =>
            have hempo : (oc :: ot).isEmpty = false := rfl
            have hnx2 := HNX2.out
            rw [hempo, if_neg (by simp)] at hnx2
            replace HNX2 := hid hnx2
            clear hnx2
            generalize oc :: ot = o at HO hempo HNX2 hso hol
            go_wp2_with fail
            (with_reducible refine HT.out.mono ?_); rintro e w1 ⟨rfl, hw⟩; subst w1
            go_wp2
            go_roundg (n - (i + 1))
            case measure => omega
            case rel => exact ⟨i + 1, o ++ 32 :: x, by go_num, by rw [← cat_mid], by omega, HNX2.out.symm, rfl, rfl⟩
    · obtain rfl : i = n := by omega
      rw [HALL.out] at ho
      have HE := hid (ho.trans HR.out.symm)
      clear ho HR
      go_wp2
      go_ret
      exact ⟨by rw [HE.out] <;> rfl, rfl⟩
end Go.Proofs.YtheiageokcgbhaaGreatDoor.Pz
/-
  Lists: slices.Repeat.
-/
namespace Go.Proofs.YtheiageokcgbhaaGreatDoor.Pz
open Go.RowKit
section
variable {ops : Array Oper} {rest : List Oper} {o : Oper} {a : Act} {Q : Exit → Act → World → Prop}
/-- 'make([]string, n)' -/
theorem mk_strs (w : World) (hgd : o.guard = none) (l c : Operand) (ho : o.op = Op.makeSlice 24 l c) (n : Nat) (L C : Int) (hl : a.eval l = .int .i64 L) (hc : a.eval c = .int .i64 C) (hL : L = (n : Int)) (hC : C = (n : Int)) (hn : n ≤ 1000000000)
    (h : ∀ (w' : World) (cur : List Value), cur.length = n → Hid (w'.heap[w.heap.size]? = some (.cells cur.toArray 9 (0, 0))) → Below w.heap.size w w' → wpList Tryz.prog ops Q rest (a.put o.dst (.slice (some ⟨w.heap.size, 0, none⟩) n n)) w') :
    wpList Tryz.prog ops Q (o :: rest) a w := by
  obtain ⟨i0, hi, hz0, hz1, hz2⟩ := info_parts Tryz.infoS
  subst hL
  subst hC
  have hm := run_make (P := Tryz.prog) w 24 9 i0 (.string ⟨#[]⟩) Tryz.underlying24 hi hz0 .i64 .i64 n n (by omega) (by omega) (by rw [hz2]; omega) (by omega)
  refine wpList_plain hgd fun K hK' => ?_
  unfold Oper.wp
  simp only [Int.toNat_natCast] at hm
  simp [execOp, ho, hl, hc, hm, Result.andThen]
  refine hK' _ _ (h _ (madeCells (Value.string ⟨#[]⟩).cells (n * i0.size)).toList ?_ ?_ ?_)
  · rw [Array.length_toList, size_madeCells, hz1, Nat.mul_one]
  · exact hid (by simpa using heap_alloc_new _ _)
  · exact (Below.refl _ w).alloc (Nat.le_refl _) _
end
theorem repL_add (l : List Str) (a : Nat) : ∀ b, repL l (a + b) = repL l a ++ repL l b
  | 0 => by rw [Nat.add_zero, repL, List.append_nil]
  | b + 1 => by rw [← Nat.add_assoc, repL, repL_add l a b, repL, List.append_assoc]
theorem repL_one (l : List Str) : repL l 1 = l := by rw [repL, repL, List.nil_append]
/-- what stands behind some whole copies is what stands at the front -/
theorem repL_period (l : List Str) (c q k : Nat) (hq : q ≤ c) (hk : q * l.length + k ≤ c * l.length) : ((repL l c).drop (q * l.length)).take k = (repL l c).take k := by
  obtain ⟨r, rfl⟩ : ∃ r, c = q + r := ⟨c - q, by omega⟩
  have e1 : (repL l (q + r)).drop (q * l.length) = repL l r := by
    rw [repL_add, List.drop_append_of_le_length (by rw [repL_len]; exact Nat.le_refl _), List.drop_of_length_le (by rw [repL_len]; exact Nat.le_refl _), List.nil_append]
  rw [e1]
  conv => rhs; rw [Nat.add_comm q r, repL_add]
  rw [List.take_append_of_le_length]
  rw [repL_len]
  rw [Nat.add_mul] at hk
  omega
theorem strCells_take (l : List Str) (k : Nat) : strCells (l.take k) = (strCells l).take k := by simp [strCells]
theorem strCells_drop (l : List Str) (k : Nat) : strCells (l.drop k) = (strCells l).drop k := by simp [strCells]
theorem splice_take {α : Type} (X cur : List α) (m k : Nat) (_ : cur.length = X.length) (h : cur.take m = X.take m) (hp : (X.drop m).take k = X.take k) (hk : m + k ≤ X.length) :
    (splice cur m (X.take k)).take (m + k) = X.take (m + k) := by
  have hlk : (X.take k).length = k := by rw [List.length_take]; omega
  unfold splice
  rw [hlk, ← List.append_assoc, h, List.take_append_of_le_length (by simp; omega), List.take_of_length_le (by simp; omega), ← hp, ← List.take_add]
theorem splice_head {α : Type} (X cur Y : List α) (hY : X.take Y.length = Y) (_ : Y.length ≤ cur.length) :
    (splice cur 0 Y).take Y.length = X.take Y.length := by
  unfold splice
  rw [List.take_zero, List.nil_append, List.take_append_of_le_length (Nat.le_refl _), List.take_length, hY]
set_option maxRecDepth 100000 in
set_option maxHeartbeats 1000000 in
theorem slRepeat_fn (l : List Str) (count : Nat) (v : Value) (w : World) (hv : StrsAt w v l) (h0 : 0 < l.length) (hc : 0 < count) (hb : count * l.length ≤ 10000) (hcb : count ≤ 10000) (hlb : l.length ≤ 10000) :
    Calls Tryz.prog 74 #[v, .int .i64 (count : Nat)] w fun e w' => Below w.heap.size w w' ∧ ∃ v, e = .returned v ∧ StrsAt w' v (repL l count) := by
  obtain ⟨a, cap, rfl, hcap, hcell⟩ := hv
  obtain ⟨p, rfl, hpb, _⟩ := hcell 0 h0
  obtain ⟨N, hN⟩ : ∃ N, N = count * l.length := ⟨_, rfl⟩
  have hM := Tryz.bits_Mul l.length count (by omega) (by omega) w
  have e1 : l.length * count / 18446744073709551616 = 0 := by rw [Nat.mul_comm, ← hN]; omega
  have e2 : l.length * count % 18446744073709551616 = N := by rw [Nat.mul_comm, ← hN]; omega
  rw [e1, e2] at hM
  have HM := hid hM
  have HL := hid (show N = (repL l count).length by rw [repL_len, hN])
  obtain ⟨X, hX⟩ : ∃ X, X = strCells (repL l count) := ⟨_, rfl⟩
  have hXl : X.length = N := by rw [hX, strCells_len, repL_len, hN]
  have hper : ∀ q k, q * l.length + k ≤ N → (X.drop (q * l.length)).take k = X.take k := by
    intro q k hk
    have hq : q ≤ count := by
      rcases Nat.lt_or_ge count q with h | h
      · have := Nat.mul_le_mul_right l.length h
        rw [Nat.succ_mul] at this
        omega
      · exact h
    have := repL_period l count q k hq (by omega)
    rw [hX, ← strCells_drop, ← strCells_take, this, strCells_take]
  have hfst : X.take l.length = strCells l := by
    obtain ⟨r, hr⟩ : ∃ r, count = 1 + r := ⟨count - 1, by omega⟩
    rw [hX, hr, repL_add, repL_one, strCells_app, List.take_append_of_le_length (by rw [strCells_len]; exact Nat.le_refl _), List.take_of_length_le (by rw [strCells_len]; exact Nat.le_refl _)]
  have hX1 : ∀ u ∈ X, u.oneCell' = true := by rw [hX]; exact strCells_one _
  have hsrc : ∀ j u, (strCells l)[j]? = some u → w.cell? (p.add j) = some u := by
    intro j u hj
    rw [strCells, List.getElem?_map] at hj
    cases hlj : l[j]? with
    | none => rw [hlj] at hj; cases hj
    | some z =>
      rw [hlj] at hj
      have hj := Option.some.inj hj
      subst hj
      obtain ⟨hjl, hz⟩ := List.getElem?_eq_some_iff.1 hlj
      obtain ⟨q, hq, _, hcq⟩ := hcell j hjl
      have hq := Option.some.inj hq
      subst hq
      rw [hz] at hcq
      exact hcq
  have hend : ∀ (u : World) (g : Nat) (cur : List Value), u.heap[g]? = some (.cells cur.toArray 9 (0, 0)) → cur.length = N → cur.take N = X.take N → StrsAt u (.slice (some ⟨g, 0, none⟩) N N) (repL l count) := by
    intro u g cur hg hcl ht
    rw [List.take_of_length_le (by omega), List.take_of_length_le (by omega)] at ht
    refine ⟨_, N, by rw [repL_len, hN], by rw [repL_len, hN]; exact Nat.le_refl _, fun i hi => ⟨_, rfl, (Array.getElem?_eq_some_iff.1 hg).1, ?_⟩⟩
    rw [add_none, Nat.zero_add, Lib.cell_of_heap hg, ht, hX]
    simp [strCells, hi]
  have HE := hid hend
  have HPER := hid hper
  have HSRC := hid hsrc
  have HF := hid hfst
  have HX1 := hid hX1
  have hNl : l.length ≤ N := by rw [hN]; exact Nat.le_mul_of_pos_left _ hc
  have hmul : ∃ q, l.length = q * l.length := ⟨1, by omega⟩
  obtain ⟨n, hn⟩ : ∃ n, n = l.length := ⟨_, rfl⟩
  have hsl : (strCells l).length = n := by rw [strCells_len, hn]
  have HSO := hid (strCells_one l)
  rw [← hn] at HPER HF h0 hcap hNl hM HM hmul hlb ⊢
  have HNL := hid hn
  have hNb : N ≤ 10000 := by rw [hN]; exact hb
  clear hcell hper hfst hsrc hX1 hX hend e1 e2 hM hN hb hn
  go_enter Tryz.func74, Tryz.ntmps74
  go_wp2_with fail
  (with_reducible refine HM.out.mono ?_); rintro e w1 ⟨rfl, hw⟩; subst hw
  go_wp2_with (first | (at_make; refine mk_strs _ rfl _ _ rfl N _ _ rfl rfl rfl rfl (by omega) ?_; intro w2 cur0 hcl0 hg0 hb0) | (refine wpList_copy_splice rfl (.tmp 31) (.tmp 32) 24 24 rfl 9 Tryz.underlying24 (by kernel_rfl) (some ⟨w1.heap.size, 0, none⟩) (some p) N N n cap rfl rfl w1.heap.size 0 cur0 9 hg0.out (strCells l) (by rw [hsl]; exact (Nat.min_eq_left hNl).symm) (fun _ => ⟨rfl, _, rfl, fun j u hj => by rw [hb0.cell (p := p.add j) (by rw [add_block]; exact hpb)]; exact HSRC.out j u hj⟩) (by omega) HSO.out w1.heap.size w1 hb0 (Nat.le_refl _) ?_; intro w3 hg3 hb3))
  go_loopg [8] (N - n) (fun k mv wr => ∃ (m q : Nat) (cur : List Value), mv = .int .i64 (m : Nat) ∧ m ≤ N ∧ 0 < m ∧ (m = q * n ∨ m = N) ∧ Hid (wr.heap[w1.heap.size]? = some (.cells cur.toArray 9 (0, 0))) ∧ cur.length = N ∧ cur.take m = X.take m ∧ Below w1.heap.size w1 wr ∧ k = N - m)
  case atStart => exact ⟨n, 1, splice cur0 0 (strCells l), by go_num, hNl, h0, .inl (by omega), hg3, by rw [length_splice _ _ _ (by omega)]; exact hcl0, by have h := splice_head X cur0 (strCells l) (by rw [hsl]; exact HF.out) (by omega); rw [hsl] at h; exact h, hb3, rfl⟩
  case round =>
    obtain ⟨m, q, cur, rfl, hmN, hm0, hmq, hg, hcl, hct, hbl, rfl⟩ := hrel
    have HCT := hid hct
    have HMQ := hid hmq
    clear hct hmq
    rcases Nat.lt_or_ge m N with hlt | hge
    · obtain ⟨k, hk⟩ : ∃ k, k = min m (N - m) := ⟨_, rfl⟩
      obtain ⟨cs, hcs⟩ : ∃ cs, cs = X.take k := ⟨_, rfl⟩
      have hkl : cs.length = k := by rw [hcs, List.length_take, hXl]; omega
      have HKM := hid hk
      have hk1 : 0 < k := by omega
      have hk2 : m + k ≤ N := by omega
      have hk3 : k ≤ m := by omega
      have hNm : ¬ N = m := by omega
      have HS1 := hid (show cs.length = Nat.min m (N - m) by rw [hkl]; exact hk)
      have HS2 := hid (show ∀ j u, cs[j]? = some u → wr.cell? ((⟨w1.heap.size, 0, none⟩ : Addr).add j) = some u by
        intro j u hj
        rw [add_none, Nat.zero_add, Lib.cell_of_heap hg.out]
        have hjk : j < k := by
          rcases Nat.lt_or_ge j k with h | h
          · exact h
          · rw [List.getElem?_eq_none (by omega)] at hj; cases hj
        rw [hcs, List.getElem?_take_of_lt hjk] at hj
        have h1 : (cur.take m)[j]? = (X.take m)[j]? := by rw [HCT.out]
        rw [List.getElem?_take_of_lt (by omega), List.getElem?_take_of_lt (by omega), hj] at h1
        simpa using h1)
      have HS4 := hid (show ∀ u ∈ cs, u.oneCell' = true from fun u hu => HX1.out u (List.mem_of_mem_take (by rw [← hcs]; exact hu)))
      have HNX := hid (show (splice cur m cs).take (m + k) = X.take (m + k) by
        have hq : m = q * n := by rcases HMQ.out with h | h <;> omega
        rw [hcs]
        refine splice_take X cur m k (by omega) HCT.out ?_ (by omega)
        rw [hq]
        exact HPER.out q k (by omega))
      have HSPL := hid (show (splice cur m cs).length = N by rw [length_splice _ _ _ (by omega)]; exact hcl)
      have HWR := hid (show IntKind.i64.wrap ((m : Int) + (k : Int)) = ((m + k : Nat) : Int) by rw [IntKind.wrap_i64]; omega)
      clear hk hcs
      go_wp2_with fail
      go_region_law (refine step_copy_splice rfl (.tmp 41) (.tmp 44) 24 24 rfl 9 Tryz.underlying24 (by kernel_rfl) (some ⟨w1.heap.size, m, none⟩) (some ⟨w1.heap.size, 0, none⟩) (N - m) (N - m) m N (by simp [Act.eval, Act.put]) (by simp [Act.eval, Act.put]) w1.heap.size m cur 9 hg.out cs HS1.out (fun _ => ⟨rfl, _, rfl, fun j u hj => HS2.out j u hj⟩) (by omega) HS4.out w1.heap.size w1 hbl.drew (Nat.le_refl _) ?_; intro w4 hg4 hb4)
      go_wp2
      go_roundg (N - (m + k))
      case measure => omega
      case rel =>
        refine ⟨m + k, 2 * q, splice cur m cs, by rw [HWR.out], hk2, by omega, ?_, hg4, HSPL.out, HNX.out, hb4, rfl⟩
        have := HKM.out
        rcases HMQ.out with h | h
        · rcases Nat.lt_or_ge (N - m) m with h2 | h2
          · exact .inr (by omega)
          · refine .inl ?_
            have h3 : k = m := by omega
            rw [h3, Nat.mul_assoc]
            omega
        · omega
    · obtain rfl : m = N := by omega
      have HR := hid (HE.out wr _ cur hg.out hcl HCT.out)
      go_wp2
      go_ret
      exact ⟨hbl, _, rfl, HR.out⟩
end Go.Proofs.YtheiageokcgbhaaGreatDoor.Pz
/-
  Lists: Repeat of both.
-/
namespace Go.Proofs.YtheiageokcgbhaaGreatDoor.Pz
open Go.RowKit
theorem strs_cells {w : World} {p : Addr} {n c : Nat} {l : List Str} (h : StrsAt w (.slice (some p) n c) l) : ∀ j u, (strCells l)[j]? = some u → w.cell? (p.add j) = some u := by
  intro j u hj
  obtain ⟨a, cap, e, _, hcell⟩ := h
  simp only [Value.slice.injEq] at e
  obtain ⟨e1, rfl, rfl⟩ := e
  subst e1
  rw [strCells, List.getElem?_map] at hj
  cases hlj : l[j]? with
  | none => rw [hlj] at hj; cases hj
  | some z =>
    rw [hlj] at hj
    have hj := Option.some.inj hj
    subst hj
    obtain ⟨hjl, hz⟩ := List.getElem?_eq_some_iff.1 hlj
    obtain ⟨q, hq, _, hcq⟩ := hcell j hjl
    have hq := Option.some.inj hq
    subst hq
    rw [hz] at hcq
    exact hcq
/-- 'append(s, t...)' where t lies somewhere -/
theorem app_strs {w : World} {ops : Array Oper} {rest : List Oper} {o : Oper} {a : Act} {Q : Exit → Act → World → Prop} (hgd : o.guard = none) (s x : Operand)
    (ho : o.op = .call { callee := .builtin .append, args := #[s, x], argTypes := #[24, 24] }) (B : Nat) (v : Value) (p : Addr) (n c : Nat) (l m : List Str)
    (hs : a.eval s = v) (hown : RowS B w v l) (hx : a.eval x = .slice (some p) n c) (hrow : StrsAt w (.slice (some p) n c) m) (hB : B ≤ w.heap.size) (hl : l.length + m.length ≤ 10000000)
    (h : ∀ v' w', RowS B w' v' (l ++ m) → w.grownBy w' v.ownBlock → (∀ g, v'.ownBlock = some g → v.ownBlock = some g ∨ w.heap.size ≤ g) → wpList Tryz.prog ops Q rest (a.put o.dst v') w') :
    wpList Tryz.prog ops Q (o :: rest) a w := by
  obtain ⟨i0, hi, hz0, hz1, hz2⟩ := info_parts Tryz.infoS
  have hn : n = m.length := by
    obtain ⟨_, _, e, _⟩ := hrow
    simp only [Value.slice.injEq] at e
    exact e.2.1
  subst hn
  refine wpList_append_own_at w hgd s x 24 ho B 9 i0 (.string ⟨#[]⟩) 1 16 Tryz.underlying24 hi hz0 hz1 hz2 rfl (by decide) v l.length (strCells l) hs hown p m.length c (strCells m) hx (by rw [strCells_len]; omega) (strs_cells hrow) (strCells_one m) ?_ ?_ hB ?_
  · unfold maxLen; omega
  · omega
  · intro v' w' hrow' hg' _ hat
    refine h v' w' ?_ hg' ?_
    · show w'.ownsRow B 9 1 v' (l ++ m).length (strCells (l ++ m))
      rw [strCells_app, List.length_append]
      exact hrow'
    · intro g2 hgv
      rcases hat with h2 | h2
      · exact .inl (by rw [← h2]; exact hgv)
      · rw [h2] at hgv
        have := Option.some.inj hgv
        exact .inr (by omega)
theorem repE_none {l : List Str} {n : Int} (h : n ≤ 0 ∨ l = []) : repE l n = ([], 0) := by
  have e : repL l n.toNat = [] := by
    rcases h with h | rfl
    · rw [show n.toNat = 0 by omega]; rfl
    · exact repL_nil _
  rw [repE, e]
  rfl
theorem repE_many {l : List Str} {c : Nat} (h : 10000 < c * l.length) : repE l (c : Nat) = ([], 4) := by
  rw [repE, Int.toNat_natCast]
  exact joinRes_no (.inl (by rw [repL_len]; exact h))
set_option maxRecDepth 100000 in
set_option maxHeartbeats 1000000 in
theorem repeat_fn (l : List Str) (v : Value) (n : Int) (w : World) (hm : ML w) (hv : StrsAt w v l) (hn : n ≤ 50) (hl : l.length ≤ 100000) :
    Calls Tryz.prog 32 #[v, .int .i64 n] w fun e w' => e = .returned (.tuple #[.string ⟨(repE l n).1.toArray⟩, .int .i64 (repE l n).2]) ∧ Below w.heap.size w w' := by
  have HV := hid hv
  obtain ⟨a, cap, rfl, hcap, _⟩ := hv
  have HM := hid hm
  clear hm
  by_cases h1 : n ≤ 0
  · have HE := hid (repE_none (l := l) (.inl h1))
    go_enter Tryz.func32, Tryz.ntmps32
    go_wp2
    go_ret2
    exact ⟨by rw [HE.out] <;> rfl, Below.refl _ _⟩
  by_cases h2 : l.length = 0
  · have HE := hid (repE_none (l := l) (n := n) (.inr (List.eq_nil_of_length_eq_zero h2)))
    go_enter Tryz.func32, Tryz.ntmps32
    go_wp2
    go_ret2
    exact ⟨by rw [HE.out] <;> rfl, Below.refl _ _⟩
  obtain ⟨c, rfl⟩ : ∃ c : Nat, n = (c : Nat) := ⟨n.toNat, by omega⟩
  obtain ⟨k, hk⟩ : ∃ k, k = l.length := ⟨_, rfl⟩
  have HK := hid hk
  rw [← hk] at hcap HV hl h2 ⊢
  have hc0 : ¬ ((c : Int) == 0) = true := by simp; omega
  have hq : (10000 : Int) / (c : Int) = ((10000 / c : Nat) : Int) := by simp
  have hq2 : Int.tdiv 10000 (c : Int) = ((10000 / c : Nat) : Int) := by
    rw [Int.tdiv_eq_ediv_of_nonneg (by omega)]; exact hq
  have hqb : 10000 / c ≤ 10000 := Nat.div_le_self _ _
  have hqm : k > 10000 / c ↔ 10000 < c * k := by
    rw [gt_iff_lt, Nat.div_lt_iff_lt_mul (by omega), Nat.mul_comm]
  obtain ⟨q, hqq⟩ : ∃ q, q = 10000 / c := ⟨_, rfl⟩
  rw [← hqq] at hq hq2 hqb hqm
  have HQQ := hid hqq
  clear hqq
  by_cases h3 : k > q
  · have HE := hid (repE_many (l := l) (c := c) (by rw [← hk]; exact hqm.1 h3))
    clear hk
    go_enter Tryz.func32, Tryz.ntmps32
    go_wp2
    go_ret2
    exact ⟨by rw [HE.out] <;> rfl, Below.refl _ _⟩
  · have hle : c * k ≤ 10000 := by
      have := fun h => h3 (hqm.2 h)
      omega
    have HR := hid (slRepeat_fn l c _ w HV.out (by omega) (by omega) (by rw [← hk]; exact hle) (by omega) (by
      have := Nat.le_mul_of_pos_left k (show 0 < c by omega)
      omega))
    have HJ := hid (fun (v : Value) (u : World) (hb : Below w.heap.size w u) (h : StrsAt u v (repL l c)) => joinA_fn (repL l c) v u (HM.out.below hb) h (by rw [repL_len, ← hk]; omega))
    rw [repE, Int.toNat_natCast]
    generalize joinRes (repL l c) = jr at HJ ⊢
    obtain ⟨j1, j2⟩ := jr
    dsimp only at HJ ⊢
    have HKK := hid hk
    clear hk hqm
    go_enter Tryz.func32, Tryz.ntmps32
    go_wp2_with fail
    (with_reducible refine HR.out.mono ?_); rintro e w1 ⟨hb1, v1, rfl, hv1⟩
    have hj := HJ.out v1 w1 hb1 hv1
    have HB1 := hid hb1
    clear hb1 hv1
    go_wp2_with fail
    (with_reducible refine hj.mono ?_); rintro e w2 ⟨rfl, hb2⟩
    have HB2 := hid (HB1.out.trans (hb2.mono HB1.out.size))
    clear hb2 hj
    go_wp2
    go_ret2
    exact ⟨rfl, HB2.out⟩
theorem repE_end {l : List Str} {n : Int} {i : Nat} (hi : (i : Int) ≤ n ∨ i = 0) (h : ¬ ((i : Int) < n) ∨ l = [] ∨ 10000 < (repL l i).length) : joinRes (repL l i) = repE l n := by
  rw [repE]
  rcases h with h | rfl | h
  · have : i = n.toNat := by omega
    rw [this]
  · rw [repL_nil, repL_nil]
  · rw [joinRes_no (.inl h), joinRes_no (.inl ?_)]
    rw [repL_len] at h ⊢
    rcases hi with hi | rfl
    · exact Nat.lt_of_lt_of_le h (Nat.mul_le_mul_right _ (by omega))
    · omega
set_option maxRecDepth 100000 in
set_option maxHeartbeats 1000000 in
theorem repeatR_fn (l : List Str) (v : Value) (n : Int) (w : World) (hv : StrsAt w v l) (hn : n ≤ 50) (hn2 : -9223372036854775808 ≤ n) (hl : l.length ≤ 100000) (hx : ∀ s ∈ l, s.length ≤ 1000000) :
    Calls Tryz.prog 33 #[v, .int .i64 n] w fun e w' => e = .returned (.tuple #[.string ⟨(repE l n).1.toArray⟩, .int .i64 (repE l n).2]) ∧ Below w.heap.size w w' := by
  have HV := hid hv
  obtain ⟨a, cap, rfl, hcap, hcell⟩ := hv
  have ha : 0 < l.length → ∃ p, a = some p := fun h => by obtain ⟨p, hp, _⟩ := hcell 0 h; exact ⟨p, hp⟩
  obtain ⟨k, hk⟩ : ∃ k, k = l.length := ⟨_, rfl⟩
  have HK := hid hk
  rw [← hk] at hcap HV hl ha ⊢
  obtain ⟨R, hR⟩ : ∃ R, R = repE l n := ⟨_, rfl⟩
  rw [← hR]
  have HEND := hid (fun (i : Nat) (h1 : (i : Int) ≤ n ∨ i = 0) (h2 : ¬ ((i : Int) < n) ∨ l = [] ∨ 10000 < (repL l i).length) => (repE_end h1 h2).trans hR.symm)
  have HLE := hid (fun i => repL_len l i)
  have HST := hid (fun i => (show repL l (i + 1) = repL l i ++ l from rfl))
  have HX := hid (fun i => (show ∀ s ∈ repL l i, s.length ≤ 1000000 from fun s hs => hx s (repL_mem l i s hs)))
  have HNIL := hid (fun (h : k = 0) => (show l = [] from List.eq_nil_of_length_eq_zero (by rw [← hk]; exact h)))
  clear hR hcell hk hx
  go_enter Tryz.func33, Tryz.ntmps33
  go_wp2_with fail
  go_loopg [6, 7] 51 (fun m ov iv wr => ∃ (i : Nat), iv = .int .i64 (i : Nat) ∧ ((i : Int) ≤ n ∨ i = 0) ∧ RowS w.heap.size wr ov (repL l i) ∧ Below w.heap.size w wr ∧ m = 51 - i ∧ i ≤ 50)
  case atStart => exact ⟨0, rfl, .inr rfl, RowS.nil _ _, Below.refl _ _, rfl, by omega⟩
  case round =>
    obtain ⟨i, rfl, hi, hrow, hbl, rfl, hi50⟩ := hrel
    obtain ⟨ao, co, rfl⟩ := hrow.shape
    obtain ⟨z, hz⟩ : ∃ z, z = (repL l i).length := ⟨_, rfl⟩
    have hzb : z = i * k := by rw [hz, HLE.out, HK.out]
    have hzz : z ≤ 5000000 := by
      rw [hzb]
      exact Nat.le_trans (Nat.mul_le_mul hi50 hl) (by omega)
    have HROW := hid hrow
    have HZ := hid hz
    rw [← hz] at HROW ⊢
    have HI := hid hi
    clear hrow hz hzb hi
    have fin : (¬ ((i : Int) < n) ∨ k = 0 ∨ 10000 < z) → joinRes (repL l i) = R := fun h => HEND.out i HI.out (by
      rcases h with h | h | h
      · exact .inl (by omega)
      · exact .inr (.inl (HNIL.out h))
      · exact .inr (.inr (by rw [← HZ.out]; exact h)))
    have HJ := hid (joinRA_fn (repL l i) _ wr HROW.out.strs (HX.out i) (by rw [← HZ.out]; omega))
    have HFIN := hid fin
    clear fin
    by_cases h1 : (i : Int) < n
    · by_cases h2 : k = 0
      · rw [HFIN.out (.inr (.inl h2))] at HJ
        go_wp2_with fail
        (with_reducible refine HJ.out.mono ?_); rintro e w1 ⟨rfl, hb1⟩
        have HB1 := hid (hbl.trans (hb1.mono hbl.size))
        clear hb1
        go_wp2
        go_ret2
        exact ⟨rfl, HB1.out⟩
      · by_cases h3 : z ≤ 10000
        · obtain ⟨p, rfl⟩ := ha (by omega)
          have HV2 := hid (HV.out.below hbl)
          have hsz := hbl.size
          have hlen : (repL l i).length + l.length ≤ 10000000 := by rw [← HZ.out, ← HK.out]; omega
          go_wp2_with (at_builtin; go_loud (refine app_strs (w := wr) rfl (.tmp 23) (.tmp 24) rfl w.heap.size _ p k cap (repL l i) l rfl HROW.out rfl HV2.out hsz hlen ?_))
          intro v2 w2 hr2 hg2 hv2
          have HB2 := hid (hbl.grown hg2 hsz fun k hk => (HROW.out.lt k hk).2)
          have HR2 := hid hr2
          clear hr2 hg2 hv2
          go_wp2
          go_roundg (51 - (i + 1))
          case measure => omega
          case rel => exact ⟨i + 1, by go_num, .inl (by omega), by rw [HST.out]; exact HR2.out, HB2.out, rfl, by omega⟩
        · rw [HFIN.out (.inr (.inr (by omega)))] at HJ
          go_wp2_with fail
          (with_reducible refine HJ.out.mono ?_); rintro e w1 ⟨rfl, hb1⟩
          have HB1 := hid (hbl.trans (hb1.mono hbl.size))
          clear hb1
          go_wp2
          go_ret2
          exact ⟨rfl, HB1.out⟩
    · rw [HFIN.out (.inl h1)] at HJ
      go_wp2_with fail
      (with_reducible refine HJ.out.mono ?_); rintro e w1 ⟨rfl, hb1⟩
      have HB1 := hid (hbl.trans (hb1.mono hbl.size))
      clear hb1
      go_wp2
      go_ret2
      exact ⟨rfl, HB1.out⟩
end Go.Proofs.YtheiageokcgbhaaGreatDoor.Pz
