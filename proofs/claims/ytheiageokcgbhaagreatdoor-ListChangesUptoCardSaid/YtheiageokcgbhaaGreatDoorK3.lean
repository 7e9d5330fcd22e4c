/-
  Part K3 of the proofs of this seat: contracts of functions and plain facts, merged from 7 texts.
-/
import Derived.BigQuiet
import Derived.Deep.QuietTactic
import Derived.Test.YtheiageokcgbhaaGreatDoorK0
import Derived.Test.YtheiageokcgbhaaGreatDoorK1
import Derived.Test.YtheiageokcgbhaaGreatDoorK2
/-
  The reference 02: closing.
-/
namespace Go.Proofs.YtheiageokcgbhaaGreatDoor.Pz
open Go.RowKit
/-- the place of the brace that closes, in a text of n bytes; -1 if there is none -/
def closeI (n : Nat) : Option (Str × Str) → Int
  | some (_, r) => ((n - r.length - 1 : Nat) : Int)
  | none => -1
theorem closeI_pre (n : Nat) (p : Str) (o : Option (Str × Str)) : closeI n (pre p o) = closeI n o := by
  cases o with
  | none => rfl
  | some x => rfl
set_option maxRecDepth 100000 in
set_option maxHeartbeats 4000000 in
theorem closingR_fn {s t : Str} {i : Nat} (ha : At s (123 :: t) i) (hs : s.length ≤ 1000000) (w : World) :
    Calls Tryz.prog 97 #[.string ⟨s.toArray⟩, .int .i64 (i : Nat)] w fun e w' => e = .returned (.int .i64 (closeI s.length (brace 0 t))) ∧ w' = w := by
  have hsz : (⟨s.toArray⟩ : ByteArray).size = s.length := Lib.size_mk _
  obtain ⟨R, hR⟩ : ∃ R, R = closeI s.length (brace 0 t) := ⟨_, rfl⟩
  rw [← hR]
  have HR := hid hR
  have HA := hid ha
  have hil : i ≤ 1000000 := by have := ha.len; omega
  clear hR ha
  go_enter Tryz.func97, Tryz.ntmps97
  go_wp2_with fail
  go_loopg [5, 6] (s.length + 2 - i) (fun k ov iv wr => ∃ (o j : Nat), ov = .int .i64 (o : Nat) ∧ iv = .int .i64 (j : Nat) ∧ j ≤ s.length + 1 ∧ o ≤ j ∧ wr = w ∧ k = s.length + 2 - j ∧
    ((o = 0 ∧ At s (123 :: t) j) ∨ (∃ d rest, o = d + 1 ∧ At s rest j ∧ R = closeI s.length (brace d rest)) ∨ (s.length ≤ j ∧ R = -1)))
  case atStart => exact ⟨0, i, rfl, rfl, by have := HA.out.len; omega, Nat.zero_le _, rfl, rfl, .inl ⟨rfl, HA.out⟩⟩
  case round =>
    obtain ⟨o, j, rfl, rfl, hj, hoj, hw, rfl, hcase⟩ := hrel
    replace hw := hw.symm
    subst hw
    rcases hcase with ⟨rfl, ha⟩ | ⟨d, rest, rfl, ha, hr⟩ | ⟨hge, hr⟩
    · have hlt := ha.lt
      have hx := ha.byte
      go_wp2
      go_roundg (s.length + 2 - (j + 1))
      case measure => omega
      case rel => exact ⟨1, j + 1, by go_num, by go_num, by omega, by omega, rfl, rfl, .inr (.inl ⟨0, t, rfl, ha.tail, HR.out⟩)⟩
    · have HR2 := hid hr
      clear hr HR HA
      cases rest with
      | nil =>
        have hge : s.length ≤ j := ha.nil_iff.1 rfl
        go_wp2
        go_ret
        exact ⟨by rw [HR2.out]; rfl, rfl⟩
      | cons c t' =>
        have hlt := ha.lt
        have hx := ha.byte
        have hlen := ha.len
        simp only [List.length_cons] at hlen
        have hR3 := HR2.out
        rw [brace_cons] at hR3
        by_cases h92 : c = 92
        · subst h92
          rw [if_pos (by decide)] at hR3
          cases t' with
          | nil =>
            have HR3 := hid (show R = -1 from hR3)
            clear hR3 HR2
            go_wp2
            go_roundg (s.length + 2 - (j + 2))
            case measure => omega
            case rel => exact ⟨d + 1, j + 2, rfl, by rw [Value.int.injEq]; exact ⟨rfl, by omega⟩, by simp at hlen; omega, by omega, rfl, rfl, .inr (.inr ⟨by simp at hlen; omega, HR3.out⟩)⟩
          | cons e t' =>
            have hR4 : R = closeI s.length (brace d t') := by rw [hR3]; exact closeI_pre _ _ _
            have HR3 := hid hR4
            clear hR3 hR4 HR2
            go_wp2
            go_roundg (s.length + 2 - (j + 2))
            case measure => omega
            case rel => exact ⟨d + 1, j + 2, rfl, by rw [Value.int.injEq]; exact ⟨rfl, by omega⟩, by simp at hlen; omega, by omega, rfl, rfl, .inr (.inl ⟨d, t', rfl, ha.tail.tail, HR3.out⟩)⟩
        · have n92 := byte_ne 92 h92 rfl
          rw [if_neg (by simpa using h92)] at hR3
          by_cases h123 : c = 123
          · subst h123
            rw [if_pos (by decide), closeI_pre] at hR3
            have HR3 := hid hR3
            clear hR3 HR2
            go_wp2
            go_roundg (s.length + 2 - (j + 1))
            case measure => omega
            case rel => exact ⟨d + 1 + 1, j + 1, by go_num, by go_num, by omega, by omega, rfl, rfl, .inr (.inl ⟨d + 1, t', rfl, ha.tail, HR3.out⟩)⟩
          · have n123 := byte_ne 123 h123 rfl
            rw [if_neg (by simpa using h123)] at hR3
            by_cases h125 : c = 125
            · subst h125
              rw [if_pos (by decide)] at hR3
              cases d with
              | zero =>
                have HR3 := hid (show R = ((s.length - t'.length - 1 : Nat) : Int) from hR3)
                clear hR3 HR2
                go_wp2
                go_ret
                exact ⟨ret_i (by rw [HR3.out]; omega), rfl⟩
              | succ d =>
                have hR4 : R = closeI s.length (brace d t') := by rw [hR3]; exact closeI_pre _ _ _
                have HR3 := hid hR4
                clear hR3 hR4 HR2
                have hne : (((d + 1 + 1 : Nat) : Int) - 1 == 0) = false := by rw [beq_eq_false_iff_ne]; omega
                go_wp2
                go_roundg (s.length + 2 - (j + 1))
                case measure => omega
                case rel => exact ⟨d + 1, j + 1, by rw [Value.int.injEq]; exact ⟨rfl, by omega⟩, by go_num, by omega, by omega, rfl, rfl, .inr (.inl ⟨d, t', rfl, ha.tail, HR3.out⟩)⟩
            · have n125 := byte_ne 125 h125 rfl
              rw [if_neg (by simpa using h125), closeI_pre] at hR3
              have HR3 := hid hR3
              clear hR3 HR2
              go_wp2
              go_roundg (s.length + 2 - (j + 1))
              case measure => omega
              case rel => exact ⟨d + 1, j + 1, rfl, by go_num, by omega, by omega, rfl, rfl, .inr (.inl ⟨d, t', rfl, ha.tail, HR3.out⟩)⟩
    · have HR2 := hid hr
      clear hr HR HA
      go_wp2
      go_ret
      rw [HR2.out]
      exact ⟨rfl, rfl⟩
end Go.Proofs.YtheiageokcgbhaaGreatDoor.Pz
/-
  The reference 01: Unescaped.
-/
namespace Go.Proofs.YtheiageokcgbhaaGreatDoor.Pz
open Go.RowKit
theorem unesc_one1 (l : Str) : (unesc l).1.length = 1 := by
  cases l with
  | nil => rfl
  | cons c t =>
    show (unesc1 c t).1.length = 1
    unfold unesc1
    split
    · rfl
    · split
      · rfl
      · split
        · split <;> rfl
        · split <;> rfl
set_option maxRecDepth 100000 in
set_option maxHeartbeats 1000000 in
theorem unescapedR_fn (s : Str) (hs : s.length ≤ 1000000) (w : World) :
    Calls Tryz.prog 99 #[.string ⟨s.toArray⟩] w fun e w' => e = .returned (.string ⟨(unescAll s).toArray⟩) ∧ Below w.heap.size w w' := by
  obtain ⟨R, hR⟩ : ∃ R, R = unescAll s := ⟨_, rfl⟩
  rw [← hR]
  have HR := hid hR
  clear hR
  go_enter Tryz.func99, Tryz.ntmps99
  go_wp2_with fail
  go_loopg [0, 3] s.length (fun k sv ov wr => ∃ (done l : Str), sv = .string ⟨l.toArray⟩ ∧ ov = .string ⟨done.toArray⟩ ∧ R = done ++ unescAll l ∧ done.length + l.length ≤ s.length ∧ Below w.heap.size w wr ∧ k = l.length)
  case atStart => exact ⟨[], s, rfl, rfl, by rw [HR.out]; rfl, by simp, Below.refl _ _, rfl⟩
  case round =>
    obtain ⟨done, l, rfl, rfl, ho, hdl, hbl, rfl⟩ := hrel
    have hsz : (⟨done.toArray⟩ : ByteArray).size = done.length := Lib.size_mk _
    have hsw := hbl.size
    cases l with
    | nil =>
      have HO := hid (show R = done by rw [ho, unescAll, List.append_nil])
      clear ho
      go_wp2
      go_ret
      rw [HO.out]
      exact ⟨rfl, hbl⟩
    | cons c t =>
      have hzz : (⟨(c :: t).toArray⟩ : ByteArray).size = t.length + 1 := by rw [Lib.size_mk]; simp
      rw [unescAll_cons] at ho
      simp only [List.length_cons] at hdl
      by_cases h92 : c = 92
      · subst h92
        rw [if_pos (by decide)] at ho
        have hu := suf_len (unesc_suf t)
        have hul := unesc_one1 t
        have HU := hid (unescR_fn t (by omega) wr)
        obtain ⟨p, hp⟩ := unesc_suf t
        obtain ⟨q, r, hqr⟩ : ∃ q r, unesc t = (q, r) := ⟨_, _, rfl⟩
        rw [hqr] at HU ho hu hul hp
        dsimp only at HU ho hu hul hp
        have hpl : t.length + 1 - r.length = p.length + 1 := by rw [← hp]; simp; omega
        rw [hpl] at HU
        have hex : (⟨(92 :: t).toArray⟩ : ByteArray).extract (p.length + 1) (t.length + 1) = ⟨r.toArray⟩ := by
          rw [Lib.extract_mk, ← hp]
          simp
        have hlp : p.length + 1 ≤ t.length + 1 := by rw [← hp]; simp
        have hqs : (⟨q.toArray⟩ : ByteArray).size = 1 := by rw [Lib.size_mk]; exact hul
        have happ : (⟨done.toArray⟩ : ByteArray) ++ ⟨q.toArray⟩ = ⟨(done ++ q).toArray⟩ := by rw [ByteArray.ext_iff]; simp
        have HP := hid ho
        have HX := hid hex
        have HPP := hid hp
        clear ho hqr hp hpl hex
        go_wp2_with fail
        (with_reducible refine HU.out.mono ?_); rintro e w1 ⟨rfl, hb1⟩
        have HB := hid (hbl.trans (hb1.mono hsw))
        clear hb1
        have hex := HX.out
        go_wp2
        go_roundg r.length
        case measure => simp only [List.length_cons]; omega
        case rel => exact ⟨done ++ q, r, rfl, rfl, by rw [HP.out, List.append_assoc], by rw [List.length_append]; omega, HB.out, rfl⟩
      · rw [if_neg (by simpa using h92)] at ho
        have HU := hid (unescNo_fn c t (by omega) h92 wr)
        have hex0 : (⟨(c :: t).toArray⟩ : ByteArray).extract 0 1 = ⟨[c].toArray⟩ := by rw [Lib.extract_mk]; simp
        have hex : (⟨(c :: t).toArray⟩ : ByteArray).extract 1 (t.length + 1) = ⟨t.toArray⟩ := by rw [Lib.extract_mk]; simp
        have hqs : (⟨[c].toArray⟩ : ByteArray).size = 1 := rfl
        have HP := hid ho
        clear ho
        go_wp2_with fail
        (with_reducible refine HU.out.mono ?_); rintro e w1 ⟨rfl, hw⟩
        subst hw
        go_wp2
        go_roundg t.length
        case measure => simp
        case rel => exact ⟨done ++ [c], t, rfl, by rw [Value.string.injEq, ByteArray.ext_iff]; simp, by rw [HP.out]; simp, by simp; omega, hbl, rfl⟩
end Go.Proofs.YtheiageokcgbhaaGreatDoor.Pz
/-
  The reference 02: element.
-/
namespace Go.Proofs.YtheiageokcgbhaaGreatDoor.Pz
open Go.RowKit
/-- what 'element' answers in a text of n bytes -/
def elAns (n : Nat) : Option (Str × Str) → Value
  | some (x, r) => if spaced r = true then .tuple #[.string ⟨x.toArray⟩, .int .i64 ((n - r.length : Nat) : Int)] else .tuple #[.string ⟨#[]⟩, .int .i64 (-1)]
  | none => .tuple #[.string ⟨#[]⟩, .int .i64 (-1)]
theorem elAns_yes {n : Nat} {x r : Str} (h : spaced r = true) : elAns n (some (x, r)) = .tuple #[.string ⟨x.toArray⟩, .int .i64 ((n - r.length : Nat) : Int)] := by
  show (if spaced r = true then _ else _) = _
  rw [if_pos h]
theorem elAns_no {n : Nat} {x r : Str} (h : spaced r = false) : elAns n (some (x, r)) = .tuple #[.string ⟨#[]⟩, .int .i64 (-1)] := by
  show (if spaced r = true then _ else _) = _
  rw [if_neg (by rw [h]; simp)]
theorem At.part {s p r : Str} {i : Nat} (h : At s (p ++ r) i) : (⟨s.toArray⟩ : ByteArray).extract i (i + p.length) = ⟨p.toArray⟩ := h.text
set_option maxRecDepth 100000 in
set_option maxHeartbeats 2000000 in
theorem element_brace {s t : Str} {i : Nat} (ha : At s (123 :: t) i) (hs : s.length ≤ 1000000) (w : World) :
    Calls Tryz.prog 52 #[.string ⟨s.toArray⟩, .int .i64 (i : Nat)] w fun e w' => e = .returned (elAns s.length (brace 0 t)) ∧ Below w.heap.size w w' := by
  have hsz : (⟨s.toArray⟩ : ByteArray).size = s.length := Lib.size_mk _
  have hlt := ha.lt
  have hx := ha.byte
  have hlen := ha.len
  simp only [List.length_cons] at hlen
  have hc := hid (closingR_fn ha hs w)
  have HA := hid ha
  cases hb : brace 0 t with
  | none =>
    rw [hb] at hc
    replace hc := hid (show Calls Tryz.prog 97 #[.string ⟨s.toArray⟩, .int .i64 (i : Nat)] w fun e w' => e = .returned (.int .i64 (-1)) ∧ w' = w from hc.out)
    clear ha hb
    go_enter Tryz.func52, Tryz.ntmps52
    go_wp2_with fail
    (with_reducible refine hc.out.mono ?_); rintro e w1 ⟨rfl, hw⟩; subst hw
    go_wp2
    go_ret2
    exact ⟨rfl, Below.refl _ _⟩
  | some y =>
    obtain ⟨x, r⟩ := y
    have ht := brace_text t.length t (Nat.le_refl _) 0 x r hb
    have htl : t.length = x.length + 1 + r.length := by rw [ht]; simp; omega
    have hk : s.length - r.length - 1 = i + 1 + x.length := by omega
    rw [hb] at hc
    replace hc := hid (show Calls Tryz.prog 97 #[.string ⟨s.toArray⟩, .int .i64 (i : Nat)] w fun e w' => e = .returned (.int .i64 ((i + 1 + x.length : Nat) : Int)) ∧ w' = w by rw [← hk]; exact hc.out)
    have hax : At s (x ++ (125 :: r)) (i + 1) := by rw [← ht]; exact ha.tail
    have hex := hax.text
    have har : At s r (i + 1 + x.length + 1) := hax.app.tail
    have hge : ¬ (((i + 1 + x.length : Nat) : Int) < 0) := by omega
    have hkr : s.length - r.length = i + 1 + x.length + 1 := by omega
    have hle3 : i + 1 + x.length ≤ s.length := by omega
    have HKR := hid hkr
    have HT := hid (And.intro htl hk)
    have HA2 := hid hax
    clear ha hb ht hax htl hk hkr HA
    cases r with
    | nil =>
      have hend : s.length = i + 1 + x.length + 1 := by have := har.len; simpa using this.symm
      have HE := hid hend
      have hend1 : ¬ ((i + 1 + x.length + 1 : Nat) < s.length) := by omega
      clear har hend
      go_enter Tryz.func52, Tryz.ntmps52
      go_wp2_with fail
      (with_reducible refine hc.out.mono ?_); rintro e w1 ⟨rfl, hw⟩; subst hw
      go_wp2
      go_ret2
      refine ⟨?_, Below.refl _ _⟩
      show _ = Ending.returned (elAns s.length (some (x, [])))
      rw [elAns_yes rfl, HKR.out]
      exact ret_si rfl (by omega)
    | cons d r =>
      have hlt2 := har.lt
      have hx2 := har.byte
      have hwc := hid (whiteR_fn d w)
      have HAR := hid har
      clear har
      cases hw : white d with
      | true =>
        rw [hw] at hwc
        go_enter Tryz.func52, Tryz.ntmps52
        go_wp2_with fail
        (with_reducible refine hc.out.mono ?_); rintro e w1 ⟨rfl, hw⟩; subst hw
        go_wp2_with fail
        (with_reducible refine hwc.out.mono ?_); rintro e w1 ⟨rfl, hw⟩; subst hw
        go_wp2
        go_ret2
        refine ⟨?_, Below.refl _ _⟩
        show _ = Ending.returned (elAns s.length (some (x, d :: r)))
        rw [elAns_yes (show spaced (d :: r) = true from hw), HKR.out]
        exact ret_si rfl (by omega)
      | false =>
        rw [hw] at hwc
        go_enter Tryz.func52, Tryz.ntmps52
        go_wp2_with fail
        (with_reducible refine hc.out.mono ?_); rintro e w1 ⟨rfl, hw⟩; subst hw
        go_wp2_with fail
        (with_reducible refine hwc.out.mono ?_); rintro e w1 ⟨rfl, hw⟩; subst hw
        go_wp2
        go_ret2
        refine ⟨?_, Below.refl _ _⟩
        show _ = Ending.returned (elAns s.length (some (x, d :: r)))
        rw [elAns_no (show spaced (d :: r) = false from hw)]
        exact rfl
end Go.Proofs.YtheiageokcgbhaaGreatDoor.Pz
/-
  The reference 02: element, quoted and bare; Split.
-/
namespace Go.Proofs.YtheiageokcgbhaaGreatDoor.Pz
open Go.RowKit
theorem quotedE_step (c : UInt8) (t : Str) (h34 : c ≠ 34) : (quotedE (c :: t)).map Prod.snd = if c = 92 then (quotedE (unesc t).2).map Prod.snd else (quotedE t).map Prod.snd := by
  rw [quotedE_cons, if_neg (by simpa using h34)]
  by_cases h : c = 92
  · rw [if_pos h, if_pos (by simpa using h)]
    cases quotedE (unesc t).2 with
    | none => rfl
    | some x => rfl
  · rw [if_neg h, if_neg (by simpa using h)]
    cases quotedE t with
    | none => rfl
    | some x => rfl
set_option maxRecDepth 100000 in
set_option maxHeartbeats 2000000 in
theorem element_quoted {s t : Str} {i : Nat} (ha : At s (34 :: t) i) (hs : s.length ≤ 1000000) (w : World) :
    Calls Tryz.prog 52 #[.string ⟨s.toArray⟩, .int .i64 (i : Nat)] w fun e w' => e = .returned (elAns s.length (quotedE t)) ∧ Below w.heap.size w w' := by
  have hsz : (⟨s.toArray⟩ : ByteArray).size = s.length := Lib.size_mk _
  have hlt := ha.lt
  have hx := ha.byte
  have hlen := ha.len
  simp only [List.length_cons] at hlen
  have HAT := hid ha.tail
  clear ha
  obtain ⟨R, hR⟩ : ∃ R, R = (quotedE t).map Prod.snd := ⟨_, rfl⟩
  have HR := hid hR
  clear hR
  go_enter Tryz.func52, Tryz.ntmps52
  go_wp2_with fail
  go_loopg [7] t.length (fun k ev wr => ∃ (e : Nat) (l : Str), ev = .int .i64 (e : Nat) ∧ At s l e ∧ i + 1 ≤ e ∧ R = (quotedE l).map Prod.snd ∧ Below w.heap.size w wr ∧ k = l.length)
  case atStart => exact ⟨i + 1, t, by go_num, HAT.out, Nat.le_refl _, HR.out, Below.refl _ _, rfl⟩
  case round =>
    obtain ⟨e, l, rfl, ha, h1, ho, hbl, rfl⟩ := hrel
    have hlen2 := ha.len
    have hsw := hbl.size
    cases l with
    | nil =>
      have hge : e = s.length := by simpa using hlen2
      subst hge
      have HN : Hid (quotedE t = none) := hid (by
        have h2 : (quotedE t).map Prod.snd = (quotedE []).map Prod.snd := by rw [← HR.out, ho]
        rw [quotedE] at h2
        simpa using h2)
      clear ho
      go_wp2
      go_ret2
      exact ⟨by rw [HN.out]; rfl, hbl⟩
    | cons c l =>
      have hlt2 := ha.lt
      have hx2 := ha.byte
      simp only [List.length_cons] at hlen2
      by_cases h34 : c = 34
      · subst h34
        have hq : ∃ x, quotedE t = some (x, l) := by
          have h2 : (quotedE t).map Prod.snd = some l := by
            rw [← HR.out, ho, quotedE_cons, if_pos (by decide)]
            rfl
          obtain ⟨y, hy, h3⟩ := Option.map_eq_some_iff.1 h2
          exact ⟨y.1, by rw [hy, ← h3]⟩
        obtain ⟨x, hq⟩ := hq
        obtain ⟨p, hp, hpx⟩ := quotedE_text _ t (Nat.le_refl _) x l hq
        have hap : At s (p ++ 34 :: l) (i + 1) := by rw [← hp]; exact HAT.out
        have hex := hap.text
        have hpe : i + 1 + p.length = e := by
          have h8 := hap.app.len
          simp only [List.length_cons] at h8
          omega
        rw [hpe] at hex
        have har := ha.tail
        have hun := hid (unescapedR_fn p (by omega) wr)
        rw [hpx] at hun
        have HQ := hid hq
        have hkr : s.length - l.length = e + 1 := by omega
        have HKR := hid hkr
        have hge : ¬ ((e : Int) ≥ (s.length : Int)) := by omega
        clear hq hp hap hpe hpx ho hkr
        cases l with
        | nil =>
          have hend : s.length = e + 1 := by have := har.len; simpa using this.symm
          have hend1 : ¬ (e + 1 < s.length) := by omega
          clear har hend
          go_wp2_with fail
          (with_reducible refine hun.out.mono ?_); rintro e2 w1 ⟨rfl, hb1⟩
          have HB := hid (hbl.trans (hb1.mono hsw))
          clear hb1
          go_wp2
          go_ret2
          refine ⟨?_, HB.out⟩
          rw [HQ.out]
          rw [elAns_yes rfl, HKR.out]
          exact ret_si rfl (by omega)
        | cons d r =>
          have hlt3 := har.lt
          have hx3 := har.byte
          have hwc := fun u => hid (whiteR_fn d u)
          clear har
          cases hw : white d with
          | true =>
            rw [hw] at hwc
            go_wp2_with fail
            (with_reducible refine hun.out.mono ?_); rintro e2 w1 ⟨rfl, hb1⟩
            have HB := hid (hbl.trans (hb1.mono hsw))
            clear hb1
            go_wp2_with fail
            (with_reducible refine (hwc _).out.mono ?_); rintro e2 w2 ⟨rfl, hw2⟩; subst hw2
            go_wp2
            go_ret2
            refine ⟨?_, HB.out⟩
            rw [HQ.out]
            rw [elAns_yes (show spaced (d :: r) = true from hw), HKR.out]
            exact ret_si rfl (by omega)
          | false =>
            rw [hw] at hwc
            go_wp2_with fail
            (with_reducible refine hun.out.mono ?_); rintro e2 w1 ⟨rfl, hb1⟩
            have HB := hid (hbl.trans (hb1.mono hsw))
            clear hb1
            go_wp2_with fail
            (with_reducible refine (hwc _).out.mono ?_); rintro e2 w2 ⟨rfl, hw2⟩; subst hw2
            go_wp2
            go_ret2
            refine ⟨?_, HB.out⟩
            rw [HQ.out]
            rw [elAns_no (show spaced (d :: r) = false from hw)]
            exact rfl
      · have n34 := byte_ne 34 h34 rfl
        rw [quotedE_step c l h34] at ho
        have hex : (⟨s.toArray⟩ : ByteArray).extract e s.length = ⟨(c :: l).toArray⟩ := At.all ha
        by_cases h92 : c = 92
        · subst h92
          rw [if_pos rfl] at ho
          have hu := suf_len (unesc_suf l)
          have HU := hid (unescR_fn l (by omega) wr)
          have HS := hid (unesc_suf l)
          generalize unesc l = qr at HU ho hu HS
          obtain ⟨q, r⟩ := qr
          dsimp only at HU ho hu HS
          obtain ⟨n, hn⟩ : ∃ n, n = l.length + 1 - r.length := ⟨_, rfl⟩
          rw [← hn] at HU
          have hn1 : 1 ≤ n := by omega
          have HN := hid hn
          have HO := hid ho
          have HA := hid ha
          have hmx : max (n : Int) 1 = (n : Int) := by omega
          have hen : e + n ≤ 1000000 := by omega
          clear hn ho h34 ha
          go_wp2_with fail
          (with_reducible refine HU.out.mono ?_); rintro e2 w1 ⟨rfl, hb1⟩
          have HB := hid (hbl.trans (hb1.mono hsw))
          clear hb1
          go_wp2
          go_roundg r.length
          case measure => simp only [List.length_cons]; omega
          case rel => exact ⟨e + n, r, by go_num, by have h9 := HA.out.tail.suf HS.out; have := HN.out; rw [show e + n = s.length - r.length by omega]; exact h9, by omega, HO.out, HB.out, rfl⟩
        · rw [if_neg h92] at ho
          have HU := hid (unescNo_fn c l (by omega) h92 wr)
          have HO := hid ho
          have HA := hid ha
          clear ho ha
          go_wp2_with fail
          (with_reducible refine HU.out.mono ?_); rintro e2 w1 ⟨rfl, hw⟩; subst hw
          go_wp2
          go_roundg l.length
          case measure => simp
          case rel => exact ⟨e + 1, l, by go_num, HA.out.tail, by omega, HO.out, hbl, rfl⟩
theorem bareE_step (c : UInt8) (t : Str) (hw : white c = false) : (bareE (c :: t)).2 = if c = 92 then (bareE (unesc t).2).2 else (bareE t).2 := by
  rw [bareE_cons, if_neg (by simp [hw])]
  by_cases h : c = 92
  · rw [if_pos h, if_pos (by simpa using h)]
    rfl
  · rw [if_neg h, if_neg (by simpa using h)]
    rfl
set_option maxRecDepth 100000 in
set_option maxHeartbeats 2000000 in
theorem element_bare {s t : Str} {c0 : UInt8} {i : Nat} (ha : At s (c0 :: t) i) (h1 : c0 ≠ 123) (h2 : c0 ≠ 34) (hs : s.length ≤ 1000000) (w : World) :
    Calls Tryz.prog 52 #[.string ⟨s.toArray⟩, .int .i64 (i : Nat)] w fun e w' => e = .returned (elAns s.length (some (bareE (c0 :: t)))) ∧ Below w.heap.size w w' := by
  have hsz : (⟨s.toArray⟩ : ByteArray).size = s.length := Lib.size_mk _
  have hlt := ha.lt
  have hx := ha.byte
  have hlen := ha.len
  simp only [List.length_cons] at hlen
  have n123 := byte_ne 123 h1 rfl
  have n34 := byte_ne 34 h2 rfl
  have HAT := hid ha
  clear ha h1 h2
  obtain ⟨R, hR⟩ : ∃ R, R = (bareE (c0 :: t)).2 := ⟨_, rfl⟩
  have HR := hid hR
  clear hR
  have fin : ∀ e, At s R e → i ≤ e → elAns s.length (some (bareE (c0 :: t))) = .tuple #[.string ⟨(bareE (c0 :: t)).1.toArray⟩, .int .i64 (e : Nat)] ∧ ∃ p, p.length ≤ 1000000 ∧ (⟨s.toArray⟩ : ByteArray).extract i e = ⟨p.toArray⟩ ∧ unescAll p = (bareE (c0 :: t)).1 := by
    intro e he hie
    obtain ⟨p, hp, hpx⟩ := bareE_text _ (c0 :: t) (Nat.le_refl _)
    have hsp := (bareE_suf _ (c0 :: t) (Nat.le_refl _)).2
    rw [← HR.out] at hp hsp
    have hap : At s (p ++ R) i := by rw [← hp]; exact HAT.out
    have hpe : i + p.length = e := by have := hap.app.eq; have := he.eq; omega
    refine ⟨?_, p, by have := he.len; omega, by rw [← hpe]; exact hap.text, hpx⟩
    have : elAns s.length (some (bareE (c0 :: t))) = elAns s.length (some ((bareE (c0 :: t)).1, R)) := by rw [HR.out]
    rw [this]
    rw [elAns_yes hsp, ← he.eq]
  have FIN := hid fin
  clear fin
  go_enter Tryz.func52, Tryz.ntmps52
  go_wp2_with fail
  go_loopg [7] (t.length + 1) (fun k ev wr => ∃ (e : Nat) (l : Str), ev = .int .i64 (e : Nat) ∧ At s l e ∧ i ≤ e ∧ R = (bareE l).2 ∧ Below w.heap.size w wr ∧ k = l.length)
  case atStart => exact ⟨i, c0 :: t, rfl, HAT.out, Nat.le_refl _, HR.out, Below.refl _ _, by simp⟩
  case round =>
    obtain ⟨e, l, rfl, ha, h1, ho, hbl, rfl⟩ := hrel
    have hlen2 := ha.len
    have hsw := hbl.size
    cases l with
    | nil =>
      have hge : e = s.length := by simpa using hlen2
      have hRn : R = [] := by rw [ho, bareE]
      obtain ⟨hans, p, hpl, hex, hpx⟩ := FIN.out e (by rw [hRn]; exact ha) h1
      have hun := hid (unescapedR_fn p hpl wr)
      rw [hpx] at hun
      have HANS := hid hans
      subst hge
      have hle : i ≤ s.length := by omega
      clear ho hRn hans hpx
      go_wp2_with fail
      (with_reducible refine hun.out.mono ?_); rintro e2 w1 ⟨rfl, hb1⟩
      have HB := hid (hbl.trans (hb1.mono hsw))
      clear hb1
      go_wp2
      go_ret2
      exact ⟨by rw [HANS.out]; rfl, HB.out⟩
    | cons c l =>
      have hlt2 := ha.lt
      have hx2 := ha.byte
      simp only [List.length_cons] at hlen2
      have hwc := hid (whiteR_fn c wr)
      cases hw : white c with
      | true =>
        have hRn : R = c :: l := by rw [ho, bareE_cons, if_pos hw]
        obtain ⟨hans, p, hpl, hex, hpx⟩ := FIN.out e (by rw [hRn]; exact ha) h1
        have hun := hid (unescapedR_fn p hpl wr)
        rw [hpx] at hun
        rw [hw] at hwc
        have HANS := hid hans
        clear ho hRn hans hpx
        go_wp2_with fail
        (with_reducible refine hwc.out.mono ?_); rintro e2 w1 ⟨rfl, hw1⟩; subst hw1
        go_wp2_with fail
        (with_reducible refine hun.out.mono ?_); rintro e2 w1 ⟨rfl, hb1⟩
        have HB := hid (hbl.trans (hb1.mono hsw))
        clear hb1
        go_wp2
        go_ret2
        exact ⟨by rw [HANS.out]; rfl, HB.out⟩
      | false =>
        rw [hw] at hwc
        rw [bareE_step c l hw] at ho
        have hex : (⟨s.toArray⟩ : ByteArray).extract e s.length = ⟨(c :: l).toArray⟩ := At.all ha
        by_cases h92 : c = 92
        · subst h92
          rw [if_pos rfl] at ho
          replace hwc := hid (show Calls Tryz.prog 51 #[.int .u8 92] wr (fun e w' => e = .returned (.bool false) ∧ w' = wr) from hwc.out)
          have hu := suf_len (unesc_suf l)
          have HU := hid (unescR_fn l (by omega) wr)
          have HS := hid (unesc_suf l)
          generalize unesc l = qr at HU ho hu HS
          obtain ⟨q, r⟩ := qr
          dsimp only at HU ho hu HS
          obtain ⟨n, hn⟩ : ∃ n, n = l.length + 1 - r.length := ⟨_, rfl⟩
          rw [← hn] at HU
          have hn1 : 1 ≤ n := by omega
          have HN := hid hn
          have HO := hid ho
          have HA := hid ha
          have hmx : max (n : Int) 1 = (n : Int) := by omega
          have hen : e + n ≤ 1000000 := by omega
          clear hn ho ha
          go_wp2_with fail
          (with_reducible refine hwc.out.mono ?_); rintro e2 w1 ⟨rfl, hw1⟩; subst hw1
          go_wp2_with fail
          (with_reducible refine HU.out.mono ?_); rintro e2 w1 ⟨rfl, hb1⟩
          have HB := hid (hbl.trans (hb1.mono hsw))
          clear hb1
          go_wp2
          go_roundg r.length
          case measure => simp only [List.length_cons]; omega
          case rel => exact ⟨e + n, r, by go_num, by have h9 := HA.out.tail.suf HS.out; have := HN.out; rw [show e + n = s.length - r.length by omega]; exact h9, by omega, HO.out, HB.out, rfl⟩
        · rw [if_neg h92] at ho
          have HU := hid (unescNo_fn c l (by omega) h92 wr)
          have HO := hid ho
          have HA := hid ha
          clear ho ha
          go_wp2_with fail
          (with_reducible refine hwc.out.mono ?_); rintro e2 w1 ⟨rfl, hw1⟩; subst hw1
          go_wp2_with fail
          (with_reducible refine HU.out.mono ?_); rintro e2 w1 ⟨rfl, hw⟩; subst hw
          go_wp2
          go_roundg l.length
          case measure => simp
          case rel => exact ⟨e + 1, l, by go_num, HA.out.tail, by omega, HO.out, hbl, rfl⟩
theorem elementR_fn {s t : Str} {c : UInt8} {i : Nat} (ha : At s (c :: t) i) (hs : s.length ≤ 1000000) (w : World) :
    Calls Tryz.prog 52 #[.string ⟨s.toArray⟩, .int .i64 (i : Nat)] w fun e w' => e = .returned (elAns s.length (elemE (c :: t))) ∧ Below w.heap.size w w' := by
  rw [elemE]
  by_cases h1 : c = 123
  · subst h1
    rw [if_pos (by decide)]
    exact element_brace ha hs w
  · rw [if_neg (by simpa using h1)]
    by_cases h2 : c = 34
    · subst h2
      rw [if_pos (by decide)]
      exact element_quoted ha hs w
    · rw [if_neg (by simpa using h2)]
      exact element_bare ha h1 h2 hs w
end Go.Proofs.YtheiageokcgbhaaGreatDoor.Pz
/-
  The reference 02: Split.
-/
namespace Go.Proofs.YtheiageokcgbhaaGreatDoor.Pz
open Go.RowKit
def glueL (d : List Str) : Sum Nat (List Str) → Sum Nat (List Str)
  | .inl b => .inl b
  | .inr xs => .inr (d ++ xs)
theorem glueL_nil (x : Sum Nat (List Str)) : glueL [] x = x := by cases x <;> rfl
theorem elemE_some {c : UInt8} {t s r : Str} (hw : white c = false) (he : elemE (c :: t) = some (s, r)) (hs : spaced r = true) (d : List Str) : glueL d (listE (c :: t)) = glueL (d ++ [s]) (listE r) := by
  rw [listE_cons hw, he]
  dsimp only
  rw [if_pos hs]
  cases listE r with
  | inl b => rfl
  | inr xs => simp [glueL]
def SplitR (s : Str) (w : World) (e : Ending) (w' : World) : Prop := Below w.heap.size w w' ∧ ∃ v, e = .returned (.tuple #[v, .int .i64 (splitE s).2.1, .int .i64 (splitE s).2.2]) ∧ RowS w.heap.size w' v (splitE s).1
set_option maxRecDepth 100000 in
set_option maxHeartbeats 2000000 in
theorem splitR_fn (s : Str) (hs : s.length ≤ 1000000) (w : World) :
    Calls Tryz.prog 12 #[.string ⟨s.toArray⟩] w fun e w' => Below w.heap.size w w' ∧ ∃ v, e = .returned (.tuple #[v, .int .i64 (splitE s).2.1, .int .i64 (splitE s).2.2]) ∧ RowS w.heap.size w' v (splitE s).1 := by
  have hsz : (⟨s.toArray⟩ : ByteArray).size = s.length := Lib.size_mk _
  obtain ⟨R, hR⟩ : ∃ R, R = splitE s := ⟨_, rfl⟩
  rw [← hR]
  have hfin : ∀ d, listE s = .inr d → R = if d.length ≤ 10000 then (d, 0, 0) else ([], 0, 4) := fun d h => by rw [hR, splitE, h]
  have hbad : ∀ b, listE s = .inl b → R = ([], (s.length : Int) - (b : Int), 2) := fun b h => by rw [hR, splitE, h]
  have HFIN := hid hfin
  have HBAD := hid hbad
  clear hR hfin hbad
  obtain ⟨L, hL⟩ : ∃ L, L = listE s := ⟨_, rfl⟩
  rw [← hL] at HFIN HBAD
  have HL := hid hL
  clear hL
  go_enter Tryz.func12, Tryz.ntmps12
  go_wp2_with fail
  go_loopg [2, 5] (s.length + 1) (fun k vv iv wr => ∃ (i : Nat) (d : List Str) (l : Str), iv = .int .i64 (i : Nat) ∧ At s l i ∧ RowS w.heap.size wr vv d ∧ L = glueL d (listE l) ∧ d.length + l.length ≤ s.length ∧ Below w.heap.size w wr ∧ k = l.length + 1)
  case atStart => exact ⟨0, [], s, rfl, At.start s, RowS.nil _ _, by rw [glueL_nil]; exact HL.out, by simp, Below.refl _ _, rfl⟩
  case round =>
    obtain ⟨i, d, l, rfl, ha, hrow, hL, hdl, hbl, rfl⟩ := hrel
    have hsw := hbl.size
    obtain ⟨a, c, rfl⟩ := hrow.shape
    obtain ⟨n, hn⟩ : ∃ n, n = d.length := ⟨_, rfl⟩
    rw [← hn] at hrow hdl ⊢
    have HN := hid hn
    have HROW := hid hrow
    have HL1 := hid hL
    have HBL := hid hbl
    have HA := hid ha
    clear HL hn hrow hL hbl ha
    go_wp2_with fail
    go_loopg [5] l.length (fun k iv wr2 => ∃ (j : Nat) (m : Str), iv = .int .i64 (j : Nat) ∧ At s m j ∧ listE m = listE l ∧ m.length ≤ l.length ∧ wr2 = wr ∧ k = m.length)
    case atStart => exact ⟨i, l, rfl, HA.out, rfl, Nat.le_refl _, rfl, rfl⟩
    case round =>
      obtain ⟨j, m, rfl, ha, hm, hml, hw2, rfl⟩ := hrel
      subst hw2
      have hlen := ha.len
      cases m with
      | nil =>
        have hge : j = s.length := by simpa using hlen
        subst hge
        have hLd : L = .inr d := by rw [HL1.out, ← hm, listE]; simp [glueL]
        have hR2 := HFIN.out d hLd
        rw [← HN.out] at hR2
        clear hm hLd
        by_cases hmany : n ≤ 10000
        · rw [if_pos hmany] at hR2
          have hle : ¬ ((n : Int) > 10000) := by omega
          have HR := hid hR2
          clear hR2
          go_wp2
          go_ret3
          refine ⟨HBL.out, _, by rw [HR.out] <;> rfl, ?_⟩
          rw [HR.out]
          exact HROW.out
        · rw [if_neg hmany] at hR2
          have hle : (n : Int) > 10000 := by omega
          have HR := hid hR2
          clear hR2
          go_wp2
          go_ret3
          refine ⟨HBL.out, _, by rw [HR.out] <;> rfl, ?_⟩
          rw [HR.out]
          exact RowS.nil _ _
      | cons c0 t =>
        have hlt := ha.lt
        have hx := ha.byte
        have hwc := hid (whiteR_fn c0 wr)
        simp only [List.length_cons] at hlen hml
        cases hw : white c0 with
        | true =>
          rw [hw] at hwc
          have HM := hid (show listE t = listE l by rw [← hm, listE_white hw])
          have HA2 := hid ha
          clear hm ha
          go_wp2_with fail
          (with_reducible refine hwc.out.mono ?_); rintro e2 w1 ⟨rfl, hw1⟩; subst hw1
          go_wp2
          go_roundg t.length
          case measure => simp
          case rel => exact ⟨j + 1, t, by go_num, HA2.out.tail, HM.out, by omega, rfl, rfl⟩
        | false =>
          rw [hw] at hwc
          have hne : ((j : Int) == (s.length : Int)) = false := by rw [beq_eq_false_iff_ne]; omega
          have hel := elementR_fn ha hs wr
          have hls : L = glueL d (listE (c0 :: t)) := by rw [HL1.out, hm]
          cases he : elemE (c0 :: t) with
          | none =>
            rw [he] at hel
            have HE := hid (show Calls Tryz.prog 52 #[.string ⟨s.toArray⟩, .int .i64 (j : Nat)] wr fun e w' => e = .returned (.tuple #[.string ⟨#[]⟩, .int .i64 (-1)]) ∧ Below wr.heap.size wr w' from hel)
            have hLb : L = .inl (t.length + 1) := by rw [hls, listE_cons hw, he]; rfl
            have HR := hid (HBAD.out _ hLb)
            have hjj : (j : Int) = (s.length : Int) - ((t.length + 1 : Nat) : Int) := by omega
            have HJ := hid hjj
            clear hel hls he hLb hjj hm
            go_wp2_with fail
            (with_reducible refine hwc.out.mono ?_); rintro e2 w1 ⟨rfl, hw1⟩; subst hw1
            go_wp2_with fail
            (with_reducible refine HE.out.mono ?_); rintro e2 w1 ⟨rfl, hb1⟩
            have HB := hid (HBL.out.trans (hb1.mono hsw))
            clear hb1
            go_wp2
            go_ret3
            refine ⟨HB.out, _, by rw [HR.out, ← HJ.out] <;> rfl, ?_⟩
            rw [HR.out]
            exact RowS.nil _ _
          | some y =>
            obtain ⟨x, r⟩ := y
            have hr := (elemE_suf hw he).1
            have hrs := (elemE_suf hw he).2
            cases hsp : spaced r with
            | false =>
              have hLb : L = .inl (t.length + 1) := by rw [hls, listE_cons hw, he]; dsimp only; rw [if_neg (by rw [hsp]; simp)]; rfl
              have hea : elAns s.length (elemE (c0 :: t)) = .tuple #[.string ⟨#[]⟩, .int .i64 (-1)] := by rw [he]; exact elAns_no hsp
              rw [hea] at hel
              have HE := hid hel
              have HR := hid (HBAD.out _ hLb)
              have hjj : (j : Int) = (s.length : Int) - ((t.length + 1 : Nat) : Int) := by omega
              have HJ := hid hjj
              clear hel hls he hLb hjj hm hea
              go_wp2_with fail
              (with_reducible refine hwc.out.mono ?_); rintro e2 w1 ⟨rfl, hw1⟩; subst hw1
              go_wp2_with fail
              (with_reducible refine HE.out.mono ?_); rintro e2 w1 ⟨rfl, hb1⟩
              have HB := hid (HBL.out.trans (hb1.mono hsw))
              clear hb1
              go_wp2
              go_ret3
              refine ⟨HB.out, _, by rw [HR.out, ← HJ.out] <;> rfl, ?_⟩
              rw [HR.out]
              exact RowS.nil _ _
            | true =>
              have hea : elAns s.length (elemE (c0 :: t)) = .tuple #[.string ⟨x.toArray⟩, .int .i64 ((s.length - r.length : Nat) : Int)] := by rw [he]; exact elAns_yes hsp
              rw [hea] at hel
              obtain ⟨e0, he0⟩ : ∃ e0, e0 = s.length - r.length := ⟨_, rfl⟩
              rw [← he0] at hel
              have HE := hid hel
              have HA3 := hid (show At s r e0 by rw [he0]; exact ha.suf hrs)
              have HG := hid (hls.trans (elemE_some hw he hsp d))
              have hge0 : ¬ ((e0 : Int) < 0) := by omega
              clear hel hls he hm hea he0 hrs ha
              go_wp2_with fail
              (with_reducible refine hwc.out.mono ?_); rintro e2 w1 ⟨rfl, hw1⟩; subst hw1
              go_wp2_with fail
              (with_reducible refine HE.out.mono ?_); rintro e2 w1 ⟨rfl, hb1⟩
              have HB := hid (HBL.out.trans (hb1.mono hsw))
              have HR1 := hid (HROW.out.on hb1)
              have hz := HB.out.size
              have hdn : d.length ≤ 10000000 := by have := HN.out; omega
              clear hb1
              go_wp2_with (at_builtin; go_loud (refine app_one (w := w1) rfl rfl (.tmp 43) (.tmp 45) rfl w.heap.size _ d x rfl HR1.out rfl hz hdn ?_))
              intro v2 w2 hr2 hg2 hv2
              have HB2 := hid (HB.out.grown hg2 hz fun k hk => (HR1.out.lt k hk).2)
              have HR2 := hid hr2
              have hl2 : n + 1 = (d ++ [x]).length := by rw [List.length_append, HN.out]; rfl
              have HLL := hid hl2
              clear hr2 hg2 hv2 hl2
              go_wp2
              go_roundg (r.length + 1)
              case measure => omega
              case rel => exact ⟨e0, d ++ [x], r, rfl, HA3.out, HR2.out, HG.out, by rw [← HLL.out]; omega, HB2.out, rfl⟩
end Go.Proofs.YtheiageokcgbhaaGreatDoor.Pz
/-
  Join, whatever its limits, of the program and of the reference; Same of equal rows (of LqJ: what lists need).
-/
namespace Go.Proofs.YtheiageokcgbhaaGreatDoor.Pz
open Go.RowKit
def joinOk (l : List Str) : Prop := l.length ≤ 10000 ∧ (∀ s ∈ l, s.length ≤ 65536) ∧ (quotedL l).length ≤ 65536
theorem StrsAt.off {w : World} {v : Value} {l : List Str} (h : StrsAt w v l) : ∃ a c, v = .slice a l.length c ∧ ∀ i (hi : i < l.length), ∃ b o, a = some ⟨b, o, none⟩ ∧ w.cell? ⟨b, o + i, none⟩ = some (.string ⟨l[i].toArray⟩) := by
  obtain ⟨a, c, rfl, _, hcell⟩ := h
  refine ⟨a, c, rfl, fun i hi => ?_⟩
  obtain ⟨p, rfl, _, hc⟩ := hcell i hi
  obtain ⟨p0, e0, _, hc0⟩ := hcell 0 (by omega)
  simp only [Option.some.injEq] at e0
  subst e0
  obtain ⟨b, o, spot⟩ := p
  have hspot : spot = none := by simpa [Addr.add] using World.cell?_spot hc0
  subst hspot
  rw [add_none] at hc
  exact ⟨b, o, rfl, hc⟩
set_option maxRecDepth 100000 in
theorem same_fn {w : World} {u v : Value} {l : List Str} (hu : StrsAt w u l) (hv : StrsAt w v l) (hl : l.length ≤ 10000000) :
    Calls Tryz.prog 13 #[u, v] w fun e w' => e = .returned (.bool true) ∧ Below w.heap.size w w' := by
  have HU := hid hu
  have HV := hid hv
  obtain ⟨a1, c1, rfl, _⟩ := hu.off
  obtain ⟨a2, c2, rfl, _⟩ := hv.off
  clear hu hv
  go_enter Tryz.func13, Tryz.ntmps13
  go_wp2
  go_loopg [13] l.length (fun k iv wr => ∃ i : Nat, iv = .int .i64 (i : Nat) ∧ Below w.heap.size w wr ∧ i + k = l.length)
  case atStart => exact ⟨0, rfl, Below.refl _ _, by simp⟩
  case round =>
    obtain ⟨i, rfl, hbl, hk⟩ := hrel
    by_cases hi : i < l.length
    · obtain ⟨_, _, e1, x1⟩ := (HU.out.below hbl).off
      obtain ⟨_, _, e2, x2⟩ := (HV.out.below hbl).off
      obtain ⟨b1, o1, f1, y1⟩ := x1 i hi
      obtain ⟨b2, o2, f2, y2⟩ := x2 i hi
      simp only [Value.slice.injEq] at e1 e2
      rw [← e1.1] at f1
      rw [← e2.1] at f2
      subst f1
      subst f2
      obtain ⟨s, hs⟩ : ∃ s, s = l[i] := ⟨_, rfl⟩
      rw [← hs] at y1 y2
      have hi1 : (0 : Int) ≤ (i : Int) ∧ (i : Int) < (l.length : Int) := by omega
      have hi2 : (i : Int) < (l.length : Int) := by omega
      clear hs x1 x2 e1 e2
      go_wp2
      go_quiet (fail)
      have hbl0 := hid (show Below w.heap.size w (wr.drewN nq) from hbl.trans ⟨rfl, rfl, rfl, Nat.le_refl _, fun _ _ => rfl⟩)
      clear hbl y1 y2
      go_wp2
      go_roundg (l.length - (i + 1))
      case measure => omega
      case rel => exact ⟨i + 1, by go_num, hbl0.out, by omega⟩
    · go_wp2
      go_ret
      exact ⟨rfl, hbl⟩
/-- what Join answers -/
def joinRes (l : List Str) : Str × Int := if l.length ≤ 10000 ∧ (quotedL l).length ≤ 65536 then (quotedL l, 0) else ([], 4)
theorem slash_ge : ∀ (s : Str) (b : Bool), s.length ≤ (slash b s).length
  | [], b => by simp [slash]
  | c :: t, b => by
    have ih := slash_ge t false
    rw [slash]
    split <;> simp <;> omega
theorem quote_ge (s : Str) : s.length ≤ (quote s).length := by
  unfold quote
  split
  · rename_i h
    rw [List.isEmpty_iff.1 h]
    simp
  · split
    · exact Nat.le_refl _
    · split
      · simp; omega
      · exact slash_ge s true
theorem joinRes_yes {l : List Str} (h1 : l.length ≤ 10000) (h2 : (quotedL l).length ≤ 65536) : joinRes l = (quotedL l, 0) := by
  unfold joinRes
  rw [if_pos ⟨h1, h2⟩]
theorem joinRes_no {l : List Str} (h : 10000 < l.length ∨ 65536 < (quotedL l).length) : joinRes l = ([], 4) := by
  unfold joinRes
  rw [if_neg (by omega)]
theorem quotedL_has (l : List Str) (i : Nat) (h : i < l.length) : (quote l[i]).length ≤ (quotedL l).length ∧ (quotedL (l.take (i + 1))).length ≤ (quotedL l).length ∧ l[i].length ≤ (quotedL l).length := by
  have h1 := quotedL_take_le l (l.length - (i + 1)) (i + 1) (by omega)
  have h2 := quotedL_take l i h
  have h3 := quote_ge l[i]
  refine ⟨?_, h1, ?_⟩ <;>
  · rw [h2] at h1
    split at h1
    · omega
    · simp at h1
      omega
theorem joinRes_of_ok {l : List Str} (h : joinOk l) : joinRes l = (quotedL l, 0) := joinRes_yes h.1 h.2.2
theorem joinOk_of {l : List Str} (h : (joinRes l).2 = 0) : joinOk l := by
  unfold joinRes at h
  split at h
  · rename_i hh
    refine ⟨hh.1, fun s hs => ?_, hh.2⟩
    obtain ⟨i, hi, rfl⟩ := List.mem_iff_getElem.1 hs
    have := (quotedL_has l i hi).2.2
    omega
  · cases h
set_option maxRecDepth 100000 in
set_option maxHeartbeats 2000000 in
theorem joinA_fn (l : List Str) (v : Value) (w : World) (hm : ML w) (hv : StrsAt w v l) (hll : l.length ≤ 9223372036854775807) :
    Calls Tryz.prog 30 #[v] w fun e w' => e = .returned (.tuple #[.string ⟨(joinRes l).1.toArray⟩, .int .i64 (joinRes l).2]) ∧ Below w.heap.size w w' := by
  obtain ⟨a, cap, rfl, hcap, hcell⟩ := hv
  obtain ⟨n, hn⟩ : ∃ n, n = l.length := ⟨_, rfl⟩
  have HV := hid hcell
  have HN := hid hn
  by_cases h1 : l.length ≤ 10000
  case neg =>
    have HR := hid (joinRes_no (l := l) (.inl (by omega)))
    have hge : (n : Int) > 10000 := by omega
    rw [← hn] at hcap hll ⊢
    clear hcell h1 hn hm
    go_enter Tryz.func30, Tryz.ntmps30
    go_wp2
    go_ret2
    rw [HR.out]
    exact ⟨rfl, Below.refl _ _⟩
  have hlen : ¬ ((n : Int) > 10000) := by omega
  have HT := hid (quotedL_take l)
  have HAS := hid (quotedL_has l)
  have H1 := hid h1
  have HM := hid hm
  have hB0 := Bld.new w
  have hW0 : Below w.heap.size w (w.alloc (.cells #[.pointer none, .slice none 0 0] 75)) := (Below.refl _ _).alloc (Nat.le_refl _) _
  rw [← hn] at hcap ⊢
  clear hcell hm h1 hn hll
  go_enter Tryz.func30, Tryz.ntmps30
  go_wp2_with fail
  generalize w.alloc (.cells #[.pointer none, .slice none 0 0] 75) = w0 at *
  go_loopg [12] n (fun k iv wr => ∃ (i : Nat), iv = .int .i64 (i : Nat) ∧ i ≤ n ∧ (quotedL (l.take i)).length ≤ 65536 ∧ Bld wr w.heap.size (quotedL (l.take i)) ∧ Below w.heap.size w wr ∧ k = n - i)
  case atStart => exact ⟨0, rfl, Nat.zero_le _, by simp [quotedL], hB0, hW0, by simp⟩
  case round =>
    obtain ⟨i, rfl, hi, hq0, hB, hbl, rfl⟩ := hrel
    clear hB0 hW0 w0
    have hbs := hB.lt
    have hqm : ML wr := HM.out.below hbl
    rcases Nat.lt_or_ge i n with hlt | hge
    · have hlt' : i < l.length := by rw [← HN.out]; exact hlt
      obtain ⟨p, rfl, hbb, hcw⟩ := HV.out i hlt'
      have hcw1 : wr.cell? (p.add i) = some (.string ⟨l[i].toArray⟩) := by rw [hbl.cell (p := p.add i) (by rw [add_block]; exact hbb)]; exact hcw
      have ht := HT.out i hlt'
      have has := HAS.out i hlt'
      generalize l[i] = s at hcw hcw1 ht has
      have hsz : (⟨s.toArray⟩ : ByteArray).size = s.length := Lib.size_mk _
      have hz0 : i = 0 → wr.cell? p = some (.string ⟨s.toArray⟩) := by
        intro h0
        subst h0
        exact hcw1
      obtain ⟨Q, hQ⟩ : ∃ Q, Q = quotedL (l.take (i + 1)) := ⟨_, rfl⟩
      rw [← hQ] at ht has
      have HQ := hid hQ
      have HASS := hid has
      have hqe := quote_len s
      by_cases hbig : s.length ≤ 65536
      case neg =>
        have HR := hid (joinRes_no (l := l) (.inr (by have := HASS.out.2.2; omega)))
        have hs2 : (s.length : Int) > 65536 := by omega
        clear ht has hcw hQ hqe
        by_cases h0 : i = 0
        · subst h0
          replace hcw1 := hz0 rfl
          clear hz0
          go_wp2
          go_ret2
          rw [HR.out]
          exact ⟨rfl, hbl⟩
        · have hi0 : (0 : Int) < (i : Int) := by omega
          have hc1 : Calls Tryz.prog 67 #[.pointer (some ⟨w.heap.size, 0, none⟩), .int .u8 32] wr fun e w' => e = .returned .nilIface ∧ Bld w' w.heap.size (quotedL (l.take i) ++ [32]) ∧ Kept w.heap.size wr w' := wbyte_fn hB 32 (by omega)
          have HC1 := hid hc1
          clear hc1 hz0
          go_wp2_with fail
          (with_reducible refine HC1.out.mono ?_); rintro e wx ⟨rfl, hBx, hkx⟩
          have hblx := hid (hbl.trans hkx.1)
          have hcx : wx.cell? (p.add i) = some (.string ⟨s.toArray⟩) := by rw [hblx.out.cell (p := p.add i) (by rw [add_block]; exact hbb), ← hbl.cell (p := p.add i) (by rw [add_block]; exact hbb)]; exact hcw1
          clear hkx hBx
          go_wp2
          go_ret2
          rw [HR.out]
          exact ⟨rfl, hblx.out⟩
      have hs2 : ¬ ((s.length : Int) > 65536) := by omega
      have hq := fun u hu => quote_fn s (by omega) u hu
      have HC := hid hq
      obtain ⟨Q0, hQ0⟩ : ∃ Q, Q = quotedL (l.take i) := ⟨_, rfl⟩
      rw [← hQ0] at ht hB hq0
      have HQ0 := hid hQ0
      have HT2 := hid ht
      clear hQ hQ0 ht hq hcw has
      have hQb : Q.length ≤ 1000000 := by rw [HT2.out]; split <;> (try simp) <;> omega
      by_cases h0 : i = 0
      · subst h0
        replace hcw1 := hz0 rfl
        clear hz0
        have ht := hid (HT2.out.trans (if_pos rfl))
        have hz : Q0 = [] := HQ0.out
        subst hz
        go_wp2_with fail
        (with_reducible refine (HC.out _ hqm).mono ?_); rintro e w1 ⟨rfl, hb1⟩
        have hB1 := hB.below hb1
        have hbl1 := hbl.trans (hb1.mono (by omega))
        have hc2 := hid (wstr_fn hB1 (quote s) (by simp; omega))
        go_wp2_with fail
        (with_reducible refine hc2.out.mono ?_); rintro e w2 ⟨rfl, hB2, hk2⟩
        rw [show ([] : Str) ++ quote s = Q by rw [ht.out]; simp] at hB2
        have hc3 := hid (len_fn hB2)
        go_wp2_with fail
        (with_reducible refine hc3.out.mono ?_); rintro e w3 ⟨rfl, hw⟩; subst w3
        have HB2 := hid hB2
        have HBL2 := hid (hbl1.trans hk2.1)
        clear hB2 hB1 hbl1 hk2 hb1 hB
        by_cases hQle : Q.length ≤ 65536
        · have hQ65 : ¬ ((Q.length : Int) > 65536) := by omega
          go_wp2
          go_roundg (n - (0 + 1))
          case measure => omega
          case rel => exact ⟨0 + 1, by go_num, by omega, by rw [← HQ.out]; exact hQle, by rw [← HQ.out]; exact HB2.out, HBL2.out, rfl⟩
        · have hQ65 : (Q.length : Int) > 65536 := by omega
          have HR := hid (joinRes_no (l := l) (.inr (by have := HASS.out.2.1; omega)))
          go_wp2
          go_ret2
          rw [HR.out]
          exact ⟨rfl, HBL2.out⟩
      · have ht := hid (HT2.out.trans (if_neg h0))
        have hi0 : (0 : Int) < (i : Int) := by omega
        have hc1 : Calls Tryz.prog 67 #[.pointer (some ⟨w.heap.size, 0, none⟩), .int .u8 32] wr fun e w' => e = .returned .nilIface ∧ Bld w' w.heap.size (Q0 ++ [32]) ∧ Kept w.heap.size wr w' := wbyte_fn hB 32 (by omega)
        have HC1 := hid hc1
        clear hc1 hz0
        go_wp2_with fail
        (with_reducible refine HC1.out.mono ?_); rintro e wx ⟨rfl, hBx, hkx⟩
        have hblx := hbl.trans hkx.1
        replace hqm : ML wx := HM.out.below hblx
        have hcx : wx.cell? (p.add i) = some (.string ⟨s.toArray⟩) := by rw [hblx.cell (p := p.add i) (by rw [add_block]; exact hbb), ← hbl.cell (p := p.add i) (by rw [add_block]; exact hbb)]; exact hcw1
        have hbsx := hBx.lt
        clear hB hbl hbs hkx hcw1
        go_wp2_with fail
        (with_reducible refine (HC.out _ hqm).mono ?_); rintro e w1 ⟨rfl, hb1⟩
        have hB1 := hBx.below hb1
        have hbl1 := hblx.trans (hb1.mono (by omega))
        have hc2 := hid (wstr_fn hB1 (quote s) (by simp; omega))
        go_wp2_with fail
        (with_reducible refine hc2.out.mono ?_); rintro e w2 ⟨rfl, hB2, hk2⟩
        rw [show (Q0 ++ [32]) ++ quote s = Q by rw [ht.out]; simp] at hB2
        have hc3 := hid (len_fn hB2)
        go_wp2_with fail
        (with_reducible refine hc3.out.mono ?_); rintro e w3 ⟨rfl, hw⟩; subst w3
        have HB2 := hid hB2
        have HBL2 := hid (hbl1.trans hk2.1)
        clear hB2 hB1 hbl1 hk2 hb1 hBx hblx hcx
        by_cases hQle : Q.length ≤ 65536
        · have hQ65 : ¬ ((Q.length : Int) > 65536) := by omega
          go_wp2
          go_roundg (n - (i + 1))
          case measure => omega
          case rel => exact ⟨i + 1, by go_num, by omega, by rw [← HQ.out]; exact hQle, by rw [← HQ.out]; exact HB2.out, HBL2.out, rfl⟩
        · have hQ65 : (Q.length : Int) > 65536 := by omega
          have HR := hid (joinRes_no (l := l) (.inr (by have := HASS.out.2.1; omega)))
          go_wp2
          go_ret2
          rw [HR.out]
          exact ⟨rfl, HBL2.out⟩
    · obtain rfl : i = n := by omega
      have hc := hid (str_fn hB)
      have hR : quotedL (l.take i) = quotedL l := by rw [List.take_of_length_le (by rw [← HN.out]; exact Nat.le_refl _)]
      have HR := hid hR
      have HJ := hid (joinRes_yes (l := l) H1.out (by rw [← hR]; exact hq0))
      clear hR
      go_wp2_with fail
      (with_reducible refine hc.out.mono ?_); rintro e w1 ⟨rfl, hB1, hk1⟩
      go_wp2
      go_ret2
      rw [HJ.out, HR.out]
      exact ⟨rfl, hbl.trans hk1.1⟩
set_option maxRecDepth 100000 in
set_option maxHeartbeats 2000000 in
theorem joinRA_fn (l : List Str) (v : Value) (w : World) (hv : StrsAt w v l) (h2 : ∀ s ∈ l, s.length ≤ 1000000) (hll : l.length ≤ 9223372036854775807) :
    Calls Tryz.prog 31 #[v] w fun e w' => e = .returned (.tuple #[.string ⟨(joinRes l).1.toArray⟩, .int .i64 (joinRes l).2]) ∧ Below w.heap.size w w' := by
  obtain ⟨a, cap, rfl, hcap, hcell⟩ := hv
  obtain ⟨n, hn⟩ : ∃ n, n = l.length := ⟨_, rfl⟩
  have HV := hid hcell
  have HN := hid hn
  by_cases h1 : l.length ≤ 10000
  case neg =>
    have HR := hid (joinRes_no (l := l) (.inl (by omega)))
    have hge : (n : Int) > 10000 := by omega
    rw [← hn] at hcap hll ⊢
    clear hcell h1 hn h2
    go_enter Tryz.func31, Tryz.ntmps31
    go_wp2
    go_ret2
    rw [HR.out]
    exact ⟨rfl, Below.refl _ _⟩
  have hlen : ¬ ((n : Int) > 10000) := by omega
  have HT := hid (quotedL_take l)
  have HAS := hid (quotedL_has l)
  have H1 := hid h1
  have H2 := hid h2
  rw [← hn] at hcap ⊢
  clear hcell h2 h1 hn hll
  go_enter Tryz.func31, Tryz.ntmps31
  go_wp2_with fail
  go_loopg [4, 12] n (fun k sv iv wr => ∃ (i : Nat) (Q0 : Str), sv = .string ⟨Q0.toArray⟩ ∧ iv = .int .i64 (i : Nat) ∧ i ≤ n ∧ Q0.length ≤ 65536 ∧ Q0 = quotedL (l.take i) ∧ Below w.heap.size w wr ∧ k = n - i)
  case atStart => exact ⟨0, [], rfl, rfl, Nat.zero_le _, by simp, rfl, Below.refl _ _, by simp⟩
  case round =>
    obtain ⟨i, Q0, rfl, rfl, hi, hq0, hQ0, hbl, rfl⟩ := hrel
    have hsw := hbl.size
    rcases Nat.lt_or_ge i n with hlt | hge
    · have hlt' : i < l.length := by rw [← HN.out]; exact hlt
      obtain ⟨p, rfl, hbb, hcw⟩ := HV.out i hlt'
      have hcw1 : wr.cell? (p.add i) = some (.string ⟨l[i].toArray⟩) := by rw [hbl.cell (p := p.add i) (by rw [add_block]; exact hbb)]; exact hcw
      have ht := HT.out i hlt'
      have has := HAS.out i hlt'
      have h2 := H2.out l[i] (List.getElem_mem hlt')
      generalize l[i] = s at hcw hcw1 ht has h2
      have hsz : (⟨s.toArray⟩ : ByteArray).size = s.length := Lib.size_mk _
      have hz0 : i = 0 → wr.cell? p = some (.string ⟨s.toArray⟩) := by
        intro h0
        subst h0
        exact hcw1
      obtain ⟨Q, hQ⟩ : ∃ Q, Q = quotedL (l.take (i + 1)) := ⟨_, rfl⟩
      rw [← hQ] at ht has
      have HQ := hid hQ
      have HASS := hid has
      have hqe := quote_len s
      have HC := hid (quoteR_fn s (by omega) wr)
      rw [← hQ0] at ht
      have HQ0 := hid hQ0
      have HT2 := hid ht
      clear hQ hQ0 ht hcw has
      have hQb : Q.length ≤ 3000000 := by rw [HT2.out]; split <;> (try simp) <;> omega
      have hqz : (⟨(quote s).toArray⟩ : ByteArray).size = (quote s).length := Lib.size_mk _
      have hzz : (⟨Q0.toArray⟩ : ByteArray).size = Q0.length := Lib.size_mk _
      by_cases h0 : i = 0
      · subst h0
        replace hcw1 := hz0 rfl
        clear hz0
        have hz : Q0 = [] := HQ0.out
        subst hz
        have hqQ : Q = quote s := HT2.out.trans (if_pos rfl)
        rw [← hqQ] at HC hqe hqz
        have HASS2 := hid HASS.out.2.1
        clear hqQ HT2 HASS hsz
        by_cases hQle : Q.length ≤ 65536
        · have hQ65 : ¬ ((Q.length : Int) > 65536) := by omega
          go_wp2_with fail
          (with_reducible refine HC.out.mono ?_); rintro e w1 ⟨rfl, hb1⟩
          have HBL2 := hid (hbl.trans (hb1.mono hsw))
          clear hb1
          go_wp2
          go_roundg (n - (0 + 1))
          case measure => omega
          case rel => exact ⟨0 + 1, Q, by rw [Value.string.injEq, ByteArray.ext_iff]; simp, by go_num, by omega, hQle, HQ.out, HBL2.out, rfl⟩
        · have hQ65 : (Q.length : Int) > 65536 := by omega
          have HR := hid (joinRes_no (l := l) (.inr (by have := HASS2.out; omega)))
          go_wp2_with fail
          (with_reducible refine HC.out.mono ?_); rintro e w1 ⟨rfl, hb1⟩
          have HBL2 := hid (hbl.trans (hb1.mono hsw))
          clear hb1
          go_wp2
          go_ret2
          rw [HR.out]
          exact ⟨rfl, HBL2.out⟩
      · have hi0 : (0 : Int) < (i : Int) := by omega
        have hqQ : Q = Q0 ++ 32 :: quote s := HT2.out.trans (if_neg h0)
        obtain ⟨q, hq⟩ : ∃ q, q = quote s := ⟨_, rfl⟩
        rw [← hq] at hqQ HC hqe hqz
        have hl2 : Q0.length + 1 + q.length = Q.length := by rw [hqQ]; simp; omega
        have HQQ := hid hqQ
        have HASS2 := hid HASS.out.2.1
        clear hqQ HT2 hq HASS hz0 hsz
        by_cases hQle : Q.length ≤ 65536
        · have hQ65 : ¬ (((Q0.length + 1 + q.length : Nat) : Int) > 65536) := by omega
          go_wp2_with fail
          (with_reducible refine HC.out.mono ?_); rintro e w1 ⟨rfl, hb1⟩
          have HBL2 := hid (hbl.trans (hb1.mono hsw))
          clear hb1
          go_wp2
          go_roundg (n - (i + 1))
          case measure => omega
          case rel => exact ⟨i + 1, Q, by rw [HQQ.out, Value.string.injEq, ByteArray.ext_iff]; simp, by go_num, by omega, hQle, HQ.out, HBL2.out, rfl⟩
        · have hQ65 : ((Q0.length + 1 + q.length : Nat) : Int) > 65536 := by omega
          have HR := hid (joinRes_no (l := l) (.inr (by have := HASS2.out; omega)))
          go_wp2_with fail
          (with_reducible refine HC.out.mono ?_); rintro e w1 ⟨rfl, hb1⟩
          have HBL2 := hid (hbl.trans (hb1.mono hsw))
          clear hb1
          go_wp2
          go_ret2
          rw [HR.out]
          exact ⟨rfl, HBL2.out⟩
    · obtain rfl : i = n := by omega
      have hR : Q0 = quotedL l := by rw [hQ0, List.take_of_length_le (by rw [← HN.out]; exact Nat.le_refl _)]
      have HJ := hid (joinRes_yes (l := l) H1.out (by rw [← hR]; exact hq0))
      have HR := hid hR
      clear hR hQ0
      go_wp2
      go_ret2
      rw [HJ.out, HR.out]
      exact ⟨rfl, hbl⟩
end Go.Proofs.YtheiageokcgbhaaGreatDoor.Pz
/-
  Lists: Valid, Length, Canonical, IsCanonical of the program and of the reference.
-/
namespace Go.Proofs.YtheiageokcgbhaaGreatDoor.Pz
open Go.RowKit
/-- what Canonical answers -/
def canonRes (s : Str) : Str × Int := if (splitE s).2.2 = 0 then joinRes (splitE s).1 else ([], (splitE s).2.2)
theorem RowS.strs {B : Nat} {w : World} {v : Value} {l : List Str} (h : RowS B w v l) : StrsAt w v l := by
  obtain ⟨a, c, rfl⟩ := h.shape
  have hcap : l.length ≤ c := by
    rcases h.2 with ⟨e, h0⟩ | ⟨g, cap, cur, e, _, _, hc, _⟩
    · omega
    · simp only [Value.slice.injEq] at e
      omega
  refine ⟨a, c, rfl, hcap, fun i hi => ?_⟩
  obtain ⟨g, rfl, _, hc⟩ := h.at hi
  exact ⟨⟨g, 0, none⟩, rfl, (h.lt g rfl).1, by rw [add_none, Nat.zero_add]; exact hc⟩
set_option maxRecDepth 100000 in
theorem validL_fn (s : Str) (hs : s.length ≤ 1000000) (w : World) : Calls Tryz.prog 14 #[.string ⟨s.toArray⟩] w fun e w' => e = .returned (.bool ((splitE s).2.2 == 0)) ∧ Below w.heap.size w w' := by
  have HS := hid (split_fn s hs w)
  unfold SplitQ at HS
  generalize splitE s = r at HS
  obtain ⟨l, at0, er⟩ := r
  dsimp only at HS ⊢
  go_enter Tryz.func14, Tryz.ntmps14
  go_wp2_with fail
  (with_reducible refine HS.out.mono ?_); rintro e w1 ⟨hb, v, rfl, hr⟩
  have HB := hid hb
  clear hb hr
  go_wp2
  go_ret
  exact ⟨rfl, HB.out⟩
set_option maxRecDepth 100000 in
theorem validR_fn (s : Str) (hs : s.length ≤ 1000000) (w : World) : Calls Tryz.prog 15 #[.string ⟨s.toArray⟩] w fun e w' => e = .returned (.bool ((splitE s).2.2 == 0)) ∧ Below w.heap.size w w' := by
  have HS := hid (splitR_fn s hs w)
  generalize splitE s = r at HS
  obtain ⟨l, at0, er⟩ := r
  dsimp only at HS ⊢
  go_enter Tryz.func15, Tryz.ntmps15
  go_wp2_with fail
  (with_reducible refine HS.out.mono ?_); rintro e w1 ⟨hb, v, rfl, hr⟩
  have HB := hid hb
  clear hb hr
  go_wp2
  go_ret
  exact ⟨rfl, HB.out⟩
set_option maxRecDepth 100000 in
theorem lengthL_fn (s : Str) (hs : s.length ≤ 1000000) (w : World) : Calls Tryz.prog 20 #[.string ⟨s.toArray⟩] w fun e w' => e = .returned (.tuple #[.int .i64 ((splitE s).1.length : Nat), .int .i64 (splitE s).2.2]) ∧ Below w.heap.size w w' := by
  have HS := hid (split_fn s hs w)
  unfold SplitQ at HS
  generalize splitE s = r at HS
  obtain ⟨l, at0, er⟩ := r
  dsimp only at HS ⊢
  go_enter Tryz.func20, Tryz.ntmps20
  go_wp2_with fail
  (with_reducible refine HS.out.mono ?_); rintro e w1 ⟨hb, v, rfl, hr⟩
  have HB := hid hb
  obtain ⟨a, c, rfl⟩ := hr.shape
  clear hb hr
  go_wp2
  go_ret2
  exact ⟨rfl, HB.out⟩
set_option maxRecDepth 100000 in
theorem lengthR_fn (s : Str) (hs : s.length ≤ 1000000) (w : World) : Calls Tryz.prog 21 #[.string ⟨s.toArray⟩] w fun e w' => e = .returned (.tuple #[.int .i64 ((splitE s).1.length : Nat), .int .i64 (splitE s).2.2]) ∧ Below w.heap.size w w' := by
  have HS := hid (splitR_fn s hs w)
  generalize splitE s = r at HS
  obtain ⟨l, at0, er⟩ := r
  dsimp only at HS ⊢
  go_enter Tryz.func21, Tryz.ntmps21
  go_wp2_with fail
  (with_reducible refine HS.out.mono ?_); rintro e w1 ⟨hb, v, rfl, hr⟩
  have HB := hid hb
  obtain ⟨a, c, rfl⟩ := hr.shape
  clear hb hr
  go_wp2
  go_ret2
  exact ⟨rfl, HB.out⟩
set_option maxRecDepth 100000 in
theorem canonR_fn (s : Str) (hs : s.length ≤ 1000000) (hl : ∀ x ∈ (splitE s).1, x.length ≤ 1000000) (hn : (splitE s).1.length ≤ 1000000) (w : World) : Calls Tryz.prog 19 #[.string ⟨s.toArray⟩] w fun e w' => e = .returned (.tuple #[.string ⟨(canonRes s).1.toArray⟩, .int .i64 (canonRes s).2]) ∧ Below w.heap.size w w' := by
  have HS := hid (splitR_fn s hs w)
  unfold canonRes
  generalize splitE s = r at HS hl hn ⊢
  obtain ⟨l, at0, er⟩ := r
  dsimp only at HS hl hn ⊢
  by_cases h0 : er = 0
  · subst h0
    rw [if_pos rfl]
    have HJ := hid (fun (v : Value) (u : World) (h : StrsAt u v l) => joinRA_fn l v u h hl (by omega))
    generalize joinRes l = jr at HJ ⊢
    obtain ⟨j1, j2⟩ := jr
    dsimp only at HJ ⊢
    go_enter Tryz.func19, Tryz.ntmps19
    go_wp2_with fail
    (with_reducible refine HS.out.mono ?_); rintro e w1 ⟨hb, v, rfl, hr⟩
    have HB := hid hb
    have hj := HJ.out v w1 hr.strs
    have hz := hb.size
    clear hb hr
    go_wp2_with fail
    (with_reducible refine hj.mono ?_); rintro e w2 ⟨rfl, hb2⟩
    have HB2 := hid (HB.out.trans (hb2.mono hz))
    clear hb2 hj
    go_wp2
    go_ret2
    exact ⟨rfl, HB2.out⟩
  · rw [if_neg h0]
    go_enter Tryz.func19, Tryz.ntmps19
    go_wp2_with fail
    (with_reducible refine HS.out.mono ?_); rintro e w1 ⟨hb, v, rfl, hr⟩
    have HB := hid hb
    have he : (er != 0) = true := by simpa using h0
    clear hb hr
    go_wp2
    go_ret2
    exact ⟨rfl, HB.out⟩
set_option maxRecDepth 100000 in
theorem canonical1_fn (a : Option Addr) (n c : Nat) (w : World) : Calls Tryz.prog 54 #[.slice a n c] w fun e w' => e = .returned (.tuple #[.slice a n c, .int .i64 0]) ∧ w' = w := by
  go_enter Tryz.func54, Tryz.ntmps54
  go_wp2
  go_ret2
  exact ⟨rfl, rfl⟩
set_option maxRecDepth 100000 in
theorem canonC_fn (s : Str) (hs : s.length ≤ 1000000) (hn : (splitE s).1.length ≤ 1000000) (w : World) (hml : ML w) : Calls Tryz.prog 53 #[.string ⟨s.toArray⟩, .func (.func 54) #[] #[]] w fun e w' => e = .returned (.tuple #[.string ⟨(canonRes s).1.toArray⟩, .int .i64 (canonRes s).2]) ∧ Below w.heap.size w w' := by
  have HS := hid (split_fn s hs w)
  unfold SplitQ at HS
  unfold canonRes
  generalize splitE s = r at HS hn ⊢
  obtain ⟨l, at0, er⟩ := r
  dsimp only at HS hn ⊢
  by_cases h0 : er = 0
  · subst h0
    rw [if_pos rfl]
    have HM := hid hml
    have HJ := hid (fun (v : Value) (u : World) (hm : ML u) (h : StrsAt u v l) => joinA_fn l v u hm h (by omega))
    generalize joinRes l = jr at HJ ⊢
    obtain ⟨j1, j2⟩ := jr
    dsimp only at HJ ⊢
    clear hml
    go_enter Tryz.func53, Tryz.ntmps53
    go_wp2_with fail
    (with_reducible refine HS.out.mono ?_); rintro e w1 ⟨hb, v, rfl, hr⟩
    have HB := hid hb
    have hj := HJ.out v w1 (HM.out.below hb) hr.strs
    have hz := hb.size
    obtain ⟨a, c, rfl⟩ := hr.shape
    have HC := hid (canonical1_fn a l.length c w1)
    clear hb hr
    go_wp2_with fail
    (with_reducible refine HC.out.mono ?_); rintro e w2 ⟨rfl, hw2⟩; subst hw2
    go_wp2_with fail
    (with_reducible refine hj.mono ?_); rintro e w2 ⟨rfl, hb2⟩
    have HB2 := hid (HB.out.trans (hb2.mono hz))
    clear hb2 hj
    go_wp2
    go_ret2
    exact ⟨rfl, HB2.out⟩
  · rw [if_neg h0]
    clear hml
    have he : (er != 0) = true := by simpa using h0
    go_enter Tryz.func53, Tryz.ntmps53
    go_wp2_with fail
    (with_reducible refine HS.out.mono ?_); rintro e w1 ⟨hb, v, rfl, hr⟩
    have HB := hid hb
    clear hb hr
    go_wp2
    go_ret2
    exact ⟨rfl, HB.out⟩
set_option maxRecDepth 100000 in
theorem canonL_fn (s : Str) (hs : s.length ≤ 1000000) (hn : (splitE s).1.length ≤ 1000000) (w : World) (hml : ML w) : Calls Tryz.prog 18 #[.string ⟨s.toArray⟩] w fun e w' => e = .returned (.tuple #[.string ⟨(canonRes s).1.toArray⟩, .int .i64 (canonRes s).2]) ∧ Below w.heap.size w w' := by
  have HC := hid (canonC_fn s hs hn w hml)
  generalize canonRes s = cr at HC ⊢
  clear hn hml
  go_enter Tryz.func18, Tryz.ntmps18
  go_wp2_with fail
  (with_reducible refine HC.out.mono ?_); rintro e w1 ⟨rfl, hb⟩
  have HB := hid hb
  clear hb
  go_wp2
  go_ret2
  exact ⟨rfl, HB.out⟩
def isCanon (s : Str) : Bool := (canonRes s).2 == 0 && decide (s = (canonRes s).1)
set_option maxRecDepth 100000 in
theorem isCanonL_fn (s : Str) (hs : s.length ≤ 1000000) (hn : (splitE s).1.length ≤ 1000000) (w : World) (hml : ML w) : Calls Tryz.prog 16 #[.string ⟨s.toArray⟩] w fun e w' => e = .returned (.bool (isCanon s)) ∧ Below w.heap.size w w' := by
  have HC := hid (canonL_fn s hs hn w hml)
  unfold isCanon
  generalize canonRes s = cr at HC ⊢
  obtain ⟨c, er⟩ := cr
  dsimp only at HC ⊢
  have hzs : (⟨s.toArray⟩ : ByteArray).size = s.length := Lib.size_mk _
  by_cases h0 : er = 0
  · subst h0
    by_cases hsc : s = c
    · subst hsc
      clear hs hn
      go_enter Tryz.func16, Tryz.ntmps16
      go_wp2_with fail
      (with_reducible refine HC.out.mono ?_); rintro e w1 ⟨rfl, hb⟩
      have HB := hid hb
      clear hb
      go_wp2
      go_ret
      exact ⟨by simp, HB.out⟩
    · clear hs hn
      go_enter Tryz.func16, Tryz.ntmps16
      go_wp2_with fail
      (with_reducible refine HC.out.mono ?_); rintro e w1 ⟨rfl, hb⟩
      have HB := hid hb
      clear hb
      go_wp2
      go_ret
      exact ⟨by simp [hsc], HB.out⟩
  · have he : (er == 0) = false := by simpa using h0
    clear hs hn
    go_enter Tryz.func16, Tryz.ntmps16
    go_wp2_with fail
    (with_reducible refine HC.out.mono ?_); rintro e w1 ⟨rfl, hb⟩
    have HB := hid hb
    clear hb
    go_wp2
    go_ret
    exact ⟨by simp [he], HB.out⟩
set_option maxRecDepth 100000 in
theorem isCanonR_fn (s : Str) (hs : s.length ≤ 1000000) (hl : ∀ x ∈ (splitE s).1, x.length ≤ 1000000) (hn : (splitE s).1.length ≤ 1000000) (w : World) : Calls Tryz.prog 17 #[.string ⟨s.toArray⟩] w fun e w' => e = .returned (.bool (isCanon s)) ∧ Below w.heap.size w w' := by
  have HC := hid (canonR_fn s hs hl hn w)
  unfold isCanon
  generalize canonRes s = cr at HC ⊢
  obtain ⟨c, er⟩ := cr
  dsimp only at HC ⊢
  have hzs : (⟨s.toArray⟩ : ByteArray).size = s.length := Lib.size_mk _
  by_cases h0 : er = 0
  · subst h0
    by_cases hsc : s = c
    · subst hsc
      clear hs hn
      go_enter Tryz.func17, Tryz.ntmps17
      go_wp2_with fail
      (with_reducible refine HC.out.mono ?_); rintro e w1 ⟨rfl, hb⟩
      have HB := hid hb
      clear hb
      go_wp2
      go_ret
      exact ⟨by simp, HB.out⟩
    · have hcs : ¬ c = s := fun h => hsc h.symm
      clear hs hn
      go_enter Tryz.func17, Tryz.ntmps17
      go_wp2_with fail
      (with_reducible refine HC.out.mono ?_); rintro e w1 ⟨rfl, hb⟩
      have HB := hid hb
      clear hb
      go_wp2
      go_ret
      exact ⟨by simp [hsc, hcs], HB.out⟩
  · have he : (er == 0) = false := by simpa using h0
    clear hs hn
    go_enter Tryz.func17, Tryz.ntmps17
    go_wp2_with fail
    (with_reducible refine HC.out.mono ?_); rintro e w1 ⟨rfl, hb⟩
    have HB := hid hb
    clear hb
    go_wp2
    go_ret
    exact ⟨by simp [he], HB.out⟩
end Go.Proofs.YtheiageokcgbhaaGreatDoor.Pz
