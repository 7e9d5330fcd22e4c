/-
  Part KA of the proofs of this seat: contracts of functions and plain facts, merged from 9 texts.
-/
import Derived.BigQuiet
import Derived.Deep.QuietTactic
import Derived.Test.YtabhkoklcjhlpaaGreatDoorK0
import Derived.Test.YtabhkoklcjhlpaaGreatDoorK1
import Derived.Test.YtabhkoklcjhlpaaGreatDoorK2
import Derived.Test.YtabhkoklcjhlpaaGreatDoorK3
import Derived.Test.YtabhkoklcjhlpaaGreatDoorK4
import Derived.Test.YtabhkoklcjhlpaaGreatDoorK5
import Derived.Test.YtabhkoklcjhlpaaGreatDoorK6
import Derived.Test.YtabhkoklcjhlpaaGreatDoorK7
import Derived.Test.YtabhkoklcjhlpaaGreatDoorK8
import Derived.Test.YtabhkoklcjhlpaaGreatDoorK9
/-
  The reference 02: closing.
-/
namespace Go.Proofs.YtabhkoklcjhlpaaGreatDoor.Pz
open Go.RowKit
/-- the place of the brace that closes, in a text of n bytes; -1 if there is none -/
def closeI (n : Nat) : Option (Str × Str) → Int
  | some (_, r) => ((n - r.length - 1 : Nat) : Int)
  | none => -1
theorem closeI_pre (n : Nat) (p : Str) (o : Option (Str × Str)) : closeI n (pre p o) = closeI n o := by
  cases o with
  | none => rfl
  | some x => rfl
set_option maxRecDepth 100000 in
set_option maxHeartbeats 4000000 in
theorem closingR_fn {s t : Str} {i : Nat} (ha : At s (123 :: t) i) (hs : s.length ≤ 1000000) (w : World) :
    Calls Tryz.prog 120 #[.string ⟨s.toArray⟩, .int .i64 (i : Nat)] w fun e w' => e = .returned (.int .i64 (closeI s.length (brace 0 t))) ∧ w' = w := by
  have hsz : (⟨s.toArray⟩ : ByteArray).size = s.length := Lib.size_mk _
  obtain ⟨R, hR⟩ : ∃ R, R = closeI s.length (brace 0 t) := ⟨_, rfl⟩
  rw [← hR]
  have HR := hid hR
  have HA := hid ha
  have hil : i ≤ 1000000 := by have := ha.len; omega
  clear hR ha
  go_enter Tryz.func120, Tryz.ntmps120
  go_wp2_with fail
  go_loopg [5, 6] (s.length + 2 - i) (fun k ov iv wr => ∃ (o j : Nat), ov = .int .i64 (o : Nat) ∧ iv = .int .i64 (j : Nat) ∧ j ≤ s.length + 1 ∧ o ≤ j ∧ wr = w ∧ k = s.length + 2 - j ∧
    ((o = 0 ∧ At s (123 :: t) j) ∨ (∃ d rest, o = d + 1 ∧ At s rest j ∧ R = closeI s.length (brace d rest)) ∨ (s.length ≤ j ∧ R = -1)))
  case atStart => exact ⟨0, i, rfl, rfl, by have := HA.out.len; omega, Nat.zero_le _, rfl, rfl, .inl ⟨rfl, HA.out⟩⟩
  case round =>
    obtain ⟨o, j, rfl, rfl, hj, hoj, hw, rfl, hcase⟩ := hrel
    replace hw := hw.symm
    subst hw
    rcases hcase with ⟨rfl, ha⟩ | ⟨d, rest, rfl, ha, hr⟩ | ⟨hge, hr⟩
    · have hlt := ha.lt
      have hx := ha.byte
      go_wp2
      go_roundg (s.length + 2 - (j + 1))
      case measure => omega
      case rel => exact ⟨1, j + 1, by go_num, by go_num, by omega, by omega, rfl, rfl, .inr (.inl ⟨0, t, rfl, ha.tail, HR.out⟩)⟩
    · have HR2 := hid hr
      clear hr HR HA
      cases rest with
      | nil =>
        have hge : s.length ≤ j := ha.nil_iff.1 rfl
        go_wp2
        go_ret
        exact ⟨by rw [HR2.out]; rfl, rfl⟩
      | cons c t' =>
        have hlt := ha.lt
        have hx := ha.byte
        have hlen := ha.len
        simp only [List.length_cons] at hlen
        have hR3 := HR2.out
        rw [brace_cons] at hR3
        by_cases h92 : c = 92
        · subst h92
          rw [if_pos (by decide)] at hR3
          cases t' with
          | nil =>
            have HR3 := hid (show R = -1 from hR3)
            clear hR3 HR2
            go_wp2
            go_roundg (s.length + 2 - (j + 2))
            case measure => omega
            case rel => exact ⟨d + 1, j + 2, rfl, by rw [Value.int.injEq]; exact ⟨rfl, by omega⟩, by simp at hlen; omega, by omega, rfl, rfl, .inr (.inr ⟨by simp at hlen; omega, HR3.out⟩)⟩
          | cons e t' =>
            have hR4 : R = closeI s.length (brace d t') := by rw [hR3]; exact closeI_pre _ _ _
            have HR3 := hid hR4
            clear hR3 hR4 HR2
            go_wp2
            go_roundg (s.length + 2 - (j + 2))
            case measure => omega
            case rel => exact ⟨d + 1, j + 2, rfl, by rw [Value.int.injEq]; exact ⟨rfl, by omega⟩, by simp at hlen; omega, by omega, rfl, rfl, .inr (.inl ⟨d, t', rfl, ha.tail.tail, HR3.out⟩)⟩
        · have n92 := byte_ne 92 h92 rfl
          rw [if_neg (by simpa using h92)] at hR3
          by_cases h123 : c = 123
          · subst h123
            rw [if_pos (by decide), closeI_pre] at hR3
            have HR3 := hid hR3
            clear hR3 HR2
            go_wp2
            go_roundg (s.length + 2 - (j + 1))
            case measure => omega
            case rel => exact ⟨d + 1 + 1, j + 1, by go_num, by go_num, by omega, by omega, rfl, rfl, .inr (.inl ⟨d + 1, t', rfl, ha.tail, HR3.out⟩)⟩
          · have n123 := byte_ne 123 h123 rfl
            rw [if_neg (by simpa using h123)] at hR3
            by_cases h125 : c = 125
            · subst h125
              rw [if_pos (by decide)] at hR3
              cases d with
              | zero =>
                have HR3 := hid (show R = ((s.length - t'.length - 1 : Nat) : Int) from hR3)
                clear hR3 HR2
                go_wp2
                go_ret
                exact ⟨ret_i (by rw [HR3.out]; omega), rfl⟩
              | succ d =>
                have hR4 : R = closeI s.length (brace d t') := by rw [hR3]; exact closeI_pre _ _ _
                have HR3 := hid hR4
                clear hR3 hR4 HR2
                have hne : (((d + 1 + 1 : Nat) : Int) - 1 == 0) = false := by rw [beq_eq_false_iff_ne]; omega
                go_wp2
                go_roundg (s.length + 2 - (j + 1))
                case measure => omega
                case rel => exact ⟨d + 1, j + 1, by rw [Value.int.injEq]; exact ⟨rfl, by omega⟩, by go_num, by omega, by omega, rfl, rfl, .inr (.inl ⟨d, t', rfl, ha.tail, HR3.out⟩)⟩
            · have n125 := byte_ne 125 h125 rfl
              rw [if_neg (by simpa using h125), closeI_pre] at hR3
              have HR3 := hid hR3
              clear hR3 HR2
              go_wp2
              go_roundg (s.length + 2 - (j + 1))
              case measure => omega
              case rel => exact ⟨d + 1, j + 1, rfl, by go_num, by omega, by omega, rfl, rfl, .inr (.inl ⟨d, t', rfl, ha.tail, HR3.out⟩)⟩
    · have HR2 := hid hr
      clear hr HR HA
      go_wp2
      go_ret
      rw [HR2.out]
      exact ⟨rfl, rfl⟩
end Go.Proofs.YtabhkoklcjhlpaaGreatDoor.Pz
/-
  The reference 01: Unescaped.
-/
namespace Go.Proofs.YtabhkoklcjhlpaaGreatDoor.Pz
open Go.RowKit
theorem unesc_one1 (l : Str) : (unesc l).1.length = 1 := by
  cases l with
  | nil => rfl
  | cons c t =>
    show (unesc1 c t).1.length = 1
    unfold unesc1
    split
    · rfl
    · split
      · rfl
      · split
        · split <;> rfl
        · split <;> rfl
set_option maxRecDepth 100000 in
set_option maxHeartbeats 1000000 in
theorem unescapedR_fn (s : Str) (hs : s.length ≤ 1000000) (w : World) :
    Calls Tryz.prog 122 #[.string ⟨s.toArray⟩] w fun e w' => e = .returned (.string ⟨(unescAll s).toArray⟩) ∧ Below w.heap.size w w' := by
  obtain ⟨R, hR⟩ : ∃ R, R = unescAll s := ⟨_, rfl⟩
  rw [← hR]
  have HR := hid hR
  clear hR
  go_enter Tryz.func122, Tryz.ntmps122
  go_wp2_with fail
  go_loopg [0, 3] s.length (fun k sv ov wr => ∃ (done l : Str), sv = .string ⟨l.toArray⟩ ∧ ov = .string ⟨done.toArray⟩ ∧ R = done ++ unescAll l ∧ done.length + l.length ≤ s.length ∧ Below w.heap.size w wr ∧ k = l.length)
  case atStart => exact ⟨[], s, rfl, rfl, by rw [HR.out]; rfl, by simp, Below.refl _ _, rfl⟩
  case round =>
    obtain ⟨done, l, rfl, rfl, ho, hdl, hbl, rfl⟩ := hrel
    have hsz : (⟨done.toArray⟩ : ByteArray).size = done.length := Lib.size_mk _
    have hsw := hbl.size
    cases l with
    | nil =>
      have HO := hid (show R = done by rw [ho, unescAll, List.append_nil])
      clear ho
      go_wp2
      go_ret
      rw [HO.out]
      exact ⟨rfl, hbl⟩
    | cons c t =>
      have hzz : (⟨(c :: t).toArray⟩ : ByteArray).size = t.length + 1 := by rw [Lib.size_mk]; simp
      rw [unescAll_cons] at ho
      simp only [List.length_cons] at hdl
      by_cases h92 : c = 92
      · subst h92
        rw [if_pos (by decide)] at ho
        have hu := suf_len (unesc_suf t)
        have hul := unesc_one1 t
        have HU := hid (unescR_fn t (by omega) wr)
        obtain ⟨p, hp⟩ := unesc_suf t
        obtain ⟨q, r, hqr⟩ : ∃ q r, unesc t = (q, r) := ⟨_, _, rfl⟩
        rw [hqr] at HU ho hu hul hp
        dsimp only at HU ho hu hul hp
        have hpl : t.length + 1 - r.length = p.length + 1 := by rw [← hp]; simp; omega
        rw [hpl] at HU
        have hex : (⟨(92 :: t).toArray⟩ : ByteArray).extract (p.length + 1) (t.length + 1) = ⟨r.toArray⟩ := by
          rw [Lib.extract_mk, ← hp]
          simp
        have hlp : p.length + 1 ≤ t.length + 1 := by rw [← hp]; simp
        have hqs : (⟨q.toArray⟩ : ByteArray).size = 1 := by rw [Lib.size_mk]; exact hul
        have happ : (⟨done.toArray⟩ : ByteArray) ++ ⟨q.toArray⟩ = ⟨(done ++ q).toArray⟩ := by rw [ByteArray.ext_iff]; simp
        have HP := hid ho
        have HX := hid hex
        have HPP := hid hp
        clear ho hqr hp hpl hex
        go_wp2_with fail
        (with_reducible refine HU.out.mono ?_); rintro e w1 ⟨rfl, hb1⟩
        have HB := hid (hbl.trans (hb1.mono hsw))
        clear hb1
        have hex := HX.out
        go_wp2
        go_roundg r.length
        case measure => simp only [List.length_cons]; omega
        case rel => exact ⟨done ++ q, r, rfl, rfl, by rw [HP.out, List.append_assoc], by rw [List.length_append]; omega, HB.out, rfl⟩
      · rw [if_neg (by simpa using h92)] at ho
        have HU := hid (unescNo_fn c t (by omega) h92 wr)
        have hex0 : (⟨(c :: t).toArray⟩ : ByteArray).extract 0 1 = ⟨[c].toArray⟩ := by rw [Lib.extract_mk]; simp
        have hex : (⟨(c :: t).toArray⟩ : ByteArray).extract 1 (t.length + 1) = ⟨t.toArray⟩ := by rw [Lib.extract_mk]; simp
        have hqs : (⟨[c].toArray⟩ : ByteArray).size = 1 := rfl
        have HP := hid ho
        clear ho
        go_wp2_with fail
        (with_reducible refine HU.out.mono ?_); rintro e w1 ⟨rfl, hw⟩
        subst hw
        go_wp2
        go_roundg t.length
        case measure => simp
        case rel => exact ⟨done ++ [c], t, rfl, by rw [Value.string.injEq, ByteArray.ext_iff]; simp, by rw [HP.out]; simp, by simp; omega, hbl, rfl⟩
end Go.Proofs.YtabhkoklcjhlpaaGreatDoor.Pz
/-
  The reference 02: element.
-/
namespace Go.Proofs.YtabhkoklcjhlpaaGreatDoor.Pz
open Go.RowKit
/-- what 'element' answers in a text of n bytes -/
def elAns (n : Nat) : Option (Str × Str) → Value
  | some (x, r) => if spaced r = true then .tuple #[.string ⟨x.toArray⟩, .int .i64 ((n - r.length : Nat) : Int)] else .tuple #[.string ⟨#[]⟩, .int .i64 (-1)]
  | none => .tuple #[.string ⟨#[]⟩, .int .i64 (-1)]
theorem elAns_yes {n : Nat} {x r : Str} (h : spaced r = true) : elAns n (some (x, r)) = .tuple #[.string ⟨x.toArray⟩, .int .i64 ((n - r.length : Nat) : Int)] := by
  show (if spaced r = true then _ else _) = _
  rw [if_pos h]
theorem elAns_no {n : Nat} {x r : Str} (h : spaced r = false) : elAns n (some (x, r)) = .tuple #[.string ⟨#[]⟩, .int .i64 (-1)] := by
  show (if spaced r = true then _ else _) = _
  rw [if_neg (by rw [h]; simp)]
theorem At.part {s p r : Str} {i : Nat} (h : At s (p ++ r) i) : (⟨s.toArray⟩ : ByteArray).extract i (i + p.length) = ⟨p.toArray⟩ := h.text
set_option maxRecDepth 100000 in
set_option maxHeartbeats 2000000 in
theorem element_brace {s t : Str} {i : Nat} (ha : At s (123 :: t) i) (hs : s.length ≤ 1000000) (w : World) :
    Calls Tryz.prog 92 #[.string ⟨s.toArray⟩, .int .i64 (i : Nat)] w fun e w' => e = .returned (elAns s.length (brace 0 t)) ∧ Below w.heap.size w w' := by
  have hsz : (⟨s.toArray⟩ : ByteArray).size = s.length := Lib.size_mk _
  have hlt := ha.lt
  have hx := ha.byte
  have hlen := ha.len
  simp only [List.length_cons] at hlen
  have hc := hid (closingR_fn ha hs w)
  have HA := hid ha
  cases hb : brace 0 t with
  | none =>
    rw [hb] at hc
    replace hc := hid (show Calls Tryz.prog 120 #[.string ⟨s.toArray⟩, .int .i64 (i : Nat)] w fun e w' => e = .returned (.int .i64 (-1)) ∧ w' = w from hc.out)
    clear ha hb
    go_enter Tryz.func92, Tryz.ntmps92
    go_wp2_with fail
    (with_reducible refine hc.out.mono ?_); rintro e w1 ⟨rfl, hw⟩; subst hw
    go_wp2
    go_ret2
    exact ⟨rfl, Below.refl _ _⟩
  | some y =>
    obtain ⟨x, r⟩ := y
    have ht := brace_text t.length t (Nat.le_refl _) 0 x r hb
    have htl : t.length = x.length + 1 + r.length := by rw [ht]; simp; omega
    have hk : s.length - r.length - 1 = i + 1 + x.length := by omega
    rw [hb] at hc
    replace hc := hid (show Calls Tryz.prog 120 #[.string ⟨s.toArray⟩, .int .i64 (i : Nat)] w fun e w' => e = .returned (.int .i64 ((i + 1 + x.length : Nat) : Int)) ∧ w' = w by rw [← hk]; exact hc.out)
    have hax : At s (x ++ (125 :: r)) (i + 1) := by rw [← ht]; exact ha.tail
    have hex := hax.text
    have har : At s r (i + 1 + x.length + 1) := hax.app.tail
    have hge : ¬ (((i + 1 + x.length : Nat) : Int) < 0) := by omega
    have hkr : s.length - r.length = i + 1 + x.length + 1 := by omega
    have hle3 : i + 1 + x.length ≤ s.length := by omega
    have HKR := hid hkr
    have HT := hid (And.intro htl hk)
    have HA2 := hid hax
    clear ha hb ht hax htl hk hkr HA
    cases r with
    | nil =>
      have hend : s.length = i + 1 + x.length + 1 := by have := har.len; simpa using this.symm
      have HE := hid hend
      have hend1 : ¬ ((i + 1 + x.length + 1 : Nat) < s.length) := by omega
      clear har hend
      go_enter Tryz.func92, Tryz.ntmps92
      go_wp2_with fail
      (with_reducible refine hc.out.mono ?_); rintro e w1 ⟨rfl, hw⟩; subst hw
      go_wp2
      go_ret2
      refine ⟨?_, Below.refl _ _⟩
      show _ = Ending.returned (elAns s.length (some (x, [])))
      rw [elAns_yes rfl, HKR.out]
      exact ret_si rfl (by omega)
    | cons d r =>
      have hlt2 := har.lt
      have hx2 := har.byte
      have hwc := hid (whiteR_fn d w)
      have HAR := hid har
      clear har
      cases hw : white d with
      | true =>
        rw [hw] at hwc
        go_enter Tryz.func92, Tryz.ntmps92
        go_wp2_with fail
        (with_reducible refine hc.out.mono ?_); rintro e w1 ⟨rfl, hw⟩; subst hw
        go_wp2_with fail
        (with_reducible refine hwc.out.mono ?_); rintro e w1 ⟨rfl, hw⟩; subst hw
        go_wp2
        go_ret2
        refine ⟨?_, Below.refl _ _⟩
        show _ = Ending.returned (elAns s.length (some (x, d :: r)))
        rw [elAns_yes (show spaced (d :: r) = true from hw), HKR.out]
        exact ret_si rfl (by omega)
      | false =>
        rw [hw] at hwc
        go_enter Tryz.func92, Tryz.ntmps92
        go_wp2_with fail
        (with_reducible refine hc.out.mono ?_); rintro e w1 ⟨rfl, hw⟩; subst hw
        go_wp2_with fail
        (with_reducible refine hwc.out.mono ?_); rintro e w1 ⟨rfl, hw⟩; subst hw
        go_wp2
        go_ret2
        refine ⟨?_, Below.refl _ _⟩
        show _ = Ending.returned (elAns s.length (some (x, d :: r)))
        rw [elAns_no (show spaced (d :: r) = false from hw)]
        exact rfl
end Go.Proofs.YtabhkoklcjhlpaaGreatDoor.Pz
/-
  The reference 02: element, quoted and bare; Split.
-/
namespace Go.Proofs.YtabhkoklcjhlpaaGreatDoor.Pz
open Go.RowKit
theorem quotedE_step (c : UInt8) (t : Str) (h34 : c ≠ 34) : (quotedE (c :: t)).map Prod.snd = if c = 92 then (quotedE (unesc t).2).map Prod.snd else (quotedE t).map Prod.snd := by
  rw [quotedE_cons, if_neg (by simpa using h34)]
  by_cases h : c = 92
  · rw [if_pos h, if_pos (by simpa using h)]
    cases quotedE (unesc t).2 with
    | none => rfl
    | some x => rfl
  · rw [if_neg h, if_neg (by simpa using h)]
    cases quotedE t with
    | none => rfl
    | some x => rfl
set_option maxRecDepth 100000 in
set_option maxHeartbeats 2000000 in
theorem element_quoted {s t : Str} {i : Nat} (ha : At s (34 :: t) i) (hs : s.length ≤ 1000000) (w : World) :
    Calls Tryz.prog 92 #[.string ⟨s.toArray⟩, .int .i64 (i : Nat)] w fun e w' => e = .returned (elAns s.length (quotedE t)) ∧ Below w.heap.size w w' := by
  have hsz : (⟨s.toArray⟩ : ByteArray).size = s.length := Lib.size_mk _
  have hlt := ha.lt
  have hx := ha.byte
  have hlen := ha.len
  simp only [List.length_cons] at hlen
  have HAT := hid ha.tail
  clear ha
  obtain ⟨R, hR⟩ : ∃ R, R = (quotedE t).map Prod.snd := ⟨_, rfl⟩
  have HR := hid hR
  clear hR
  go_enter Tryz.func92, Tryz.ntmps92
  go_wp2_with fail
  go_loopg [7] t.length (fun k ev wr => ∃ (e : Nat) (l : Str), ev = .int .i64 (e : Nat) ∧ At s l e ∧ i + 1 ≤ e ∧ R = (quotedE l).map Prod.snd ∧ Below w.heap.size w wr ∧ k = l.length)
  case atStart => exact ⟨i + 1, t, by go_num, HAT.out, Nat.le_refl _, HR.out, Below.refl _ _, rfl⟩
  case round =>
    obtain ⟨e, l, rfl, ha, h1, ho, hbl, rfl⟩ := hrel
    have hlen2 := ha.len
    have hsw := hbl.size
    cases l with
    | nil =>
      have hge : e = s.length := by simpa using hlen2
      subst hge
      have HN : Hid (quotedE t = none) := hid (by
        have h2 : (quotedE t).map Prod.snd = (quotedE []).map Prod.snd := by rw [← HR.out, ho]
        rw [quotedE] at h2
        simpa using h2)
      clear ho
      go_wp2
      go_ret2
      exact ⟨by rw [HN.out]; rfl, hbl⟩
    | cons c l =>
      have hlt2 := ha.lt
      have hx2 := ha.byte
      simp only [List.length_cons] at hlen2
      by_cases h34 : c = 34
      · subst h34
        have hq : ∃ x, quotedE t = some (x, l) := by
          have h2 : (quotedE t).map Prod.snd = some l := by
            rw [← HR.out, ho, quotedE_cons, if_pos (by decide)]
            rfl
          obtain ⟨y, hy, h3⟩ := Option.map_eq_some_iff.1 h2
          exact ⟨y.1, by rw [hy, ← h3]⟩
        obtain ⟨x, hq⟩ := hq
        obtain ⟨p, hp, hpx⟩ := quotedE_text _ t (Nat.le_refl _) x l hq
        have hap : At s (p ++ 34 :: l) (i + 1) := by rw [← hp]; exact HAT.out
        have hex := hap.text
        have hpe : i + 1 + p.length = e := by
          have h8 := hap.app.len
          simp only [List.length_cons] at h8
          omega
        rw [hpe] at hex
        have har := ha.tail
        have hun := hid (unescapedR_fn p (by omega) wr)
        rw [hpx] at hun
        have HQ := hid hq
        have hkr : s.length - l.length = e + 1 := by omega
        have HKR := hid hkr
        have hge : ¬ ((e : Int) ≥ (s.length : Int)) := by omega
        clear hq hp hap hpe hpx ho hkr
        cases l with
        | nil =>
          have hend : s.length = e + 1 := by have := har.len; simpa using this.symm
          have hend1 : ¬ (e + 1 < s.length) := by omega
          clear har hend
          go_wp2_with fail
          (with_reducible refine hun.out.mono ?_); rintro e2 w1 ⟨rfl, hb1⟩
          have HB := hid (hbl.trans (hb1.mono hsw))
          clear hb1
          go_wp2
          go_ret2
          refine ⟨?_, HB.out⟩
          rw [HQ.out]
          rw [elAns_yes rfl, HKR.out]
          exact ret_si rfl (by omega)
        | cons d r =>
          have hlt3 := har.lt
          have hx3 := har.byte
          have hwc := fun u => hid (whiteR_fn d u)
          clear har
          cases hw : white d with
          | true =>
            rw [hw] at hwc
            go_wp2_with fail
            (with_reducible refine hun.out.mono ?_); rintro e2 w1 ⟨rfl, hb1⟩
            have HB := hid (hbl.trans (hb1.mono hsw))
            clear hb1
            go_wp2_with fail
            (with_reducible refine (hwc _).out.mono ?_); rintro e2 w2 ⟨rfl, hw2⟩; subst hw2
            go_wp2
            go_ret2
            refine ⟨?_, HB.out⟩
            rw [HQ.out]
            rw [elAns_yes (show spaced (d :: r) = true from hw), HKR.out]
            exact ret_si rfl (by omega)
          | false =>
            rw [hw] at hwc
            go_wp2_with fail
            (with_reducible refine hun.out.mono ?_); rintro e2 w1 ⟨rfl, hb1⟩
            have HB := hid (hbl.trans (hb1.mono hsw))
            clear hb1
            go_wp2_with fail
            (with_reducible refine (hwc _).out.mono ?_); rintro e2 w2 ⟨rfl, hw2⟩; subst hw2
            go_wp2
            go_ret2
            refine ⟨?_, HB.out⟩
            rw [HQ.out]
            rw [elAns_no (show spaced (d :: r) = false from hw)]
            exact rfl
      · have n34 := byte_ne 34 h34 rfl
        rw [quotedE_step c l h34] at ho
        have hex : (⟨s.toArray⟩ : ByteArray).extract e s.length = ⟨(c :: l).toArray⟩ := At.all ha
        by_cases h92 : c = 92
        · subst h92
          rw [if_pos rfl] at ho
          have hu := suf_len (unesc_suf l)
          have HU := hid (unescR_fn l (by omega) wr)
          have HS := hid (unesc_suf l)
          generalize unesc l = qr at HU ho hu HS
          obtain ⟨q, r⟩ := qr
          dsimp only at HU ho hu HS
          obtain ⟨n, hn⟩ : ∃ n, n = l.length + 1 - r.length := ⟨_, rfl⟩
          rw [← hn] at HU
          have hn1 : 1 ≤ n := by omega
          have HN := hid hn
          have HO := hid ho
          have HA := hid ha
          have hmx : max (n : Int) 1 = (n : Int) := by omega
          have hen : e + n ≤ 1000000 := by omega
          clear hn ho h34 ha
          go_wp2_with fail
          (with_reducible refine HU.out.mono ?_); rintro e2 w1 ⟨rfl, hb1⟩
          have HB := hid (hbl.trans (hb1.mono hsw))
          clear hb1
          go_wp2
          go_roundg r.length
          case measure => simp only [List.length_cons]; omega
          case rel => exact ⟨e + n, r, by go_num, by have h9 := HA.out.tail.suf HS.out; have := HN.out; rw [show e + n = s.length - r.length by omega]; exact h9, by omega, HO.out, HB.out, rfl⟩
        · rw [if_neg h92] at ho
          have HU := hid (unescNo_fn c l (by omega) h92 wr)
          have HO := hid ho
          have HA := hid ha
          clear ho ha
          go_wp2_with fail
          (with_reducible refine HU.out.mono ?_); rintro e2 w1 ⟨rfl, hw⟩; subst hw
          go_wp2
          go_roundg l.length
          case measure => simp
          case rel => exact ⟨e + 1, l, by go_num, HA.out.tail, by omega, HO.out, hbl, rfl⟩
theorem bareE_step (c : UInt8) (t : Str) (hw : white c = false) : (bareE (c :: t)).2 = if c = 92 then (bareE (unesc t).2).2 else (bareE t).2 := by
  rw [bareE_cons, if_neg (by simp [hw])]
  by_cases h : c = 92
  · rw [if_pos h, if_pos (by simpa using h)]
    rfl
  · rw [if_neg h, if_neg (by simpa using h)]
    rfl
set_option maxRecDepth 100000 in
set_option maxHeartbeats 2000000 in
theorem element_bare {s t : Str} {c0 : UInt8} {i : Nat} (ha : At s (c0 :: t) i) (h1 : c0 ≠ 123) (h2 : c0 ≠ 34) (hs : s.length ≤ 1000000) (w : World) :
    Calls Tryz.prog 92 #[.string ⟨s.toArray⟩, .int .i64 (i : Nat)] w fun e w' => e = .returned (elAns s.length (some (bareE (c0 :: t)))) ∧ Below w.heap.size w w' := by
  have hsz : (⟨s.toArray⟩ : ByteArray).size = s.length := Lib.size_mk _
  have hlt := ha.lt
  have hx := ha.byte
  have hlen := ha.len
  simp only [List.length_cons] at hlen
  have n123 := byte_ne 123 h1 rfl
  have n34 := byte_ne 34 h2 rfl
  have HAT := hid ha
  clear ha h1 h2
  obtain ⟨R, hR⟩ : ∃ R, R = (bareE (c0 :: t)).2 := ⟨_, rfl⟩
  have HR := hid hR
  clear hR
  have fin : ∀ e, At s R e → i ≤ e → elAns s.length (some (bareE (c0 :: t))) = .tuple #[.string ⟨(bareE (c0 :: t)).1.toArray⟩, .int .i64 (e : Nat)] ∧ ∃ p, p.length ≤ 1000000 ∧ (⟨s.toArray⟩ : ByteArray).extract i e = ⟨p.toArray⟩ ∧ unescAll p = (bareE (c0 :: t)).1 := by
    intro e he hie
    obtain ⟨p, hp, hpx⟩ := bareE_text _ (c0 :: t) (Nat.le_refl _)
    have hsp := (bareE_suf _ (c0 :: t) (Nat.le_refl _)).2
    rw [← HR.out] at hp hsp
    have hap : At s (p ++ R) i := by rw [← hp]; exact HAT.out
    have hpe : i + p.length = e := by have := hap.app.eq; have := he.eq; omega
    refine ⟨?_, p, by have := he.len; omega, by rw [← hpe]; exact hap.text, hpx⟩
    have : elAns s.length (some (bareE (c0 :: t))) = elAns s.length (some ((bareE (c0 :: t)).1, R)) := by rw [HR.out]
    rw [this]
    rw [elAns_yes hsp, ← he.eq]
  have FIN := hid fin
  clear fin
  go_enter Tryz.func92, Tryz.ntmps92
  go_wp2_with fail
  go_loopg [7] (t.length + 1) (fun k ev wr => ∃ (e : Nat) (l : Str), ev = .int .i64 (e : Nat) ∧ At s l e ∧ i ≤ e ∧ R = (bareE l).2 ∧ Below w.heap.size w wr ∧ k = l.length)
  case atStart => exact ⟨i, c0 :: t, rfl, HAT.out, Nat.le_refl _, HR.out, Below.refl _ _, by simp⟩
  case round =>
    obtain ⟨e, l, rfl, ha, h1, ho, hbl, rfl⟩ := hrel
    have hlen2 := ha.len
    have hsw := hbl.size
    cases l with
    | nil =>
      have hge : e = s.length := by simpa using hlen2
      have hRn : R = [] := by rw [ho, bareE]
      obtain ⟨hans, p, hpl, hex, hpx⟩ := FIN.out e (by rw [hRn]; exact ha) h1
      have hun := hid (unescapedR_fn p hpl wr)
      rw [hpx] at hun
      have HANS := hid hans
      subst hge
      have hle : i ≤ s.length := by omega
      clear ho hRn hans hpx
      go_wp2_with fail
      (with_reducible refine hun.out.mono ?_); rintro e2 w1 ⟨rfl, hb1⟩
      have HB := hid (hbl.trans (hb1.mono hsw))
      clear hb1
      go_wp2
      go_ret2
      exact ⟨by rw [HANS.out]; rfl, HB.out⟩
    | cons c l =>
      have hlt2 := ha.lt
      have hx2 := ha.byte
      simp only [List.length_cons] at hlen2
      have hwc := hid (whiteR_fn c wr)
      cases hw : white c with
      | true =>
        have hRn : R = c :: l := by rw [ho, bareE_cons, if_pos hw]
        obtain ⟨hans, p, hpl, hex, hpx⟩ := FIN.out e (by rw [hRn]; exact ha) h1
        have hun := hid (unescapedR_fn p hpl wr)
        rw [hpx] at hun
        rw [hw] at hwc
        have HANS := hid hans
        clear ho hRn hans hpx
        go_wp2_with fail
        (with_reducible refine hwc.out.mono ?_); rintro e2 w1 ⟨rfl, hw1⟩; subst hw1
        go_wp2_with fail
        (with_reducible refine hun.out.mono ?_); rintro e2 w1 ⟨rfl, hb1⟩
        have HB := hid (hbl.trans (hb1.mono hsw))
        clear hb1
        go_wp2
        go_ret2
        exact ⟨by rw [HANS.out]; rfl, HB.out⟩
      | false =>
        rw [hw] at hwc
        rw [bareE_step c l hw] at ho
        have hex : (⟨s.toArray⟩ : ByteArray).extract e s.length = ⟨(c :: l).toArray⟩ := At.all ha
        by_cases h92 : c = 92
        · subst h92
          rw [if_pos rfl] at ho
          replace hwc := hid (show Calls Tryz.prog 91 #[.int .u8 92] wr (fun e w' => e = .returned (.bool false) ∧ w' = wr) from hwc.out)
          have hu := suf_len (unesc_suf l)
          have HU := hid (unescR_fn l (by omega) wr)
          have HS := hid (unesc_suf l)
          generalize unesc l = qr at HU ho hu HS
          obtain ⟨q, r⟩ := qr
          dsimp only at HU ho hu HS
          obtain ⟨n, hn⟩ : ∃ n, n = l.length + 1 - r.length := ⟨_, rfl⟩
          rw [← hn] at HU
          have hn1 : 1 ≤ n := by omega
          have HN := hid hn
          have HO := hid ho
          have HA := hid ha
          have hmx : max (n : Int) 1 = (n : Int) := by omega
          have hen : e + n ≤ 1000000 := by omega
          clear hn ho ha
          go_wp2_with fail
          (with_reducible refine hwc.out.mono ?_); rintro e2 w1 ⟨rfl, hw1⟩; subst hw1
          go_wp2_with fail
          (with_reducible refine HU.out.mono ?_); rintro e2 w1 ⟨rfl, hb1⟩
          have HB := hid (hbl.trans (hb1.mono hsw))
          clear hb1
          go_wp2
          go_roundg r.length
          case measure => simp only [List.length_cons]; omega
          case rel => exact ⟨e + n, r, by go_num, by have h9 := HA.out.tail.suf HS.out; have := HN.out; rw [show e + n = s.length - r.length by omega]; exact h9, by omega, HO.out, HB.out, rfl⟩
        · rw [if_neg h92] at ho
          have HU := hid (unescNo_fn c l (by omega) h92 wr)
          have HO := hid ho
          have HA := hid ha
          clear ho ha
          go_wp2_with fail
          (with_reducible refine hwc.out.mono ?_); rintro e2 w1 ⟨rfl, hw1⟩; subst hw1
          go_wp2_with fail
          (with_reducible refine HU.out.mono ?_); rintro e2 w1 ⟨rfl, hw⟩; subst hw
          go_wp2
          go_roundg l.length
          case measure => simp
          case rel => exact ⟨e + 1, l, by go_num, HA.out.tail, by omega, HO.out, hbl, rfl⟩
theorem elementR_fn {s t : Str} {c : UInt8} {i : Nat} (ha : At s (c :: t) i) (hs : s.length ≤ 1000000) (w : World) :
    Calls Tryz.prog 92 #[.string ⟨s.toArray⟩, .int .i64 (i : Nat)] w fun e w' => e = .returned (elAns s.length (elemE (c :: t))) ∧ Below w.heap.size w w' := by
  rw [elemE]
  by_cases h1 : c = 123
  · subst h1
    rw [if_pos (by decide)]
    exact element_brace ha hs w
  · rw [if_neg (by simpa using h1)]
    by_cases h2 : c = 34
    · subst h2
      rw [if_pos (by decide)]
      exact element_quoted ha hs w
    · rw [if_neg (by simpa using h2)]
      exact element_bare ha h1 h2 hs w
end Go.Proofs.YtabhkoklcjhlpaaGreatDoor.Pz
/-
  The reference 02: Split.
-/
namespace Go.Proofs.YtabhkoklcjhlpaaGreatDoor.Pz
open Go.RowKit
def glueL (d : List Str) : Sum Nat (List Str) → Sum Nat (List Str)
  | .inl b => .inl b
  | .inr xs => .inr (d ++ xs)
theorem glueL_nil (x : Sum Nat (List Str)) : glueL [] x = x := by cases x <;> rfl
theorem elemE_some {c : UInt8} {t s r : Str} (hw : white c = false) (he : elemE (c :: t) = some (s, r)) (hs : spaced r = true) (d : List Str) : glueL d (listE (c :: t)) = glueL (d ++ [s]) (listE r) := by
  rw [listE_cons hw, he]
  dsimp only
  rw [if_pos hs]
  cases listE r with
  | inl b => rfl
  | inr xs => simp [glueL]
def SplitR (s : Str) (w : World) (e : Ending) (w' : World) : Prop := Below w.heap.size w w' ∧ ∃ v, e = .returned (.tuple #[v, .int .i64 (splitE s).2.1, .int .i64 (splitE s).2.2]) ∧ RowS w.heap.size w' v (splitE s).1
set_option maxRecDepth 100000 in
set_option maxHeartbeats 2000000 in
theorem splitR_fn (s : Str) (hs : s.length ≤ 1000000) (w : World) :
    Calls Tryz.prog 57 #[.string ⟨s.toArray⟩] w fun e w' => Below w.heap.size w w' ∧ ∃ v, e = .returned (.tuple #[v, .int .i64 (splitE s).2.1, .int .i64 (splitE s).2.2]) ∧ RowS w.heap.size w' v (splitE s).1 := by
  have hsz : (⟨s.toArray⟩ : ByteArray).size = s.length := Lib.size_mk _
  obtain ⟨R, hR⟩ : ∃ R, R = splitE s := ⟨_, rfl⟩
  rw [← hR]
  have hfin : ∀ d, listE s = .inr d → R = if d.length ≤ 10000 then (d, 0, 0) else ([], 0, 4) := fun d h => by rw [hR, splitE, h]
  have hbad : ∀ b, listE s = .inl b → R = ([], (s.length : Int) - (b : Int), 2) := fun b h => by rw [hR, splitE, h]
  have HFIN := hid hfin
  have HBAD := hid hbad
  clear hR hfin hbad
  obtain ⟨L, hL⟩ : ∃ L, L = listE s := ⟨_, rfl⟩
  rw [← hL] at HFIN HBAD
  have HL := hid hL
  clear hL
  go_enter Tryz.func57, Tryz.ntmps57
  go_wp2_with fail
  go_loopg [2, 5] (s.length + 1) (fun k vv iv wr => ∃ (i : Nat) (d : List Str) (l : Str), iv = .int .i64 (i : Nat) ∧ At s l i ∧ RowS w.heap.size wr vv d ∧ L = glueL d (listE l) ∧ d.length + l.length ≤ s.length ∧ Below w.heap.size w wr ∧ k = l.length + 1)
  case atStart => exact ⟨0, [], s, rfl, At.start s, RowS.nil _ _, by rw [glueL_nil]; exact HL.out, by simp, Below.refl _ _, rfl⟩
  case round =>
    obtain ⟨i, d, l, rfl, ha, hrow, hL, hdl, hbl, rfl⟩ := hrel
    have hsw := hbl.size
    obtain ⟨a, c, rfl⟩ := hrow.shape
    obtain ⟨n, hn⟩ : ∃ n, n = d.length := ⟨_, rfl⟩
    rw [← hn] at hrow hdl ⊢
    have HN := hid hn
    have HROW := hid hrow
    have HL1 := hid hL
    have HBL := hid hbl
    have HA := hid ha
    clear HL hn hrow hL hbl ha
    go_wp2_with fail
    go_loopg [5] l.length (fun k iv wr2 => ∃ (j : Nat) (m : Str), iv = .int .i64 (j : Nat) ∧ At s m j ∧ listE m = listE l ∧ m.length ≤ l.length ∧ wr2 = wr ∧ k = m.length)
    case atStart => exact ⟨i, l, rfl, HA.out, rfl, Nat.le_refl _, rfl, rfl⟩
    case round =>
      obtain ⟨j, m, rfl, ha, hm, hml, hw2, rfl⟩ := hrel
      subst hw2
      have hlen := ha.len
      cases m with
      | nil =>
        have hge : j = s.length := by simpa using hlen
        subst hge
        have hLd : L = .inr d := by rw [HL1.out, ← hm, listE]; simp [glueL]
        have hR2 := HFIN.out d hLd
        rw [← HN.out] at hR2
        clear hm hLd
        by_cases hmany : n ≤ 10000
        · rw [if_pos hmany] at hR2
          have hle : ¬ ((n : Int) > 10000) := by omega
          have HR := hid hR2
          clear hR2
          go_wp2
          go_ret3
          refine ⟨HBL.out, _, by rw [HR.out] <;> rfl, ?_⟩
          rw [HR.out]
          exact HROW.out
        · rw [if_neg hmany] at hR2
          have hle : (n : Int) > 10000 := by omega
          have HR := hid hR2
          clear hR2
          go_wp2
          go_ret3
          refine ⟨HBL.out, _, by rw [HR.out] <;> rfl, ?_⟩
          rw [HR.out]
          exact RowS.nil _ _
      | cons c0 t =>
        have hlt := ha.lt
        have hx := ha.byte
        have hwc := hid (whiteR_fn c0 wr)
        simp only [List.length_cons] at hlen hml
        cases hw : white c0 with
        | true =>
          rw [hw] at hwc
          have HM := hid (show listE t = listE l by rw [← hm, listE_white hw])
          have HA2 := hid ha
          clear hm ha
          go_wp2_with fail
          (with_reducible refine hwc.out.mono ?_); rintro e2 w1 ⟨rfl, hw1⟩; subst hw1
          go_wp2
          go_roundg t.length
          case measure => simp
          case rel => exact ⟨j + 1, t, by go_num, HA2.out.tail, HM.out, by omega, rfl, rfl⟩
        | false =>
          rw [hw] at hwc
          have hne : ((j : Int) == (s.length : Int)) = false := by rw [beq_eq_false_iff_ne]; omega
          have hel := elementR_fn ha hs wr
          have hls : L = glueL d (listE (c0 :: t)) := by rw [HL1.out, hm]
          cases he : elemE (c0 :: t) with
          | none =>
            rw [he] at hel
            have HE := hid (show Calls Tryz.prog 92 #[.string ⟨s.toArray⟩, .int .i64 (j : Nat)] wr fun e w' => e = .returned (.tuple #[.string ⟨#[]⟩, .int .i64 (-1)]) ∧ Below wr.heap.size wr w' from hel)
            have hLb : L = .inl (t.length + 1) := by rw [hls, listE_cons hw, he]; rfl
            have HR := hid (HBAD.out _ hLb)
            have hjj : (j : Int) = (s.length : Int) - ((t.length + 1 : Nat) : Int) := by omega
            have HJ := hid hjj
            clear hel hls he hLb hjj hm
            go_wp2_with fail
            (with_reducible refine hwc.out.mono ?_); rintro e2 w1 ⟨rfl, hw1⟩; subst hw1
            go_wp2_with fail
            (with_reducible refine HE.out.mono ?_); rintro e2 w1 ⟨rfl, hb1⟩
            have HB := hid (HBL.out.trans (hb1.mono hsw))
            clear hb1
            go_wp2
            go_ret3
            refine ⟨HB.out, _, by rw [HR.out, ← HJ.out] <;> rfl, ?_⟩
            rw [HR.out]
            exact RowS.nil _ _
          | some y =>
            obtain ⟨x, r⟩ := y
            have hr := (elemE_suf hw he).1
            have hrs := (elemE_suf hw he).2
            cases hsp : spaced r with
            | false =>
              have hLb : L = .inl (t.length + 1) := by rw [hls, listE_cons hw, he]; dsimp only; rw [if_neg (by rw [hsp]; simp)]; rfl
              have hea : elAns s.length (elemE (c0 :: t)) = .tuple #[.string ⟨#[]⟩, .int .i64 (-1)] := by rw [he]; exact elAns_no hsp
              rw [hea] at hel
              have HE := hid hel
              have HR := hid (HBAD.out _ hLb)
              have hjj : (j : Int) = (s.length : Int) - ((t.length + 1 : Nat) : Int) := by omega
              have HJ := hid hjj
              clear hel hls he hLb hjj hm hea
              go_wp2_with fail
              (with_reducible refine hwc.out.mono ?_); rintro e2 w1 ⟨rfl, hw1⟩; subst hw1
              go_wp2_with fail
              (with_reducible refine HE.out.mono ?_); rintro e2 w1 ⟨rfl, hb1⟩
              have HB := hid (HBL.out.trans (hb1.mono hsw))
              clear hb1
              go_wp2
              go_ret3
              refine ⟨HB.out, _, by rw [HR.out, ← HJ.out] <;> rfl, ?_⟩
              rw [HR.out]
              exact RowS.nil _ _
            | true =>
              have hea : elAns s.length (elemE (c0 :: t)) = .tuple #[.string ⟨x.toArray⟩, .int .i64 ((s.length - r.length : Nat) : Int)] := by rw [he]; exact elAns_yes hsp
              rw [hea] at hel
              obtain ⟨e0, he0⟩ : ∃ e0, e0 = s.length - r.length := ⟨_, rfl⟩
              rw [← he0] at hel
              have HE := hid hel
              have HA3 := hid (show At s r e0 by rw [he0]; exact ha.suf hrs)
              have HG := hid (hls.trans (elemE_some hw he hsp d))
              have hge0 : ¬ ((e0 : Int) < 0) := by omega
              clear hel hls he hm hea he0 hrs ha
              go_wp2_with fail
              (with_reducible refine hwc.out.mono ?_); rintro e2 w1 ⟨rfl, hw1⟩; subst hw1
              go_wp2_with fail
              (with_reducible refine HE.out.mono ?_); rintro e2 w1 ⟨rfl, hb1⟩
              have HB := hid (HBL.out.trans (hb1.mono hsw))
              have HR1 := hid (HROW.out.on hb1)
              have hz := HB.out.size
              have hdn : d.length ≤ 10000000 := by have := HN.out; omega
              clear hb1
              go_wp2_with (at_builtin; go_loud (refine app_one (w := w1) rfl rfl (.tmp 43) (.tmp 45) rfl w.heap.size _ d x rfl HR1.out rfl hz hdn ?_))
              intro v2 w2 hr2 hg2 hv2
              have HB2 := hid (HB.out.grown hg2 hz fun k hk => (HR1.out.lt k hk).2)
              have HR2 := hid hr2
              have hl2 : n + 1 = (d ++ [x]).length := by rw [List.length_append, HN.out]; rfl
              have HLL := hid hl2
              clear hr2 hg2 hv2 hl2
              go_wp2
              go_roundg (r.length + 1)
              case measure => omega
              case rel => exact ⟨e0, d ++ [x], r, rfl, HA3.out, HR2.out, HG.out, by rw [← HLL.out]; omega, HB2.out, rfl⟩
end Go.Proofs.YtabhkoklcjhlpaaGreatDoor.Pz
/-
  The reference 04: find, once, Pairs.
-/
namespace Go.Proofs.YtabhkoklcjhlpaaGreatDoor.Pz
open Go.RowKit
theorem app_two_op {w : World} {o : Oper} {a : Act} {K : Act → World → Prop} {Q : Exit → Act → World → Prop} (s x : Operand)
    (ho : o.op = .call { callee := .builtin .append, args := #[s, x], argTypes := #[22, 22] })
    (B : Nat) (v : Value) (l : List Str) (q r : Str) (hs : a.eval s = v) (hown : RowS B w v l)
    (hx : a.eval x = .slice (some ⟨w.heap.size, 0, none⟩) 2 2) (hl : l.length ≤ 10000000) (hB : B ≤ w.heap.size)
    (h : ∀ v' w', RowS B w' v' (l ++ [q, r]) → w.grownBy w' v.ownBlock → K (a.put o.dst v') w') :
    o.wp Tryz.prog a (w.alloc (.cells #[.string ⟨q.toArray⟩, .string ⟨r.toArray⟩] 9)) K Q := by
  obtain ⟨i0, hi, hz0, hz1, hz2⟩ := info_parts Tryz.infoS
  have hown' : (w.alloc (.cells #[.string ⟨q.toArray⟩, .string ⟨r.toArray⟩] 9)).ownsRow B 9 1 v l.length (strCells l) := World.ownsRow.alloc hown _
  refine wp_append_own _ s x 22 ho B 9 i0 (.string ⟨#[]⟩) 1 16 Tryz.underlying22 hi hz0 hz1 hz2 rfl (by decide) v l.length (strCells l) hs hown' ⟨w.heap.size, 0, none⟩ 2 2 [.string ⟨q.toArray⟩, .string ⟨r.toArray⟩] hx rfl (World.news_of_block (heap_alloc_new _ _)) (strCells_one [q, r]) ?_ ?_ ?_ ?_
  · unfold maxLen; omega
  · omega
  · simp; omega
  · intro v' w' hrow hg _
    refine h v' w' ?_ ?_
    · show w'.ownsRow B 9 1 v' (l ++ [q, r]).length (strCells (l ++ [q, r]))
      rw [strCells_app, List.length_append]
      exact hrow
    · refine ⟨hg.os, hg.tape, hg.output, ?_, fun k hk hr => ?_⟩
      · have := hg.size; simp at this; omega
      · rw [hg.block k (by simp; omega) hr]
        exact Below.heap_alloc _ _ _ (by omega)
/-- a text of a row is written -/
theorem RowS.stored {B : Nat} {w : World} {g n c : Nat} {l : List Str} (h : RowS B w (.slice (some ⟨g, 0, none⟩) n c) l) (i : Nat) (x : Str) :
    RowS B (w.setCell ⟨g, i, none⟩ (.string ⟨x.toArray⟩)) (.slice (some ⟨g, 0, none⟩) n c) (l.set i x) ∧ Below B w (w.setCell ⟨g, i, none⟩ (.string ⟨x.toArray⟩)) ∧ w.frozen? ⟨g, i, none⟩ = false := by
  have hn : n = l.length := by
    obtain ⟨a', c', e⟩ := h.shape
    simp only [Value.slice.injEq] at e
    exact e.2.1
  have hr' := h
  unfold RowS at hr'
  rw [← hn] at hr'
  obtain ⟨s1, s2⟩ := World.ownsRow.stored hr' i (.string ⟨x.toArray⟩)
  obtain ⟨_, cur, hc⟩ := ownsRow_lt h g rfl
  refine ⟨?_, ?_, Lib.frozen_of_heap hc i⟩
  · show World.ownsRow _ _ _ _ _ _ _
    rw [strCells_set, List.length_set, ← hn]
    exact s1
  · refine ⟨rfl, rfl, rfl, by simp [World.setCell], fun k hk => Below.heap_setCell _ _ _ _ ?_⟩
    have := (h.lt g rfl).2
    intro e
    have : k = g := e
    omega
def findI (Ks : List Str) (k : Str) : Int := match idx Ks k with
  | some i => ((2 * i + 1 : Nat) : Int)
  | none => -1
set_option maxRecDepth 100000 in
set_option maxHeartbeats 1000000 in
theorem find_fn {B : Nat} {w : World} {v : Value} {Ks Vs : List Str} (hv : RowS B w v (flatP (Ks.zip Vs))) (hl : Vs.length = Ks.length) (hn : Ks.length ≤ 1000000) (key : Str) :
    Calls Tryz.prog 125 #[v, .string ⟨key.toArray⟩] w fun e w' => e = .returned (.int .i64 (findI Ks key)) ∧ w' = w := by
  obtain ⟨a, c, rfl⟩ := hv.shape
  obtain ⟨n, hn0⟩ : ∃ n, n = Ks.length := ⟨_, rfl⟩
  have hlen := flat_len hl
  have hlen2 : (flatP (Ks.zip Vs)).length = 2 * n := by rw [hn0]; exact hlen
  rw [hlen2] at hv ⊢
  have HV := hid hv
  have HL := hid hl
  have HL2 := hid hlen2
  have HN := hid hn0
  rw [← hn0] at hn
  clear hv hl hlen hlen2 hn0
  go_enter Tryz.func125, Tryz.ntmps125
  go_wp2_with fail
  go_loopg [5] (n + 1) (fun k iv wr => ∃ j : Nat, iv = .int .i64 ((2 * j : Nat) : Int) ∧ j ≤ n ∧ (∀ m, m < j → Ks[m]? ≠ some key) ∧ wr = w ∧ k = n + 1 - j)
  case atStart => exact ⟨0, rfl, Nat.zero_le _, fun m h => absurd h (by omega), rfl, rfl⟩
  case round =>
    obtain ⟨j, rfl, hj, hno, hw, rfl⟩ := hrel
    replace hw := hw.symm
    subst hw
    have HNO := hid hno
    clear hno
    by_cases hjn : j < n
    · have hjk : j < Ks.length := by rw [← HN.out]; exact hjn
      obtain ⟨g, rfl, hx1, hc⟩ := HV.out.at (i := 2 * j) (by rw [HL2.out]; omega)
      clear hx1
      have hk := flat_key Ks Vs HL.out j
      rw [List.getElem?_eq_getElem (by rw [HL2.out]; omega), List.getElem?_eq_getElem hjk] at hk
      rw [Option.some.inj hk] at hc
      obtain ⟨x, hx⟩ : ∃ x, x = Ks[j] := ⟨_, rfl⟩
      rw [← hx] at hc
      have HX := hid hx
      have h2 : 2 * j < 2 * n := by omega
      clear hk hx
      by_cases he : x = key
      · have HE := hid (show findI Ks key = ((2 * j + 1 : Nat) : Int) by
          have := idx_first (l := Ks) (s := key) (i := j) (by rw [List.getElem?_eq_getElem hjk, ← HX.out, he]) HNO.out
          unfold findI
          rw [this])
        subst he
        go_wp2
        go_ret
        rw [HE.out]
        exact ⟨ret_i (by omega), rfl⟩
      · have hne : (x == key) = false := by simpa using he
        have HNE := hid he
        clear he
        go_wp2
        go_roundg (n + 1 - (j + 1))
        case measure => omega
        case rel => exact ⟨j + 1, by go_num, by omega, fun m hm => by
          rcases Nat.lt_or_ge m j with h | h
          · exact HNO.out m h
          · have : m = j := by omega
            subst this
            rw [List.getElem?_eq_getElem hjk, ← HX.out]
            simpa using HNE.out, rfl, rfl⟩
    · have hjn2 : j = n := by omega
      have HE := hid (show findI Ks key = -1 by
        unfold findI
        rw [idx_none.2 fun hm => by
          obtain ⟨m, hm1, hm2⟩ := List.mem_iff_getElem.1 hm
          exact HNO.out m (by rw [hjn2, HN.out]; exact hm1) (by rw [List.getElem?_eq_getElem hm1, hm2])])
      have h2 : ¬ (2 * j < 2 * n) := by omega
      clear hjn2
      go_wp2
      go_ret
      rw [HE.out]
      exact ⟨rfl, rfl⟩
end Go.Proofs.YtabhkoklcjhlpaaGreatDoor.Pz
/-
  The reference 04: once, Pairs.
-/
namespace Go.Proofs.YtabhkoklcjhlpaaGreatDoor.Pz
open Go.RowKit
theorem findI_some {Ks : List Str} {k : Str} {j : Nat} (h : idx Ks k = some j) : findI Ks k = ((2 * j + 1 : Nat) : Int) := by unfold findI; rw [h]
theorem findI_none {Ks : List Str} {k : Str} (h : idx Ks k = none) : findI Ks k = -1 := by unfold findI; rw [h]
set_option maxRecDepth 100000 in
set_option maxHeartbeats 2000000 in
theorem once_fn {B : Nat} {w : World} {v : Value} {l : List Str} (hv : RowS B w v l) (hl : l.length ≤ 1000000) :
    Calls Tryz.prog 95 #[v] w fun e w' => ∃ u, e = .returned u ∧ RowS w.heap.size w' u (flatP ((bookOf [] [] l).1.zip (bookOf [] [] l).2)) ∧ Below w.heap.size w w' := by
  obtain ⟨a, c, rfl⟩ := hv.shape
  obtain ⟨n, hn⟩ : ∃ n, n = l.length := ⟨_, rfl⟩
  have HN := hid hn
  rw [← hn] at hv hl ⊢
  have HV := hid hv
  have hmx : Tryz.prog.follows .mixedOrders = true := by kernel_rfl
  have HM := hid hmx
  clear hn hv hmx
  go_enter Tryz.func95, Tryz.ntmps95
  go_wp2_with fail
  go_loopg [3, 4] (n + 1) (fun k ov iv wr => ∃ (i : Nat) (Ks Vs : List Str), iv = .int .i64 (i : Nat) ∧ RowS w.heap.size wr ov (flatP (Ks.zip Vs)) ∧ Vs.length = Ks.length ∧ Below w.heap.size w wr ∧ bookOf Ks Vs (l.drop i) = bookOf [] [] l ∧ Ks.length ≤ i ∧ i + k = n + 1)
  case atStart => exact ⟨0, [], [], rfl, RowS.nil _ _, rfl, Below.refl _ _, rfl, by simp, by simp⟩
  case round =>
    obtain ⟨i, Ks, Vs, rfl, hrow, hkv, hbl, hof, hks, hk⟩ := hrel
    have hsw := hbl.size
    obtain ⟨a2, c2, rfl⟩ := hrow.shape
    obtain ⟨m, hm⟩ : ∃ m, m = (flatP (Ks.zip Vs)).length := ⟨_, rfl⟩
    have hm2 : m = 2 * Ks.length := by rw [hm]; exact flat_len hkv
    rw [← hm] at hrow ⊢
    have HMM := hid (And.intro hm hm2)
    have HR := hid hrow
    have HKV := hid hkv
    have HBL := hid hbl
    clear hm hm2 hrow hkv hbl
    by_cases hi : i + 1 < n
    · have hrow : RowS B wr (.slice a n c) l := HV.out.on HBL.out
      have hil : i + 1 < l.length := by rw [← HN.out]; exact hi
      obtain ⟨g, rfl, hx1, hc0⟩ := hrow.at (show i < l.length by omega)
      obtain ⟨g2, e2, hx2, hc1⟩ := hrow.at hil
      clear hx1 hx2
      simp only [Option.some.injEq, Addr.mk.injEq, and_true] at e2
      subst e2
      have hd := drop_two hil
      obtain ⟨k0, hk0e⟩ : ∃ k0, k0 = l[i] := ⟨_, rfl⟩
      obtain ⟨x0, hx0e⟩ : ∃ x0, x0 = l[i + 1] := ⟨_, rfl⟩
      rw [← hk0e, ← hx0e] at hd
      rw [← hk0e] at hc0
      rw [← hx0e] at hc1
      rw [hd, bookOf] at hof
      have HOF := hid hof
      have hfi := find_fn HR.out HKV.out (by omega) k0
      cases hix : idx Ks k0 with
      | some j =>
        rw [findI_some hix] at hfi
        have hjk := idx_lt _ _ _ hix
        have HSK := hid (show setK Ks k0 = Ks ∧ setV Ks Vs k0 x0 = Vs.set j x0 by unfold setK setV; rw [hix]; exact ⟨rfl, rfl⟩)
        have HFI := hid hfi
        obtain ⟨g2, rfl, hx1, hc2⟩ := HR.out.at (i := 2 * j + 1) (by rw [← HMM.out.1, HMM.out.2]; omega)
        have hst := HR.out.stored (2 * j + 1) x0
        rw [flat_set Ks Vs HKV.out] at hst
        have hfz := hst.2.2
        have HST := hid hst
        have hjm : 2 * j + 1 < m := by rw [HMM.out.2]; omega
        clear hof hd hk0e hx0e hrow hfi hix hst hx1
        go_wp2_with fail
        (with_reducible refine HFI.out.mono ?_); rintro e w1 ⟨rfl, hw⟩; subst hw
        go_wp2
        go_roundg (n - (i + 1))
        case measure => omega
        case rel => exact ⟨i + 2, Ks, Vs.set j x0, by go_num, by simpa using HST.out.1, by rw [List.length_set]; exact HKV.out, HBL.out.trans (HST.out.2.1), by rw [← HOF.out, HSK.out.1, HSK.out.2], by omega, by omega⟩
      | none =>
        rw [findI_none hix] at hfi
        have HSK := hid (show setK Ks k0 = Ks ++ [k0] ∧ setV Ks Vs k0 x0 = Vs ++ [x0] by unfold setK setV; rw [hix]; exact ⟨rfl, rfl⟩)
        have HFI := hid hfi
        have hm7 : m ≤ 10000000 := by rw [HMM.out.2]; omega
        clear hof hd hk0e hx0e hrow hfi hix
        go_wp2_with fail
        (with_reducible refine HFI.out.mono ?_); rintro e w1 ⟨rfl, hw⟩; subst hw
        go_wp2
        refine U_begin (late := fun _ => false) (S := fun u : World => u.cell? ⟨g, i, none⟩ = some (.string ⟨k0.toArray⟩) ∧ u.cell? ⟨g, i + 1, none⟩ = some (.string ⟨x0.toArray⟩)) HM.out ?_
        have S0 : Hid ((fun u : World => u.cell? ⟨g, i, none⟩ = some (.string ⟨k0.toArray⟩) ∧ u.cell? ⟨g, i + 1, none⟩ = some (.string ⟨x0.toArray⟩)) w1.drew) := hid ⟨hc0, hc1⟩
        refine U_take2 8 (i := 0) (v := .slice a2 m c2) rfl (by kernel_rfl) (by kernel_rfl) (by kernel_rfl) (by kernel_rfl) (by kernel_rfl) (fun _ _ _ h => h) (.inl ⟨rfl, fun u hu => (by go_simp)⟩) S0.out ?_
        refine U_take2 8 (i := 1) (v := .slice (some ⟨g, 0, none⟩) n c) rfl (by kernel_rfl) (by kernel_rfl) (by kernel_rfl) (by kernel_rfl) (by kernel_rfl) (fun _ _ _ h => h) (.inl ⟨rfl, fun u hu => (by go_simp)⟩) S0.out ?_
        refine U_take2 8 (i := 2) (v := .int .i64 (i : Nat)) rfl (by kernel_rfl) (by kernel_rfl) (by kernel_rfl) (by kernel_rfl) (by kernel_rfl) (fun _ _ _ h => h) (.inl ⟨rfl, fun u hu => (by go_simp)⟩) S0.out ?_
        refine U_take2 8 (i := 3) (v := .pointer (some ⟨g, i, none⟩)) rfl (by kernel_rfl) (by kernel_rfl) (by kernel_rfl) (by kernel_rfl) (by kernel_rfl) (fun _ _ _ h => h) (.inl ⟨rfl, fun u hu => (by go_simp; exact fun h => absurd h (by omega))⟩) S0.out ?_
        refine U_take2 8 (i := 4) (v := .string ⟨k0.toArray⟩) rfl (by kernel_rfl) (by kernel_rfl) (by kernel_rfl) (by kernel_rfl) (by kernel_rfl) (fun _ _ _ h => h) (.inl ⟨rfl, fun u hu => (by obtain ⟨h1, h2⟩ := hu; go_simp)⟩) S0.out ?_
        refine U_take2 8 (i := 5) (v := .slice (some ⟨g, 0, none⟩) n c) rfl (by kernel_rfl) (by kernel_rfl) (by kernel_rfl) (by kernel_rfl) (by kernel_rfl) (fun _ _ _ h => h) (.inl ⟨rfl, fun u hu => (by go_simp)⟩) S0.out ?_
        refine U_take2 8 (i := 6) (v := .int .i64 (i : Nat)) rfl (by kernel_rfl) (by kernel_rfl) (by kernel_rfl) (by kernel_rfl) (by kernel_rfl) (fun _ _ _ h => h) (.inl ⟨rfl, fun u hu => (by go_simp)⟩) S0.out ?_
        refine U_take2 8 (i := 7) (v := .int .i64 ((i : Nat) + 1)) rfl (by kernel_rfl) (by kernel_rfl) (by kernel_rfl) (by kernel_rfl) (by kernel_rfl) (fun _ _ _ h => h) (.inl ⟨rfl, fun u hu => (by go_simp; exact wrap_small (by omega) (by omega))⟩) S0.out ?_
        refine U_take2 8 (i := 8) (v := .pointer (some ⟨g, i + 1, none⟩)) rfl (by kernel_rfl) (by kernel_rfl) (by kernel_rfl) (by kernel_rfl) (by kernel_rfl) (fun _ _ _ h => h) (.inl ⟨rfl, fun u hu => (by go_simp; exact fun h => absurd h (by omega))⟩) S0.out ?_
        refine U_take2 8 (i := 9) (v := .string ⟨x0.toArray⟩) rfl (by kernel_rfl) (by kernel_rfl) (by kernel_rfl) (by kernel_rfl) (by kernel_rfl) (fun _ _ _ h => h) (.inl ⟨rfl, fun u hu => (by obtain ⟨h1, h2⟩ := hu; go_simp)⟩) S0.out ?_
        have hgw := (HV.out.lt g rfl).1
        obtain ⟨w2, hw2⟩ : ∃ w2, w2 = w1.drew.alloc (.cells #[.string ⟨k0.toArray⟩, .string ⟨x0.toArray⟩] 9) := ⟨_, rfl⟩
        have hb2 : Below w1.heap.size w1 w2 := by rw [hw2]; exact (Below.refl _ _).drew.alloc (Nat.le_refl _) _
        have k2 : w2.cell? ⟨g, i, none⟩ = some (.string ⟨k0.toArray⟩) := (hb2.cell (p := ⟨g, i, none⟩) (by show g < _; omega)).trans hc0
        have k3 : w2.cell? ⟨g, i + 1, none⟩ = some (.string ⟨x0.toArray⟩) := (hb2.cell (p := ⟨g, i + 1, none⟩) (by show g < _; omega)).trans hc1
        refine U_step (j := 10) (by kernel_rfl) rfl (fun K hK => ?_)
        go_simp
        refine hK.out _ _ (.inr ⟨(by rw [hw2] at k2; exact k2), (by rw [hw2] at k3; exact k3)⟩) ?_
        clear hK K
        refine U_step (j := 11) (by kernel_rfl) rfl (fun K hK => ?_)
        rw [if_pos (show Region.wanted _ _ = true by simp [Region.wanted])]
        refine app_two_op (w := w1.drew) (.tmp 29) (.tmp 39) rfl w.heap.size (.slice a2 m c2) (flatP (Ks.zip Vs)) k0 x0 rfl (HR.out.on (Below.refl _ _).drew) rfl (by rw [← HMM.out.1]; exact hm7) hsw ?_
        intro v5 w5 hr5 hg5
        have hb5 : Below w.heap.size w1 w5 := ((Below.refl _ _).drew).grown hg5 hsw fun k hk => (HR.out.lt k hk).2
        have k4 : w5.cell? ⟨g, i, none⟩ = some (.string ⟨k0.toArray⟩) := (hb5.cell (p := ⟨g, i, none⟩) (by exact hgw)).trans hc0
        have k5 : w5.cell? ⟨g, i + 1, none⟩ = some (.string ⟨x0.toArray⟩) := (hb5.cell (p := ⟨g, i + 1, none⟩) (by exact hgw)).trans hc1
        refine hK.out _ _ (.inr ⟨k4, k5⟩) ?_
        clear hK K
        have HR5 := hid hr5
        have HB5 := hid (HBL.out.trans hb5)
        obtain ⟨a5, c5, e5⟩ := hr5.shape
        subst e5
        refine U_step (j := 12) (by kernel_rfl) rfl (fun K hK => ?_)
        go_simp
        refine hK.out _ _ (.inr ⟨k4, k5⟩) ?_
        clear hK K
        refine U_done (by kernel_rfl) ?_ _
        clear hc0 hc1 k2 k3 k4 k5 S0 hr5 hg5 hb5 hb2 hw2
        go_wp2
        go_roundg (n - (i + 1))
        case measure => omega
        case rel => exact ⟨i + 2, Ks ++ [k0], Vs ++ [x0], by go_num, by rw [flat_snoc Ks Vs HKV.out]; have h9 := HR5.out; rw [List.length_append] at h9; exact h9, by rw [List.length_append, List.length_append, HKV.out]; rfl, HB5.out, by rw [← HOF.out, HSK.out.1, HSK.out.2], by rw [List.length_append]; simp; omega, by omega⟩
    · rw [bookOf_short _ _ _ (by have := HN.out; rw [List.length_drop]; omega)] at hof
      have HOF := hid hof
      clear hof
      go_wp2
      go_ret
      exact ⟨_, rfl, by rw [← HOF.out]; exact HR.out, HBL.out⟩
end Go.Proofs.YtabhkoklcjhlpaaGreatDoor.Pz
/-
  The reference: Join where no limit is met, Same of equal rows, a value of the reference.
-/
namespace Go.Proofs.YtabhkoklcjhlpaaGreatDoor.Pz
open Go.RowKit
set_option maxRecDepth 100000 in
set_option maxHeartbeats 2000000 in
theorem joinR_fn (l : List Str) (v : Value) (w : World) (hv : StrsAt w v l) (hok : joinOk l) :
    Calls Tryz.prog 51 #[v] w fun e w' => e = .returned (.tuple #[.string ⟨(quotedL l).toArray⟩, .int .i64 0]) ∧ Below w.heap.size w w' := by
  obtain ⟨h1, h2, h3⟩ := hok
  obtain ⟨a, cap, rfl, hcap, hcell⟩ := hv
  obtain ⟨n, hn⟩ : ∃ n, n = l.length := ⟨_, rfl⟩
  have HV := hid hcell
  have HT := hid (quotedL_take l)
  have HL := hid (quotedL_take_le l)
  have H2 := hid h2
  have H3 := hid h3
  have HN := hid hn
  rw [← hn] at hcap h1 ⊢
  have hn1 : ¬ ((n : Int) > 10000) := by omega
  clear hcell h2 h3 hn
  go_enter Tryz.func51, Tryz.ntmps51
  go_wp2_with fail
  go_loopg [4, 12] n (fun k sv iv wr => ∃ (i : Nat) (Q0 : Str), sv = .string ⟨Q0.toArray⟩ ∧ iv = .int .i64 (i : Nat) ∧ i ≤ n ∧ Q0 = quotedL (l.take i) ∧ Below w.heap.size w wr ∧ k = n - i)
  case atStart => exact ⟨0, [], rfl, rfl, Nat.zero_le _, rfl, Below.refl _ _, by simp⟩
  case round =>
    obtain ⟨i, Q0, rfl, rfl, hi, hQ0, hbl, rfl⟩ := hrel
    have hsw := hbl.size
    rcases Nat.lt_or_ge i n with hlt | hge
    · have hlt' : i < l.length := by rw [← HN.out]; exact hlt
      obtain ⟨p, rfl, hbb, hcw⟩ := HV.out i hlt'
      have hcw1 : wr.cell? (p.add i) = some (.string ⟨l[i].toArray⟩) := by rw [hbl.cell (p := p.add i) (by rw [add_block]; exact hbb)]; exact hcw
      have hs := H2.out l[i] (List.getElem_mem hlt')
      have ht := HT.out i hlt'
      have hle := HL.out (n - (i + 1)) (i + 1) (by rw [← HN.out]; omega)
      have hl3 := H3.out
      generalize l[i] = s at hcw hcw1 hs ht
      obtain ⟨Q, hQ⟩ : ∃ Q, Q = quotedL (l.take (i + 1)) := ⟨_, rfl⟩
      rw [← hQ, ← hQ0] at ht
      rw [← hQ] at hle
      have HC := hid (quoteR_fn s (by omega) wr)
      obtain ⟨q, hq⟩ : ∃ q, q = quote s := ⟨_, rfl⟩
      rw [← hq] at HC ht
      have HQ := hid hQ
      have HQ0 := hid hQ0
      have HT2 := hid ht
      have hqz : (⟨q.toArray⟩ : ByteArray).size = q.length := Lib.size_mk _
      have hzz : (⟨Q0.toArray⟩ : ByteArray).size = Q0.length := Lib.size_mk _
      have hQle : Q.length ≤ 65536 := by omega
      clear hQ ht hcw hq hle hl3
      by_cases h0 : i = 0
      · subst h0
        replace hcw1 : wr.cell? p = some (.string ⟨s.toArray⟩) := hcw1
        have hz : Q0 = [] := HQ0.out
        subst hz
        have hqQ : Q = q := HT2.out.trans (if_pos rfl)
        subst hqQ
        have hQ65 : ¬ ((Q.length : Int) > 65536) := by omega
        clear hQ0
        go_wp2_with fail
        (with_reducible refine HC.out.mono ?_); rintro e w1 ⟨rfl, hb1⟩
        go_wp2
        go_roundg (n - (0 + 1))
        case measure => omega
        case rel => exact ⟨0 + 1, Q, by rw [Value.string.injEq, ByteArray.ext_iff]; simp, by go_num, by omega, HQ.out, hbl.trans (hb1.mono hsw), rfl⟩
      · have hi0 : (0 : Int) < (i : Int) := by omega
        have hqQ : Q = Q0 ++ 32 :: q := HT2.out.trans (if_neg h0)
        have hl2 : Q0.length + 1 + q.length ≤ 65536 := by rw [hqQ] at hQle; simp at hQle; omega
        have hQ65 : ¬ (((Q0.length + 1 + q.length : Nat) : Int) > 65536) := by omega
        have HQQ := hid hqQ
        clear hQ0 hqQ
        go_wp2_with fail
        (with_reducible refine HC.out.mono ?_); rintro e w1 ⟨rfl, hb1⟩
        go_wp2
        go_roundg (n - (i + 1))
        case measure => omega
        case rel => exact ⟨i + 1, Q, by rw [HQQ.out, Value.string.injEq, ByteArray.ext_iff]; simp, by go_num, by omega, HQ.out, hbl.trans (hb1.mono hsw), rfl⟩
    · obtain rfl : i = n := by omega
      have hR : Q0 = quotedL l := by rw [hQ0, List.take_of_length_le (by rw [← HN.out]; exact Nat.le_refl _)]
      have HR := hid hR
      clear hR hQ0
      go_wp2
      go_ret2
      rw [HR.out]
      exact ⟨rfl, hbl⟩
theorem StrsAt.off {w : World} {v : Value} {l : List Str} (h : StrsAt w v l) : ∃ a c, v = .slice a l.length c ∧ ∀ i (hi : i < l.length), ∃ b o, a = some ⟨b, o, none⟩ ∧ w.cell? ⟨b, o + i, none⟩ = some (.string ⟨l[i].toArray⟩) := by
  obtain ⟨a, c, rfl, _, hcell⟩ := h
  refine ⟨a, c, rfl, fun i hi => ?_⟩
  obtain ⟨p, rfl, _, hc⟩ := hcell i hi
  obtain ⟨p0, e0, _, hc0⟩ := hcell 0 (by omega)
  simp only [Option.some.injEq] at e0
  subst e0
  obtain ⟨b, o, spot⟩ := p
  have hspot : spot = none := by simpa [Addr.add] using World.cell?_spot hc0
  subst hspot
  rw [add_none] at hc
  exact ⟨b, o, rfl, hc⟩
set_option maxRecDepth 100000 in
theorem same_fn {w : World} {u v : Value} {l : List Str} (hu : StrsAt w u l) (hv : StrsAt w v l) (hl : l.length ≤ 10000000) :
    Calls Tryz.prog 26 #[u, v] w fun e w' => e = .returned (.bool true) ∧ Below w.heap.size w w' := by
  have HU := hid hu
  have HV := hid hv
  obtain ⟨a1, c1, rfl, _⟩ := hu.off
  obtain ⟨a2, c2, rfl, _⟩ := hv.off
  clear hu hv
  go_enter Tryz.func26, Tryz.ntmps26
  go_wp2
  go_loopg [13] l.length (fun k iv wr => ∃ i : Nat, iv = .int .i64 (i : Nat) ∧ Below w.heap.size w wr ∧ i + k = l.length)
  case atStart => exact ⟨0, rfl, Below.refl _ _, by simp⟩
  case round =>
    obtain ⟨i, rfl, hbl, hk⟩ := hrel
    by_cases hi : i < l.length
    · obtain ⟨_, _, e1, x1⟩ := (HU.out.below hbl).off
      obtain ⟨_, _, e2, x2⟩ := (HV.out.below hbl).off
      obtain ⟨b1, o1, f1, y1⟩ := x1 i hi
      obtain ⟨b2, o2, f2, y2⟩ := x2 i hi
      simp only [Value.slice.injEq] at e1 e2
      rw [← e1.1] at f1
      rw [← e2.1] at f2
      subst f1
      subst f2
      obtain ⟨s, hs⟩ : ∃ s, s = l[i] := ⟨_, rfl⟩
      rw [← hs] at y1 y2
      have hi1 : (0 : Int) ≤ (i : Int) ∧ (i : Int) < (l.length : Int) := by omega
      have hi2 : (i : Int) < (l.length : Int) := by omega
      clear hs x1 x2 e1 e2
      go_wp2
      go_quiet (fail)
      have hbl0 := hid (show Below w.heap.size w (wr.drewN nq) from hbl.trans ⟨rfl, rfl, rfl, Nat.le_refl _, fun _ _ => rfl⟩)
      clear hbl y1 y2
      go_wp2
      go_roundg (l.length - (i + 1))
      case measure => omega
      case rel => exact ⟨i + 1, by go_num, hbl0.out, by omega⟩
    · go_wp2
      go_ret
      exact ⟨rfl, hbl⟩
/-- a value of the reference -/
def RVal (w : World) (b : Nat) (t : Str) (n : Int) : Prop := w.heap[b]? = some (.cells #[.string ⟨t.toArray⟩, .int .i64 n] 80 (0, 0))
theorem RVal.on {w w' : World} {b : Nat} {t : Str} {n : Int} (h : RVal w b t n) (hb : Below w.heap.size w w') : RVal w' b t n := (hb.block b (Array.getElem?_eq_some_iff.1 h).1).trans h
theorem RVal.only {w w' : World} {b : Nat} {t : Str} {n : Int} (h : RVal w b t n) {A : List Nat} (ho : Only A w w') (hA : b ∉ A) : RVal w' b t n := ho.cells h hA
theorem textR_fn {w : World} {b : Nat} {t : Str} {n : Int} (h : RVal w b t n) : Calls Tryz.prog 23 #[.pointer (some ⟨b, 0, none⟩)] w fun e w' => e = .returned (.string ⟨t.toArray⟩) ∧ w' = w := by
  have c0 : w.cell? ⟨b, 0, none⟩ = some (.string ⟨t.toArray⟩) := by rw [Lib.cell_of_heap h]; rfl
  clear h
  go_enter Tryz.func23, Tryz.ntmps23
  go_wp2
  go_ret
  exact ⟨rfl, rfl⟩
theorem faceR_fn {w : World} {b : Nat} {t : Str} {n : Int} (h : RVal w b t n) : Calls Tryz.prog 25 #[.pointer (some ⟨b, 0, none⟩)] w fun e w' => e = .returned (.int .i64 n) ∧ w' = w := by
  have c0 : w.cell? ⟨b, 1, none⟩ = some (.int .i64 n) := by rw [Lib.cell_of_heap h]; rfl
  clear h
  go_enter Tryz.func25, Tryz.ntmps25
  go_wp2
  go_ret
  exact ⟨rfl, rfl⟩
theorem newR_fn (t : Str) (w : World) : Calls Tryz.prog 28 #[.string ⟨t.toArray⟩] w fun e w' => e = .returned (.pointer (some ⟨w.heap.size, 0, none⟩)) ∧ RVal w' w.heap.size t 0 ∧ Below w.heap.size w w' := by
  have h0 : RVal (w.alloc (.cells #[.string ⟨t.toArray⟩, .int .i64 0] 80)) w.heap.size t 0 := heap_alloc_new _ _
  have hb := belowA w (.cells #[.string ⟨t.toArray⟩, .int .i64 0] 80)
  have H0 := hid h0
  have HB := hid hb
  clear h0 hb
  go_enter Tryz.func28, Tryz.ntmps28
  go_wp2
  go_ret
  exact ⟨rfl, H0.out, HB.out⟩
set_option maxRecDepth 100000 in
theorem ofListR_fn {l : List Str} {v : Value} {w : World} (hv : StrsAt w v l) (hok : joinOk l) :
    Calls Tryz.prog 18 #[v] w fun e w' => ∃ b, e = .returned (.tuple #[.pointer (some ⟨b, 0, none⟩), .int .i64 0]) ∧ w.heap.size ≤ b ∧ RVal w' b (quotedL l) 1 ∧ Below w.heap.size w w' := by
  have hJ := hid (joinR_fn l v w hv hok)
  obtain ⟨a, cp, rfl, _⟩ := hv
  obtain ⟨n, hn⟩ : ∃ n, n = l.length := ⟨_, rfl⟩
  rw [← hn] at hJ ⊢
  clear hok hn
  generalize quotedL l = t at hJ ⊢
  go_enter Tryz.func18, Tryz.ntmps18
  go_wp2_with fail
  (with_reducible refine hJ.out.mono ?_); rintro e w1 ⟨rfl, hb1⟩
  have h0 := hid (show RVal (w1.alloc (.cells #[.string ⟨t.toArray⟩, .int .i64 1] 80)) w1.heap.size t 1 from heap_alloc_new _ _)
  have hs := hb1.size
  have HB := hid (hb1.trans ((belowA w1 (.cells #[.string ⟨t.toArray⟩, .int .i64 1] 80)).mono hs))
  clear hb1
  go_wp2
  go_ret2
  exact ⟨_, rfl, hs, h0.out, HB.out⟩
set_option maxRecDepth 100000 in
theorem ofNumberR_fn (t : Str) (ht : t.length ≤ 2000000) (w : World) :
    Calls Tryz.prog 20 #[.string ⟨t.toArray⟩] w fun e w' => Below w.heap.size w w' ∧ if (canRes t).2 = 0 then ∃ b, e = .returned (.tuple #[.pointer (some ⟨b, 0, none⟩), .int .i64 0]) ∧ w.heap.size ≤ b ∧ RVal w' b (canRes t).1 2 else e = .returned (.tuple #[.pointer none, .int .i64 (canRes t).2]) := by
  have hJ := canR_fn t ht w
  generalize canRes t = r at hJ ⊢
  obtain ⟨c, er⟩ := r
  have hJ := hid hJ
  by_cases he : er = 0
  · subst he
    simp only [if_true]
    go_enter Tryz.func20, Tryz.ntmps20
    go_wp2_with fail
    (with_reducible refine hJ.out.mono ?_); rintro e w1 ⟨rfl, hb1⟩
    have h0 := hid (show RVal (w1.alloc (.cells #[.string ⟨c.toArray⟩, .int .i64 2] 80)) w1.heap.size c 2 from heap_alloc_new _ _)
    have hs := hb1.size
    have HB := hid (hb1.trans ((belowA w1 (.cells #[.string ⟨c.toArray⟩, .int .i64 2] 80)).mono hs))
    clear hb1
    go_wp2
    go_ret2
    exact ⟨HB.out, _, rfl, hs, h0.out⟩
  · have hne : (er != 0) = true := by rw [bne_iff_ne]; exact he
    simp only [if_neg he]
    go_enter Tryz.func20, Tryz.ntmps20
    go_wp2_with fail
    (with_reducible refine hJ.out.mono ?_); rintro e w1 ⟨rfl, hb1⟩
    have HB := hid hb1
    clear hb1
    go_wp2
    go_ret2
    exact ⟨HB.out, rfl⟩
set_option maxRecDepth 100000 in
theorem ofNumber_fn (t : Str) (ht : t.length ≤ 2000000) (w : World) :
    Calls Tryz.prog 19 #[.string ⟨t.toArray⟩] w fun e w' => Below w.heap.size w w' ∧ if (canRes t).2 = 0 then ∃ vb sb fv, e = .returned (.tuple #[.pointer (some ⟨vb, 0, none⟩), .int .i64 0]) ∧ w.heap.size ≤ vb ∧ w.heap.size ≤ sb ∧ ValAt vb sb w' fv (canRes t).1 false 1 (.num (canRes t).1) else e = .returned (.tuple #[.pointer none, .int .i64 (canRes t).2]) := by
  have hJ := can_fn t (by omega) w
  generalize canRes t = r at hJ ⊢
  obtain ⟨c, er⟩ := r
  have hJ := hid hJ
  by_cases he : er = 0
  · subst he
    simp only [if_true]
    go_enter Tryz.func19, Tryz.ntmps19
    go_wp2_with fail
    (with_reducible refine hJ.out.mono ?_); rintro e w1 ⟨rfl, hb1⟩
    have hM := hid (made_fn (w := w1) (f := .num c) (fv := .iface 82 (.string ⟨c.toArray⟩)) rfl trivial)
    have hs := hb1.size
    have HB := hid hb1
    clear hb1
    go_wp2_with fail
    (with_reducible refine hM.out.mono ?_); rintro e w3 ⟨vb, sb, rfl, h1, h2, hv, hb3⟩
    have HV3 := hid hv
    have HB3 := hid (HB.out.trans (hb3.mono hs))
    clear hv hb3
    go_wp2
    go_ret2
    exact ⟨HB3.out, vb, sb, _, rfl, by omega, by omega, HV3.out⟩
  · have hne : (er != 0) = true := by rw [bne_iff_ne]; exact he
    simp only [if_neg he]
    go_enter Tryz.func19, Tryz.ntmps19
    go_wp2_with fail
    (with_reducible refine hJ.out.mono ?_); rintro e w1 ⟨rfl, hb1⟩
    have HB := hid hb1
    clear hb1
    go_wp2
    go_ret2
    exact ⟨HB.out, rfl⟩
end Go.Proofs.YtabhkoklcjhlpaaGreatDoor.Pz
/-
  The reference 04's Pairs; the reference 05: asked, List, Number, Pairs.
-/
namespace Go.Proofs.YtabhkoklcjhlpaaGreatDoor.Pz
open Go.RowKit
set_option maxRecDepth 100000 in
set_option maxHeartbeats 1000000 in
theorem pairs4_fn (s : Str) (hs : s.length ≤ 1000000) (w : World) :
    Calls Tryz.prog 63 #[.string ⟨s.toArray⟩] w fun e w' => Below w.heap.size w w' ∧ ∃ v, e = .returned (.tuple #[v, .int .i64 (pairsE s).2]) ∧ RowS w.heap.size w' v (pairsE s).1 := by
  have HS := hid (splitR_fn s hs w)
  have hso := splitE_out s
  unfold pairsE
  generalize splitE s = R at HS hso ⊢
  obtain ⟨l, at0, er⟩ := R
  dsimp only at HS hso ⊢
  by_cases he : er = 0
  · subst he
    by_cases h2 : l.length % 2 = 0
    · rw [if_pos ⟨rfl, h2⟩]
      have hm : (((l.length : Nat) : Int) % 2 != 0) = false := by rw [bne_eq_false_iff_eq]; omega
      go_enter Tryz.func63, Tryz.ntmps63
      go_wp2_with fail
      (with_reducible refine HS.out.mono ?_); rintro e w1 ⟨hb, v, rfl, hv⟩
      have HO := hid (once_fn hv (by omega))
      obtain ⟨a, c, rfl⟩ := hv.shape
      have HB := hid hb
      have hsz := hb.size
      clear hv hb
      go_wp2_with fail
      (with_reducible refine HO.out.mono ?_); rintro e w2 ⟨u, rfl, hr, hb2⟩
      obtain ⟨a2, c2, e2⟩ := hr.shape
      obtain ⟨n2, hn2⟩ : ∃ n, n = (flatP ((bookOf [] [] l).1.zip (bookOf [] [] l).2)).length := ⟨_, rfl⟩
      rw [← hn2] at e2
      subst e2
      have HR := hid (hr.mono hsz)
      have HB2 := hid (HB.out.trans (hb2.mono hsz))
      clear hr hb2 hn2
      go_wp2
      go_ret2
      exact ⟨HB2.out, _, rfl, HR.out⟩
    · rw [if_neg (fun h => h2 h.2)]
      have hm : (((l.length : Nat) : Int) % 2 != 0) = true := by rw [bne_iff_ne]; omega
      go_enter Tryz.func63, Tryz.ntmps63
      go_wp2_with fail
      (with_reducible refine HS.out.mono ?_); rintro e w1 ⟨hb, v, rfl, hv⟩
      obtain ⟨a, c, rfl⟩ := hv.shape
      have HB := hid hb
      clear hv hb
      go_wp2
      go_ret2
      exact ⟨HB.out, _, rfl, RowS.nil _ _⟩
  · rw [if_neg (fun h => he h.1)]
    have hne : (er != 0) = true := by rw [bne_iff_ne]; exact he
    go_enter Tryz.func63, Tryz.ntmps63
    go_wp2_with fail
    (with_reducible refine HS.out.mono ?_); rintro e w1 ⟨hb, v, rfl, hv⟩
    obtain ⟨a, c, rfl⟩ := hv.shape
    have HB := hid hb
    clear hv hb
    go_wp2
    go_ret2
    exact ⟨HB.out, _, rfl, RowS.nil _ _⟩
def faceIf (er f n : Int) : Int := if er = 0 then f else n
theorem RVal.faced {w : World} {b : Nat} {t : Str} {n : Int} (h : RVal w b t n) (m : Int) : RVal (w.setCell ⟨b, 1, none⟩ (.int .i64 m)) b t m ∧ Only [b] w (w.setCell ⟨b, 1, none⟩ (.int .i64 m)) :=
  ⟨by unfold RVal at h ⊢; simp [World.setCell, Array.getElem?_modify, h], Only.set (by simp) _⟩
theorem asked_fn {w : World} {b : Nat} {t : Str} {n : Int} (h : RVal w b t n) (f e0 : Int) :
    Calls Tryz.prog 58 #[.pointer (some ⟨b, 0, none⟩), .int .i64 f, .int .i64 e0] w fun e w' => e = .returned (.tuple #[]) ∧ RVal w' b t (faceIf e0 f n) ∧ Only [b] w w' := by
  by_cases he : e0 = 0
  · subst he
    rw [show faceIf 0 f n = f from rfl]
    have hz := hid (h.faced f)
    have c0 : w.cell? ⟨b, 1, none⟩ = some (.int .i64 n) := by rw [Lib.cell_of_heap h]; rfl
    have c1 : w.frozen? ⟨b, 1, none⟩ = false := Lib.frozen_of_heap h 1
    clear h
    go_enter Tryz.func58, Tryz.ntmps58
    go_wp2
    go_end0
    exact ⟨rfl, hz.out.1, hz.out.2⟩
  · rw [show faceIf e0 f n = n from if_neg he]
    have hne : (e0 == 0) = false := by rw [beq_eq_false_iff_ne]; exact he
    have H := hid h
    clear h
    go_enter Tryz.func58, Tryz.ntmps58
    go_wp2
    go_end0
    exact ⟨rfl, H.out, Only.refl _ _⟩
set_option maxRecDepth 100000 in
theorem listR5_fn {w : World} {b : Nat} {t : Str} {n : Int} (h : RVal w b t n) (ht : t.length ≤ 1000000) :
    Calls Tryz.prog 29 #[.pointer (some ⟨b, 0, none⟩)] w fun e w' => ∃ u, e = .returned (.tuple #[u, .int .i64 (splitE t).2.2]) ∧ RowS w.heap.size w' u (splitE t).1 ∧ Only [b] w w' ∧ RVal w' b t (faceIf (splitE t).2.2 1 n) := by
  have HT := hid (textR_fn h)
  have HS := hid (splitR_fn t ht w)
  have H := hid h
  generalize splitE t = R at HS ⊢
  obtain ⟨l, at0, er⟩ := R
  dsimp only at HS ⊢
  have HS := hid HS.out
  clear h
  go_enter Tryz.func29, Tryz.ntmps29
  go_wp2_with fail
  (with_reducible refine HT.out.mono ?_); rintro e w1 ⟨rfl, hw⟩; subst hw
  go_wp2_with fail
  (with_reducible refine HS.out.mono ?_); rintro e w2 ⟨hb, v, rfl, hv⟩
  have HA := hid (asked_fn (H.out.on hb) 1 er)
  have HV := hid hv
  have HB := hid hb
  obtain ⟨a, c, e2⟩ := hv.shape
  obtain ⟨m, hm⟩ : ∃ m, m = l.length := ⟨_, rfl⟩
  rw [← hm] at e2
  subst e2
  clear hv hb hm
  go_wp2_with fail
  (with_reducible refine HA.out.mono ?_); rintro e w3 ⟨rfl, hr, ho⟩
  have HR := hid hr
  have HO := hid ((Only.of HB.out _).trans ho)
  have HV3 := hid (show RowS w1.heap.size w3 (.slice a m c) l from ownsRow_heap2 HV.out fun g cur hg hc => ho.cells hc (by
    have := kinds_ne hc (H.out.on HB.out) (by decide)
    simpa using this))
  clear hr ho
  go_wp2
  go_ret2
  exact ⟨_, rfl, HV3.out, HO.out, HR.out⟩
set_option maxRecDepth 100000 in
theorem pairsR5_fn {w : World} {b : Nat} {t : Str} {n : Int} (h : RVal w b t n) (ht : t.length ≤ 1000000) :
    Calls Tryz.prog 35 #[.pointer (some ⟨b, 0, none⟩)] w fun e w' => ∃ u, e = .returned (.tuple #[u, .int .i64 (pairsE t).2]) ∧ RowS w.heap.size w' u (pairsE t).1 ∧ Only [b] w w' ∧ RVal w' b t (faceIf (pairsE t).2 3 n) := by
  have HT := hid (textR_fn h)
  have HS := hid (pairs4_fn t ht w)
  have H := hid h
  generalize pairsE t = R at HS ⊢
  obtain ⟨l, er⟩ := R
  dsimp only at HS ⊢
  have HS := hid HS.out
  clear h
  go_enter Tryz.func35, Tryz.ntmps35
  go_wp2_with fail
  (with_reducible refine HT.out.mono ?_); rintro e w1 ⟨rfl, hw⟩; subst hw
  go_wp2_with fail
  (with_reducible refine HS.out.mono ?_); rintro e w2 ⟨hb, v, rfl, hv⟩
  have HA := hid (asked_fn (H.out.on hb) 3 er)
  have HV := hid hv
  have HB := hid hb
  obtain ⟨a, c, e2⟩ := hv.shape
  obtain ⟨m, hm⟩ : ∃ m, m = l.length := ⟨_, rfl⟩
  rw [← hm] at e2
  subst e2
  clear hv hb hm
  go_wp2_with fail
  (with_reducible refine HA.out.mono ?_); rintro e w3 ⟨rfl, hr, ho⟩
  have HR := hid hr
  have HO := hid ((Only.of HB.out _).trans ho)
  have HV3 := hid (show RowS w1.heap.size w3 (.slice a m c) l from ownsRow_heap2 HV.out fun g cur hg hc => ho.cells hc (by
    have := kinds_ne hc (H.out.on HB.out) (by decide)
    simpa using this))
  clear hr ho
  go_wp2
  go_ret2
  exact ⟨_, rfl, HV3.out, HO.out, HR.out⟩
set_option maxRecDepth 100000 in
theorem numR5_fn {w : World} {b : Nat} {t : Str} {n : Int} (h : RVal w b t n) (ht : t.length ≤ 1000000) :
    Calls Tryz.prog 31 #[.pointer (some ⟨b, 0, none⟩)] w fun e w' => e = .returned (.tuple #[.string ⟨(canRes t).1.toArray⟩, .int .i64 (canRes t).2]) ∧ Only [b] w w' ∧ RVal w' b t (faceIf (canRes t).2 2 n) := by
  have HT := hid (textR_fn h)
  have HS := hid (canR_fn t (by omega) w)
  have H := hid h
  generalize canRes t = R at HS ⊢
  obtain ⟨l, er⟩ := R
  dsimp only at HS ⊢
  have HS := hid HS.out
  clear h
  go_enter Tryz.func31, Tryz.ntmps31
  go_wp2_with fail
  (with_reducible refine HT.out.mono ?_); rintro e w1 ⟨rfl, hw⟩; subst hw
  go_wp2_with fail
  (with_reducible refine HS.out.mono ?_); rintro e w2 ⟨rfl, hb⟩
  have HA := hid (asked_fn (H.out.on hb) 2 er)
  have HB := hid hb
  clear hb
  go_wp2_with fail
  (with_reducible refine HA.out.mono ?_); rintro e w3 ⟨rfl, hr, ho⟩
  have HR := hid hr
  have HO := hid ((Only.of HB.out _).trans ho)
  clear hr ho
  go_wp2
  go_ret2
  exact ⟨rfl, HO.out, HR.out⟩
end Go.Proofs.YtabhkoklcjhlpaaGreatDoor.Pz
