/-
  Part K6 of the proofs of this seat: contracts of functions and plain facts, merged from 11 texts.
-/
import Derived.Shelf.Strings.Builder2
import Derived.Shelf.Strings.Search3
import Derived.Shelf.LaysM
import Derived.Test.YtkgpmkkodpjdfaaDoorProg
import Derived.BigQuiet
import Derived.Test.YtkgpmkkodpjdfaaDoorK0
import Derived.Test.YtkgpmkkodpjdfaaDoorK1
import Derived.Test.YtkgpmkkodpjdfaaDoorK2
import Derived.Test.YtkgpmkkodpjdfaaDoorK3
import Derived.Test.YtkgpmkkodpjdfaaDoorK4
import Derived.Test.YtkgpmkkodpjdfaaDoorK5
/-
  P6.4 and P6.5: the walk.
-/
namespace Go.Proofs.YtkgpmkkodpjdfaaDoor.Pz
open Go.RowKit
def off3 : Told := ⟨false, false, false⟩
/-- a text of which nothing is told is one token -/
theorem parts_off (d : Nat) : ∀ (l : Str), parts .never off3 d l = .ok (if l.isEmpty then [] else [Tok.txt l]) []
  | [] => parts_end rfl _ _
  | c :: t => by
    rw [parts_cons rfl, parts_off d t]
    simp only [off3, Bool.and_false, Bool.false_eq_true, if_false, Res.glue]
    cases t with
    | nil => rfl
    | cons e t => rfl
set_option maxRecDepth 100000 in
theorem within1_fn (n lo hi : Int) (w : World) : Calls Tryd.prog 23 #[.int .i64 n, .int .i64 lo, .int .i64 hi] w fun e w' => e = .returned (.bool (decide (lo ≤ n) && decide (n ≤ hi))) ∧ w' = w := by
  obtain ⟨R, hR⟩ : ∃ R, R = (decide (lo ≤ n) && decide (n ≤ hi)) := ⟨_, rfl⟩
  rw [← hR]
  have HR := hid hR
  clear hR
  by_cases h1 : n ≥ lo
  · by_cases h2 : n ≤ hi
    · have hr : R = true := by rw [HR.out, decide_eq_true h1, decide_eq_true h2]; rfl
      subst hr
      go_enter Tryd.func23, Tryd.ntmps23
      go_wp2
      go_ret
      exact ⟨rfl, rfl⟩
    · have hr : R = false := by rw [HR.out, decide_eq_true h1, decide_eq_false h2]; rfl
      subst hr
      go_enter Tryd.func23, Tryd.ntmps23
      go_wp2
      go_ret
      exact ⟨rfl, rfl⟩
  · have hr : R = false := by rw [HR.out, decide_eq_false h1]; rfl
    subst hr
    go_enter Tryd.func23, Tryd.ntmps23
    go_wp2
    go_ret
    exact ⟨rfl, rfl⟩
set_option maxRecDepth 100000 in
theorem whiteR_fn (c : UInt8) (w : World) : Calls Tryd.prog 11 #[.int .u8 (c.toNat : Nat)] w fun e w' => e = .returned (.bool (white c)) ∧ w' = w := by
  have hc := hid (within1_fn (c.toNat : Nat) 9 13 w)
  have hW := hid (white_nat c)
  have hl : c.toNat < 256 := c.toNat_lt
  generalize white c = W at hW ⊢
  generalize c.toNat = x at hl hW hc ⊢
  by_cases h1 : 9 ≤ x ∧ x ≤ 13
  · have hd : (decide ((9 : Int) ≤ (x : Int)) && decide ((x : Int) ≤ 13)) = true := by simp; omega
    rw [hd] at hc
    go_enter Tryd.func11, Tryd.ntmps11
    go_wp2_with fail
    (with_reducible refine hc.out.mono ?_); rintro e w1 ⟨rfl, hw⟩; subst w1
    go_wp2
    go_ret
    exact ⟨by rw [hW.out, decide_eq_true h1.1, decide_eq_true h1.2]; rfl, rfl⟩
  · have hd : (decide ((9 : Int) ≤ (x : Int)) && decide ((x : Int) ≤ 13)) = false := by
      rw [Bool.eq_false_iff]
      intro e
      simp at e
      omega
    have hn : (decide (9 ≤ x) && decide (x ≤ 13)) = false := by
      rw [Bool.eq_false_iff]
      intro e
      simp at e
      omega
    rw [hd] at hc
    by_cases h3 : x = 32
    · have h4 : ((x : Int) == 32) = true := by rw [h3]; rfl
      have H3 := hid h3
      clear h3
      go_enter Tryd.func11, Tryd.ntmps11
      go_wp2_with fail
      (with_reducible refine hc.out.mono ?_); rintro e w1 ⟨rfl, hw⟩; subst w1
      go_wp2
      go_ret
      exact ⟨by rw [hW.out, H3.out]; rfl, rfl⟩
    · have h4 : ((x : Int) == 32) = false := by simp; omega
      go_enter Tryd.func11, Tryd.ntmps11
      go_wp2_with fail
      (with_reducible refine hc.out.mono ?_); rintro e w1 ⟨rfl, hw⟩; subst w1
      go_wp2
      go_ret
      refine ⟨?_, rfl⟩
      rw [hW.out, hn, decide_eq_false h3]
      rfl
theorem ScriptQ.rows {s : Str} {w : World} {e : Ending} {w' : World} (h : ScriptQ s w e w') : ∃ cs a n cp at' er, e = .returned (.tuple #[.slice a n cp, .int .i64 at', .int .i64 er]) ∧ Below w.heap.size w w' ∧
    CmdsIs 38 44 30 s.length w' (New w.heap.size) (.slice a n cp) cs ∧ Placed s cs ∧ n = cs.length ∧ (cs ≠ [] → er = 0) := by
  obtain ⟨hb, h⟩ := h
  cases hR : commands false 0 s with
  | ok cs r =>
    rw [hR] at h
    obtain ⟨v, rfl, hcs⟩ := h
    obtain ⟨a, cap, rfl⟩ : ∃ a cap, v = .slice a cs.length cap := by
      obtain ⟨a, cap, hv, _⟩ := RowIs.cell hcs
      exact ⟨a, cap, hv⟩
    exact ⟨cs, a, _, cap, 0, 0, rfl, hb, hcs, placed_of s.length false 0 s (Nat.le_refl _) cs _ hR, rfl, fun _ => rfl⟩
  | halt hh =>
    rw [hR] at h
    obtain ⟨a, e', o, _, h0, rfl⟩ := h
    exact ⟨[], none, 0, 0, a, e', rfl, hb, RowIs.nil, trivial, rfl, fun h => absurd rfl h⟩
/-- what stands at a placed command, and behind it -/
theorem placed_at : ∀ (cs : List Cmd) (l : Str), Placed l cs → ∀ i (hi : i < cs.length), ∃ ch t, ch :: t <:+ l ∧ cs[i].back = (ch :: t).length ∧ white ch = false ∧ ch ≠ 59 ∧ ch ≠ 35 ∧ cs[i].words ≠ [] ∧ Placed t (cs.drop (i + 1))
  | [], _, _, _, hi => absurd hi (by simp)
  | c :: cs, l, h, 0, hi => by
    obtain ⟨ch, t, h1, h2, h3, h4, h5, h6, h7⟩ := h
    exact ⟨ch, t, h1, h2, h3, h4, h5, h6, by simpa using h7⟩
  | c :: cs, l, h, i + 1, hi => by
    obtain ⟨ch, t, h1, _, _, _, _, _, h7⟩ := h
    obtain ⟨ch', t', q1, q2⟩ := placed_at cs t h7 i (by simpa using hi)
    exact ⟨ch', t', q1.trans ((suf_tail ch t).trans h1), by simpa using q2⟩
set_option maxRecDepth 100000 in
set_option maxHeartbeats 4000000 in
theorem parsePlaces_fn (s : List UInt8) (w : World) (ls : s.length ≤ 9223372036854775807) :
    Calls Tryd.prog 4 #[.string ⟨s.toArray⟩] w fun e w' => e = .returned (.bool true) ∧ Below w.heap.size w w' := by
  have AW := fun w => hid (awake_fn w)
  have LA := fun w => hid (long_fn s w)
  by_cases hla : 800 < s.length
  · rw [decide_eq_true hla] at LA
    go_enter Tryd.func4, Tryd.ntmps4
    go_wp2_with fail
    (with_reducible refine (LA _).out.mono ?_); rintro e w1 ⟨rfl, hw⟩; subst w1
    go_wp2_with fail
    (with_reducible refine (AW _).out.mono ?_); rintro e w2 ⟨rfl, hb⟩
    go_wp2
    go_ret
    exact ⟨rfl, hb⟩
  rw [decide_eq_false hla] at LA
  have SA := fun w => hid (script_fn (s := s) (by omega) w)
  have SU : ∀ w, Hid (Calls Tryd.prog 12 #[.string ⟨s.toArray⟩, .bool false, .bool false, .bool false] w (SubstQ off3 s w)) := fun w => hid (subst_fn (s := s) (by omega) off3 w)
  have hszs : (⟨s.toArray⟩ : ByteArray).size = s.length := Lib.size_mk _
  go_enter Tryd.func4, Tryd.ntmps4
  go_wp2_with fail
  (with_reducible refine (LA _).out.mono ?_); rintro e w1 ⟨rfl, hw⟩; subst w1
  go_wp2_with fail
  (with_reducible refine (SA _).out.mono ?_); intro e w1 h1
  obtain ⟨cs, a1, n1, p1, t1, r1, rfl, hb1, hcs, hpl, rfl, hr⟩ := h1.rows
  have HB1 := hid hb1
  have HCS := hid hcs
  have HR := hid hr
  have hsh := hcs.short
  clear h1 hb1 hcs hr
  go_wp2
  go_loopg [6, 23] cs.length (fun k lv iv wr => ∃ (i z : Nat) (l' : Str), iv = .int .i64 (i : Nat) ∧ lv = .int .i64 ((z : Int) - 1) ∧ Placed l' (cs.drop i) ∧ l' <:+ s ∧ z + l'.length ≤ s.length ∧ Below w.heap.size w wr ∧ Below w1.heap.size w1 wr ∧ i + k = cs.length)
  case atStart => exact ⟨0, 0, s, rfl, rfl, hpl, List.suffix_refl _, by simp, HB1.out, Below.refl _ _, by simp⟩
  case round =>
    obtain ⟨i, z, l', rfl, rfl, hpl', hsf, hz, hbl, hbl1, hk⟩ := hrel
    have HBL := hid hbl
    have HBL1 := hid hbl1
    have HK := hid hk
    by_cases hi : i < cs.length
    · obtain ⟨g, cap, u, e1, hws, x0, x1⟩ := cmd_at (HCS.out.ahead hbl1) hi
      simp only [Value.slice.injEq] at e1
      obtain ⟨rfl, _, rfl⟩ := e1
      obtain ⟨ch, t, hct, hbk, hwh, h59, h35, hne, hpn⟩ := placed_at (cs.drop i) l' hpl' 0 (by simp; omega)
      simp only [List.getElem_drop, Nat.add_zero, List.drop_drop] at hbk hne hpn
      obtain ⟨p, hp⟩ : ∃ p : Nat, p = s.length - cs[i].back := ⟨_, rfl⟩
      have hctl := hct.length_le
      have hlsl := hsf.length_le
      simp only [List.length_cons] at hbk hctl
      have hpe : ((s.length : Int) - (cs[i].back : Int)) = (p : Int) := by omega
      rw [hpe] at x0
      have hat : At s (ch :: t) p := by
        have h := At.of_suf (hct.trans hsf)
        rw [hp, hbk]
        simpa using h
      have hx := hat.byte
      have hlt := hat.lt
      obtain ⟨a6, n6, c6, hu, hn6⟩ : ∃ a n c, u = .slice a n c ∧ n = cs[i].words.length := by
        obtain ⟨a, cap, hv, _⟩ := RowIs.cell hws
        exact ⟨a, _, cap, hv, rfl⟩
      subst hu
      have hn0 : ¬ n6 = 0 := by
        rw [hn6]
        intro e
        exact hne (List.eq_nil_of_length_eq_zero e)
      have hn1 : ((n6 : Int) == 0) = false := by simp; omega
      have hr0 : r1 = 0 := HR.out (by intro e; rw [e] at hi; simp at hi)
      have hl1 : ¬ (p : Int) ≤ (z : Int) - 1 := by omega
      have hl2 : ¬ (p : Int) ≥ (s.length : Int) := by omega
      have b59 := byte_ne 59 h59 rfl
      have b35 := byte_ne 35 h35 rfl
      have hi1 : (0 : Int) ≤ (i : Int) ∧ (i : Int) < (cs.length : Int) := by omega
      have hi2 : (i : Int) < (cs.length : Int) := by omega
      have WF := fun w => hid (whiteR_fn ch w)
      rw [hwh] at WF
      have hz2 : p + 1 + t.length ≤ s.length := by omega
      subst hr0
      have HPN := hid hpn
      have HSF := hid ((suf_tail ch t).trans (hct.trans hsf))
      clear hws hpl' hsf hct hbk hne hpn hp hpe hat hn6 hwh hbl hbl1 hk hpl
      go_wp2_with fail
      (with_reducible refine (WF _).out.mono ?_); rintro e w2 ⟨rfl, hw⟩
      subst hw
      have HBA := hid ((Below.refl wr.heap.size wr).alloc (Nat.le_refl _) (.cells #[.int .i64 (p : Nat), .slice a6 n6 c6] 30))
      go_wp2
      go_roundg (gk - 1)
      case measure => have := HK.out; omega
      case rel => exact ⟨i + 1, p + 1, t, by simp, by simp, HPN.out, HSF.out, hz2, HBL.out.trans (HBA.out.mono HBL.out.size), HBL1.out.trans (HBA.out.mono HBL1.out.size), by have := HK.out; omega⟩
    · clear hpl' hsf hz hbl hbl1 hk hpl
      have SU1 := SU wr
      go_wp2_with fail
      (with_reducible refine SU1.out.mono ?_); rintro e w3 ⟨hb3, h3⟩
      rw [parts_off] at h3
      obtain ⟨v, rfl, hts⟩ := h3
      have HB3 := hid (HBL.out.trans (hb3.mono HBL.out.size))
      clear hb3 SU SU1
      by_cases hse : s = []
      · have hsb : s.isEmpty = true := by rw [hse]; rfl
        rw [if_pos hsb] at hts
        obtain ⟨a2, p2, rfl⟩ : ∃ a cap, v = .slice a 0 cap := by
          obtain ⟨a, cap, hv, _⟩ := RowIs.cell hts
          exact ⟨a, cap, hv⟩
        clear hts hse
        go_wp2_with fail
        (with_reducible refine (AW _).out.mono ?_); rintro e w4 ⟨rfl, hb4⟩
        have HB4 := hid (HB3.out.trans (hb4.mono HB3.out.size))
        clear hb4
        go_wp2
        go_ret
        exact ⟨rfl, HB4.out⟩
      · have hsb : s.isEmpty = false := by simpa using hse
        rw [if_neg (by rw [hsb]; simp), if_neg (by rw [hsb]; simp)] at hts
        obtain ⟨g, cap, k, s', b', ix, u, rfl, hx, _, x0, x1, _, _⟩ := tok_at (ts := [Tok.txt s]) hts (i := 0) (by simp)
        obtain ⟨rfl, rfl, rfl, rfl⟩ := Tok.mk.inj (show Tok.mk 1 s false [] = .mk k s' b' ix from hx)
        clear hts hse hx
        go_wp2_with fail
        (with_reducible refine (AW _).out.mono ?_); rintro e w4 ⟨rfl, hb4⟩
        have HB4 := hid (HB3.out.trans (hb4.mono HB3.out.size))
        clear hb4
        go_wp2
        go_ret
        exact ⟨rfl, HB4.out⟩
end Go.Proofs.YtkgpmkkodpjdfaaDoor.Pz
/-
  The command of quoted words is read as just these words.
-/
namespace Go.Proofs.YtkgpmkkodpjdfaaDoor.Pz
/-- a byte that must be quoted -/
def special (c : UInt8) : Bool := white c || [34, 92, 123, 125, 36, 91, 93, 59].contains c
/-- the braces balance from depth d, and no backslash stands at the end -/
def bal : Nat → Str → Bool
  | d, [] => d == 0
  | d, c :: t =>
    if c == 92 then
      match t with
      | [] => false
      | _ :: t' => bal d t'
    else if c == 123 then bal (d + 1) t
    else if c == 125 then
      match d with
      | 0 => false
      | d' + 1 => bal d' t
    else bal d t
/-- a backslash and a line feed stand in it -/
def hasBN : Str → Bool
  | [] => false
  | c :: t => (c == 92 && t.head? == some 10) || hasBN t
def balanced (s : Str) : Bool := bal 0 s && !hasBN s
def slash1 (c : UInt8) : UInt8 := if c == 9 then 116 else if c == 10 then 110 else if c == 11 then 118 else if c == 12 then 102 else if c == 13 then 114 else c
def slash : Bool → Str → Str
  | _, [] => []
  | first, c :: t => if special c || (first && c == 35) then 92 :: slash1 c :: slash false t else c :: slash false t
def plainW (s : Str) : Bool := s.head? != some 35 && s.all fun c => !special c
def quote (s : Str) : Str := if s.isEmpty then [123, 125] else if plainW s then s else if balanced s then 123 :: (s ++ [125]) else slash true s
def quotedL : List Str → Str
  | [] => []
  | [s] => quote s
  | s :: l => quote s ++ 32 :: quotedL l
theorem brace_bal (r : Str) : ∀ (n : Nat) (s : Str), s.length ≤ n → ∀ d, bal d s = true → brace d (s ++ 125 :: r) = some (s, r)
  | n, [], _, d, h => by
    have hd : d = 0 := by simpa [bal] using h
    subst hd
    show brace 0 (125 :: r) = _
    rw [brace.eq_def]
    rfl
  | 0, c :: t, hn, _, _ => absurd hn (by simp)
  | n + 1, c :: t, hn, d, h => by
    have ht : t.length ≤ n := by simpa using hn
    rw [bal.eq_def] at h
    rw [List.cons_append, brace.eq_def]
    dsimp only at h ⊢
    by_cases h1 : (c == 92) = true
    · rw [if_pos h1] at h ⊢
      cases t with
      | nil => cases h
      | cons e t' =>
        have hi := brace_bal r n t' (by simp at ht; omega) d h
        rw [List.cons_append]
        dsimp only
        rw [hi]
        rfl
    · rw [if_neg h1] at h ⊢
      by_cases h2 : (c == 123) = true
      · rw [if_pos h2] at h ⊢
        rw [brace_bal r n t ht _ h]; rfl
      · rw [if_neg h2] at h ⊢
        by_cases h3 : (c == 125) = true
        · rw [if_pos h3] at h ⊢
          cases d with
          | zero => cases h
          | succ d' =>
            dsimp only at h ⊢
            rw [brace_bal r n t ht _ h]; rfl
        · rw [if_neg h3] at h ⊢
          rw [brace_bal r n t ht _ h]; rfl
theorem joined_same : ∀ (n : Nat) (s : Str), s.length ≤ n → hasBN s = false → joined false s = s
  | _, [], _, _ => rfl
  | 0, c :: t, hn, _ => absurd hn (by simp)
  | n + 1, c :: t, hn, h => by
    have ht : t.length ≤ n := by simpa using hn
    rw [hasBN, Bool.or_eq_false_iff] at h
    rw [joined.eq_def]
    dsimp only
    rw [if_neg (by simp)]
    by_cases h1 : (c == 92) = true
    · rw [if_pos h1]
      have hc : c = 92 := by simpa using h1
      subst hc
      cases t with
      | nil => rfl
      | cons e t' =>
        have he : (e == 10) = false := by
          have := h.1
          simpa using this
        dsimp only
        rw [if_neg (by rw [he]; simp)]
        have h2 := h.2
        rw [hasBN, Bool.or_eq_false_iff] at h2
        rw [joined_same n t' (by simp at ht; omega) h2.2]
    · rw [if_neg h1, joined_same n t ht h.2]
theorem byte_nat {c : UInt8} {n : Nat} (h : c.toNat = n) : c = UInt8.ofNat n := by
  subst h
  simp
theorem white_cases {c : UInt8} (h : white c = true) : c = 9 ∨ c = 10 ∨ c = 11 ∨ c = 12 ∨ c = 13 ∨ c = 32 := by
  simp only [white, Bool.or_eq_true, Bool.and_eq_true, decide_eq_true_eq, beq_iff_eq] at h
  rcases h with ⟨h1, h2⟩ | h
  · have h1 : 9 ≤ c.toNat := h1
    have h2 : c.toNat ≤ 13 := h2
    have h3 : c.toNat = 9 ∨ c.toNat = 10 ∨ c.toNat = 11 ∨ c.toNat = 12 ∨ c.toNat = 13 := by omega
    rcases h3 with h | h | h | h | h
    · exact .inl (byte_nat h)
    · exact .inr (.inl (byte_nat h))
    · exact .inr (.inr (.inl (byte_nat h)))
    · exact .inr (.inr (.inr (.inl (byte_nat h))))
    · exact .inr (.inr (.inr (.inr (.inl (byte_nat h)))))
  · exact .inr (.inr (.inr (.inr (.inr h))))
/-- the bytes before which a backslash is put -/
def Slashy (c : UInt8) : Prop := c = 9 ∨ c = 10 ∨ c = 11 ∨ c = 12 ∨ c = 13 ∨ c = 32 ∨ c = 34 ∨ c = 92 ∨ c = 123 ∨ c = 125 ∨ c = 36 ∨ c = 91 ∨ c = 93 ∨ c = 59 ∨ c = 35
theorem slashy {c : UInt8} (h : special c = true ∨ c = 35) : Slashy c := by
  unfold Slashy
  rcases h with h | rfl
  · rw [special, Bool.or_eq_true] at h
    rcases h with h | h
    · rcases white_cases h with rfl | rfl | rfl | rfl | rfl | rfl <;> simp
    · simp at h
      rcases h with rfl | rfl | rfl | rfl | rfl | rfl | rfl | rfl <;> simp
  · simp
theorem unesc_slash {c : UInt8} (h : Slashy c) (t : Str) : unesc (slash1 c :: t) = ([c], t) := by
  rcases h with rfl | rfl | rfl | rfl | rfl | rfl | rfl | rfl | rfl | rfl | rfl | rfl | rfl | rfl | rfl <;>
    simp [unesc, unesc1, slash1, named1, digs, digv, hexv]
theorem ended_slash {c : UInt8} (h : Slashy c) (t : Str) : ended false (92 :: slash1 c :: t) = false := by
  rcases h with rfl | rfl | rfl | rfl | rfl | rfl | rfl | rfl | rfl | rfl | rfl | rfl | rfl | rfl | rfl <;> rfl
theorem plain_facts {c : UInt8} (h : special c = false) : white c = false ∧ c ≠ 92 ∧ c ≠ 36 ∧ c ≠ 91 ∧ c ≠ 123 ∧ c ≠ 34 ∧ c ≠ 59 ∧ c ≠ 10 := by
  rw [special, Bool.or_eq_false_iff] at h
  obtain ⟨hw, hc⟩ := h
  refine ⟨hw, ?_, ?_, ?_, ?_, ?_, ?_, ?_⟩
  all_goals
    rintro rfl
    first
      | exact absurd hc (by decide)
      | exact absurd hw (by decide)
theorem ended_plain {c : UInt8} (h : special c = false) (t : Str) : ended false (c :: t) = false := by
  obtain ⟨h1, h2, _, _, _, _, h7, h8⟩ := plain_facts h
  have hj : joins (c :: t) = false := by
    unfold joins
    split
    · rename_i e
      simp only [List.cons.injEq] at e
      exact absurd e.1 h2
    · rfl
  have hp : parted false (c :: t) = false := by
    show (c == 10 || c == 59 || (false && c == 93)) = false
    simp [h7, h8]
  unfold ended
  rw [hp, hj]
  show (false || white c || false) = false
  rw [h1]
  rfl
theorem parts_slash (d : Nat) (r : Str) (hr : ended false r = true) : ∀ (s : Str) (b : Bool), parts (.bare false) all3 d (slash b s ++ r) = .ok (if s.isEmpty then [] else [Tok.txt s]) r
  | [], _ => parts_end (f := .bare false) hr _ _
  | c :: t, b => by
    have ih := parts_slash d r hr t false
    rw [slash]
    by_cases h : (special c || (b && c == 35)) = true
    · rw [if_pos h]
      have hc : Slashy c := slashy (by
        rw [Bool.or_eq_true, Bool.and_eq_true, beq_iff_eq] at h
        exact h.imp id (fun h => h.2))
      rw [show 92 :: slash1 c :: slash false t ++ r = 92 :: slash1 c :: (slash false t ++ r) from rfl, parts_cons (show (Upto.bare false).ends _ = false from ended_slash hc _), if_pos (by rfl), unesc_slash hc]
      dsimp only
      rw [ih]
      cases t <;> rfl
    · rw [if_neg h]
      have hs : special c = false := by
        cases hx : special c
        · rfl
        · rw [hx] at h; exact absurd rfl h
      obtain ⟨_, h2, h3, h4, _⟩ := plain_facts hs
      rw [show c :: slash false t ++ r = c :: (slash false t ++ r) from rfl]
      rw [parts_cons (show (Upto.bare false).ends _ = false from ended_plain hs _), if_neg (by simp [h2]), if_neg (by simp [h3]), if_neg (by simp [h4]), ih]
      cases t <;> rfl
theorem slash_plain : ∀ (s : Str), (s.all fun c => !special c) = true → slash false s = s
  | [], _ => rfl
  | c :: t, h => by
    rw [List.all_cons, Bool.and_eq_true] at h
    have hc : special c = false := by simpa using h.1
    rw [slash, if_neg (by simp [hc]), slash_plain t h.2]
theorem quote_plain {s : Str} (h : plainW s = true) : slash true s = s := by
  cases s with
  | nil => rfl
  | cons c t =>
    rw [plainW, Bool.and_eq_true, List.all_cons, Bool.and_eq_true] at h
    have hc : special c = false := by simpa using h.2.1
    have h35 : c ≠ 35 := by
      rintro rfl
      exact absurd h.1 (by simp)
    rw [slash, if_neg (by simp [hc, h35]), slash_plain t h.2.2]
theorem slash_head {c : UInt8} {t : Str} : ∃ e u, slash true (c :: t) = e :: u ∧ e ≠ 123 ∧ e ≠ 34 ∧ e ≠ 35 ∧ ∀ r, ended false (e :: u ++ r) = false := by
  rw [slash]
  by_cases h : (special c || (true && c == 35)) = true
  · rw [if_pos h]
    have hc : Slashy c := slashy (by
      rw [Bool.or_eq_true, Bool.and_eq_true, beq_iff_eq] at h
      exact h.imp id (fun h => h.2))
    exact ⟨_, _, rfl, by decide, by decide, by decide, fun r => ended_slash hc _⟩
  · rw [if_neg h]
    have hs : special c = false := by
      cases hx : special c
      · rfl
      · rw [hx] at h; exact absurd rfl h
    obtain ⟨_, _, _, _, h5, h6, _⟩ := plain_facts hs
    refine ⟨_, _, rfl, h5, h6, ?_, fun r => ended_plain hs _⟩
    rintro rfl
    exact h (by simp)
/-- a quoted word is read as itself -/
theorem word_quote1 (s r : Str) (hr : ended false r = true) : (∃ e u, quote s = e :: u ∧ e ≠ 35 ∧ ∀ r, ended false (e :: u ++ r) = false) ∧ word false 0 (quote s ++ r) = .ok ⟨false, [Tok.txt s]⟩ r := by
  have braced : ∀ s : Str, bal 0 s = true → hasBN s = false → word false 0 (123 :: (s ++ [125]) ++ r) = .ok ⟨false, [Tok.txt s]⟩ r := by
    intro s h1 h2
    rw [show 123 :: (s ++ [125]) ++ r = 123 :: (s ++ 125 :: r) by simp, word_brace, brace_bal r s.length s (Nat.le_refl _) 0 h1]
    dsimp only
    rw [hr, if_neg (by simp), if_pos rfl, joined_same s.length s (Nat.le_refl _) h2]
  have bare : ∀ c t, word false 0 (slash true (c :: t) ++ r) = .ok ⟨false, [Tok.txt (c :: t)]⟩ r := by
    intro c t
    have hp := parts_slash 0 r hr (c :: t) true
    obtain ⟨e, u, he, h1, h2, _⟩ := slash_head (c := c) (t := t)
    rw [he] at hp ⊢
    exact word_of h1 h2 hp
  unfold quote
  cases s with
  | nil => exact ⟨⟨_, _, rfl, by decide, fun r => rfl⟩, braced [] rfl rfl⟩
  | cons c t =>
    rw [if_neg (by simp)]
    obtain ⟨e, u, he, _, _, h3, h4⟩ := slash_head (c := c) (t := t)
    by_cases h1 : plainW (c :: t) = true
    · rw [if_pos h1]
      have hq := quote_plain h1
      refine ⟨⟨e, u, ?_, h3, h4⟩, ?_⟩
      · rw [← he, hq]
      · have := bare c t
        rwa [hq] at this
    · rw [if_neg h1]
      by_cases h2 : balanced (c :: t) = true
      · rw [if_pos h2]
        rw [balanced, Bool.and_eq_true] at h2
        exact ⟨⟨_, _, rfl, by decide, fun r => rfl⟩, braced _ h2.1 (by simpa using h2.2)⟩
      · rw [if_neg h2]
        exact ⟨⟨e, u, he, h3, h4⟩, bare c t⟩
theorem blanks_at : ∀ {c : UInt8} {t : Str}, ended false (c :: t) = false → blanks (c :: t) = c :: t
  | c, [], h => by
    have hw : white c = false := by
      cases hx : white c
      · rfl
      · exfalso
        unfold ended at h
        rw [Bool.or_eq_false_iff, Bool.or_eq_false_iff] at h
        have := h.1.2
        dsimp only at this
        rw [hx] at this
        cases this
    rw [blanks, if_neg (by simp [hw])]
  | c, d :: t, h => by
    unfold ended at h
    rw [Bool.or_eq_false_iff, Bool.or_eq_false_iff] at h
    have hw : white c = false := h.1.2
    have hj : ¬ (c == 92 && d == 10) = true := by
      intro hx
      rw [Bool.and_eq_true, beq_iff_eq, beq_iff_eq] at hx
      obtain ⟨rfl, rfl⟩ := hx
      exact absurd h.2 (by simp [joins])
    rw [blanks, if_neg hj, if_neg (by simp [hw])]
theorem blanks_sp : ∀ {t : Str}, blanks (32 :: t) = blanks t
  | [] => rfl
  | _ :: _ => rfl
theorem quotedL_two (s s' : Str) (l : List Str) : quotedL (s :: s' :: l) = quote s ++ 32 :: quotedL (s' :: l) := by
  rw [quotedL]
  simp
def asWord (s : Str) : Wd := ⟨false, [Tok.txt s]⟩
theorem quotedL_head (s : Str) (l : List Str) : ∃ e u, quotedL (s :: l) = e :: u ∧ e ≠ 35 ∧ ended false (e :: u) = false := by
  obtain ⟨⟨e, u, h1, h2, h3⟩, _⟩ := word_quote1 s [] rfl
  cases l with
  | nil =>
    refine ⟨e, u, h1, h2, ?_⟩
    have := h3 []
    simpa using this
  | cons s' l' =>
    exact ⟨e, u ++ 32 :: quotedL (s' :: l'), by rw [quotedL_two, h1]; rfl, h2, h3 _⟩
theorem parted_of_ended {w : Bool} {l : Str} (h : ended w l = false) : parted w l = false := by
  unfold ended at h
  rw [Bool.or_eq_false_iff, Bool.or_eq_false_iff] at h
  exact h.1.1
theorem command_quoted : ∀ (l : List Str) (s : Str), command false 0 (quotedL (s :: l)) = .ok ((s :: l).map asWord) []
  | [], s => by
    obtain ⟨e, u, h1, _, h3⟩ := quotedL_head s []
    have hw := (word_quote1 s [] rfl).2
    rw [List.append_nil] at hw
    rw [h1]
    refine cmd_one (parted_of_ended h3) h3 (x := asWord s) (r := []) (b := []) ?_ rfl (command_end rfl 0)
    rw [← h1]
    exact hw
  | s' :: l, s => by
    obtain ⟨e, u, h1, _, h3⟩ := quotedL_head s (s' :: l)
    obtain ⟨e', u', k1, _, k3⟩ := quotedL_head s' l
    have hw := (word_quote1 s (32 :: quotedL (s' :: l)) rfl).2
    have ih := command_quoted l s'
    rw [h1]
    refine cmd_one (parted_of_ended h3) h3 (x := asWord s) (r := 32 :: quotedL (s' :: l)) ?_ (b := quotedL (s' :: l)) ?_ ih
    · rw [← h1]
      exact hw
    · rw [blanks_sp, k1, blanks_at k3]
/-- P6.2: the command of quoted words is one command at the beginning whose words are just these -/
theorem quoted_law (s : Str) (l : List Str) : commands false 0 (quotedL (s :: l)) = .ok [⟨(quotedL (s :: l)).length, (s :: l).map asWord⟩] [] := by
  obtain ⟨e, u, h1, h2, h3⟩ := quotedL_head s l
  have hc := command_quoted l s
  rw [h1] at hc ⊢
  exact cmds_one (blanks_at h3) rfl (parted_of_ended h3) (by simpa using h2) hc (by rw [cmds_nil rfl]; rfl)
end Go.Proofs.YtkgpmkkodpjdfaaDoor.Pz
/-
  Contracts of the library, laid at this program by the kit's shelf tools.
-/
namespace Go.Proofs.YtkgpmkkodpjdfaaDoor.Pz
open Go.Shelf
def Tryd.lays144_ren : Go.Shelf.Ren := ⟨fun | 144 => 67 | 143 => 79 | 219 => 91 | 217 => 74 | 225 => 99 | 224 => 100 | 267 => 101 | 266 => 84 | 314 => 104 | n => n, fun | 9 => 9 | 4 => 4 | 3 => 3 | 5 => 5 | 46 => 117 | 146 => 120 | 51 => 119 | n => n, fun | 1 => 0 | n => n⟩
theorem Tryd.lays144 : Go.Proofs.Lays.n144 Tryd.prog Tryd.lays144_ren := {
  mixed := by kernel_rfl
  f143 := Tryd.func79.trans (congrArg some (by kernel_rfl))
  f144 := Tryd.func67.trans (congrArg some (by kernel_rfl))
  f217 := Tryd.func74.trans (congrArg some (by kernel_rfl))
  f219 := Tryd.func91.trans (congrArg some (by kernel_rfl))
  f224 := Tryd.func100.trans (congrArg some (by kernel_rfl))
  f225 := Tryd.func99.trans (congrArg some (by kernel_rfl))
  f266 := Tryd.func84.trans (congrArg some (by kernel_rfl))
  f267 := Tryd.func101.trans (congrArg some (by kernel_rfl))
  f314 := Tryd.func104.trans (congrArg some (by kernel_rfl))
  t3 := Tryd.underlying3
  a3 := Tryd.isAgg3
  z3 := Tryd.sizeOf3
  v3 := Tryd.zeroValue3
  t4 := Tryd.underlying4
  a4 := Tryd.isAgg4
  z4 := Tryd.sizeOf4
  v4 := Tryd.zeroValue4
  t5 := Tryd.underlying5
  a5 := Tryd.isAgg5
  z5 := Tryd.sizeOf5
  v5 := Tryd.zeroValue5
  t9 := Tryd.underlying9
  a9 := Tryd.isAgg9
  z9 := Tryd.sizeOf9
  v9 := Tryd.zeroValue9
  t46 := Tryd.underlying117
  a46 := Tryd.isAgg117
  z46 := Tryd.sizeOf117
  v46 := Tryd.zeroValue117
  t51 := Tryd.underlying119
  a51 := Tryd.isAgg119
  z51 := Tryd.sizeOf119
  v51 := Tryd.zeroValue119
  t146 := Tryd.underlying120
  a146 := Tryd.isAgg120
  z146 := Tryd.sizeOf120
  v146 := Tryd.zeroValue120
  g1 := by kernel_rfl }
open Go.RowKit Go.Lib in
theorem Tryd.strings_Contains (s sub : ByteArray) (m : Int) (w : World) (hs : s.size < 4294967281) (hm : w.cell? ⟨0, 0, none⟩ = some (.int .i64 m)) :
    Calls Tryd.prog 67 #[.string s, .string sub] w fun e w' => e = .returned (.bool (Lib.contains s.data.toList sub.data.toList)) ∧ w' = w := Any.strings_Contains Tryd.lays144 s sub m w hs hm
def Tryd.lays241_ren : Go.Shelf.Ren := ⟨fun | 241 => 68 | 277 => 80 | n => n, fun | 70 => 61 | 3 => 3 | 0 => 0 | 72 => 64 | 37 => 62 | 5 => 5 | n => n, fun | n => n⟩
theorem Tryd.lays241 : Go.Proofs.Lays.n241 Tryd.prog Tryd.lays241_ren := {
  mixed := by kernel_rfl
  f241 := Tryd.func68.trans (congrArg some (by kernel_rfl))
  f277 := Tryd.func80.trans (congrArg some (by kernel_rfl))
  t0 := Tryd.underlying0
  a0 := Tryd.isAgg0
  z0 := Tryd.sizeOf0
  v0 := Tryd.zeroValue0
  t3 := Tryd.underlying3
  a3 := Tryd.isAgg3
  z3 := Tryd.sizeOf3
  v3 := Tryd.zeroValue3
  t37 := Tryd.underlying62
  a37 := Tryd.isAgg62
  z37 := Tryd.sizeOf62
  v37 := Tryd.zeroValue62
  t70 := Tryd.underlying61
  a70 := Tryd.isAgg61
  z70 := Tryd.sizeOf61
  v70 := Tryd.zeroValue61
  t72 := Tryd.underlying64
  a72 := Tryd.isAgg64
  z72 := Tryd.sizeOf64
  v72 := Tryd.zeroValue64 }
theorem Tryd.Builder_Extra_241 : Builder.Extra Tryd.prog Tryd.lays241_ren := {
  sizeBuilder := by kernel_rfl
  liesBuilder := by kernel_rfl
  t5 := Tryd.underlying5
  a5 := Tryd.isAgg5
  z5 := Tryd.sizeOf5
  v5 := Tryd.zeroValue5
  infoByte := by kernel_rfl
  cellsByte := by kernel_rfl
  sizeByte := by kernel_rfl
  neB5 := by decide }
open Go.RowKit in
theorem Tryd.Builder_grow_fresh (B b n : Nat) (w : World) (hB : B ≤ b) (hbk : w.heap[b]? = some (.cells #[.pointer (some ⟨b, 0, none⟩), .slice none 0 0] 64 (0, 0))) (hBw : B ≤ w.heap.size) (hn : n ≤ 281474976710656) :
    Calls Tryd.prog 68 #[.pointer (some ⟨b, 0, none⟩), .int .i64 n] w fun e w' => e = .returned (.tuple #[]) ∧ (Lib.BuilderAt 64 5 B b (.pointer (some ⟨b, 0, none⟩)) [] w' ∧ Below B w w') := Any.Builder_grow_fresh Tryd.lays241 Tryd.Builder_Extra_241 B b n w hB hbk hBw hn
end Go.Proofs.YtkgpmkkodpjdfaaDoor.Pz
/-
  list.isSpecial, list.balanced: what they answer. Condition of balanced: the library's variable internal/bytealg.MaxLen holds some int.
-/
namespace Go.Proofs.YtkgpmkkodpjdfaaDoor.Pz
open Go.RowKit
/-- the library's variable holds some int -/
def ML (w : World) : Prop := ∃ m, w.cell? ⟨0, 0, none⟩ = some (.int .i64 m)
theorem ML.below {w w' : World} (h : ML w) (hb : Below w.heap.size w w') : ML w' := by
  obtain ⟨m, hm⟩ := h
  refine ⟨m, ?_⟩
  have hlt : 0 < w.heap.size := by
    unfold World.cell? at hm
    rcases Nat.lt_or_ge 0 w.heap.size with h | h
    · exact h
    · rw [Array.getElem?_eq_none h] at hm; cases hm
  rw [hb.cell hlt]
  exact hm
theorem has_idx : ∀ (l : List UInt8) (c : UInt8), l.contains c = decide (0 ≤ Lib.indexByte l c)
  | [], _ => rfl
  | b :: l, c => by
    have ih := has_idx l c
    have hg := Lib.indexByte_ge l c
    rw [List.contains_cons, ih, Lib.indexByte]
    by_cases h : b = c
    · subst h
      simp
    · have e1 : (c == b) = false := by simpa using fun h' => h h'.symm
      have e2 : ¬ (b == c) = true := by simpa using h
      rw [e1, Bool.false_or, if_neg e2]
      by_cases h2 : (Lib.indexByte l c == -1) = true
      · rw [if_pos h2]
        have h2 : Lib.indexByte l c = -1 := by simpa using h2
        rw [h2]
      · rw [if_neg h2]
        have h2 : Lib.indexByte l c ≠ -1 := by simpa using h2
        rw [decide_eq_decide]
        omega
theorem special_idx (c : UInt8) : [34, 92, 123, 125, 36, 91, 93, 59].contains c = decide (0 ≤ Lib.indexByte [34, 92, 123, 125, 36, 91, 93, 59] c) := has_idx _ _
set_option maxRecDepth 100000 in
theorem special_fn (c : UInt8) (w : World) : Calls Tryd.prog 48 #[.int .u8 (c.toNat : Nat)] w fun e w' => e = .returned (.bool (special c)) ∧ w' = w := by
  obtain ⟨I, hI⟩ : ∃ I, I = Lib.indexByte [34, 92, 123, 125, 36, 91, 93, 59] c := ⟨_, rfl⟩
  have hc : Calls Tryd.prog 58 #[.string ⟨#[34, 92, 123, 125, 36, 91, 93, 59]⟩, .int .u8 c.toNat] w fun e w' => e = .returned (.int .i64 I) ∧ w' = w := by
    have h := Tryd.strings_IndexByte ⟨#[34, 92, 123, 125, 36, 91, 93, 59]⟩ (c.toNat : Int) w
    have e1 : ((c.toNat : Int)).toNat.toUInt8 = c := by simp
    rw [e1] at h
    rw [hI]
    exact h
  obtain ⟨W, hW⟩ : ∃ W, W = white c := ⟨_, rfl⟩
  obtain ⟨S, hS⟩ : ∃ S, S = special c := ⟨_, rfl⟩
  have hwc := white_fn c w
  have hS2 : S = (W || decide (0 ≤ I)) := by rw [hS, special, special_idx, hW, hI]
  rw [← hW] at hwc
  rw [← hS]
  have HC := hid hc
  have HW := hid hwc
  have HS := hid hS2
  clear hc hwc hS hS2 hW hI
  cases W with
  | true =>
    go_enter Tryd.func48, Tryd.ntmps48
    go_wp2_with fail
    (with_reducible refine HW.out.mono ?_); rintro e w1 ⟨rfl, hw⟩; subst w1
    go_wp2
    go_ret
    exact ⟨by rw [HS.out]; rfl, rfl⟩
  | false =>
    go_enter Tryd.func48, Tryd.ntmps48
    go_wp2_with fail
    (with_reducible refine HW.out.mono ?_); rintro e w1 ⟨rfl, hw⟩; subst w1
    go_wp2_with fail
    (with_reducible refine HC.out.mono ?_); rintro e w1 ⟨rfl, hw⟩; subst w1
    go_wp2
    go_ret
    exact ⟨by rw [HS.out]; rfl, rfl⟩
theorem pre_bn (c : UInt8) (t : Str) : ([92, 10] : Str).isPrefixOf (c :: t) = (c == 92 && t.head? == some 10) := by
  cases t with
  | nil => simp [List.isPrefixOf]
  | cons d t =>
    simp only [List.isPrefixOf, List.head?_cons, Bool.and_true]
    by_cases h1 : c = 92
    · subst h1
      by_cases h2 : d = 10
      · subst h2; rfl
      · have e1 : ((10 : UInt8) == d) = false := by simpa using fun h => h2 h.symm
        have e2 : (some d == some (10 : UInt8)) = false := by simpa using h2
        rw [e1, e2]
    · have e1 : ((92 : UInt8) == c) = false := by simpa using fun h => h1 h.symm
      have e2 : (c == 92) = false := by simpa using h1
      rw [e1, e2]
      rfl
theorem contains_bn : ∀ (s : Str), Lib.contains s [92, 10] = hasBN s
  | [] => rfl
  | c :: t => by
    have ih := contains_bn t
    unfold Lib.contains at *
    rw [hasBN, ← ih, Lib.index]
    have hg := Lib.index_ge t [92, 10]
    have hp := pre_bn c t
    rw [hp]
    by_cases h : (c == 92 && t.head? == some 10) = true
    · rw [if_pos h, h]; rfl
    · rw [if_neg h]
      rw [Bool.not_eq_true] at h
      rw [h, Bool.false_or]
      by_cases h2 : (Lib.index t [92, 10] == -1) = true
      · rw [if_pos h2]
        have h2 : Lib.index t [92, 10] = -1 := by simpa using h2
        rw [h2]
      · rw [if_neg h2]
        have h2 : Lib.index t [92, 10] ≠ -1 := by simpa using h2
        rw [decide_eq_decide]
        omega
theorem contains_fn (s : Str) (hs : s.length ≤ 1000000) (w : World) (hm : ML w) :
    Calls Tryd.prog 67 #[.string ⟨s.toArray⟩, .string ⟨#[92, 10]⟩] w fun e w' => e = .returned (.bool (hasBN s)) ∧ w' = w := by
  obtain ⟨m, hm⟩ := hm
  have h := Tryd.strings_Contains ⟨s.toArray⟩ ⟨#[92, 10]⟩ m w (by rw [Lib.size_mk]; omega) hm
  rw [show (⟨s.toArray⟩ : ByteArray).data.toList = s by simp, show (⟨#[92, 10]⟩ : ByteArray).data.toList = [92, 10] from rfl, contains_bn] at h
  exact h
theorem bal_cons (d : Nat) (c : UInt8) (t : Str) : bal d (c :: t) =
    if c == 92 then (match t with | [] => false | _ :: t' => bal d t')
    else if c == 123 then bal (d + 1) t
    else if c == 125 then (match d with | 0 => false | d' + 1 => bal d' t)
    else bal d t := bal.eq_def ..
set_option maxRecDepth 100000 in
set_option maxHeartbeats 2000000 in
theorem balanced_fn (s : Str) (hs : s.length ≤ 1000000) (w : World) (hm : ML w) :
    Calls Tryd.prog 49 #[.string ⟨s.toArray⟩] w fun e w' => e = .returned (.bool (balanced s)) ∧ w' = w := by
  have hsz : (⟨s.toArray⟩ : ByteArray).size = s.length := Lib.size_mk _
  obtain ⟨H, hH⟩ : ∃ H, H = hasBN s := ⟨_, rfl⟩
  obtain ⟨B, hB⟩ : ∃ B, B = bal 0 s := ⟨_, rfl⟩
  obtain ⟨R, hR⟩ : ∃ R, R = balanced s := ⟨_, rfl⟩
  have hc := contains_fn s hs w hm
  have hR2 : R = (B && !H) := by rw [hR, hB, hH]; rfl
  rw [← hH] at hc
  rw [← hR]
  have HC := hid hc
  have HB := hid hB
  have HR := hid hR2
  clear hc hB hR2 hR hH hm
  go_enter Tryd.func49, Tryd.ntmps49
  go_wp2_with fail
  go_loopg [3, 4] s.length (fun k dv iv wr => ∃ (i d : Nat) (rest : Str), dv = .int .i64 (d : Nat) ∧ iv = .int .i64 (i : Nat) ∧ At s rest i ∧ B = bal d rest ∧ wr = w ∧ k = rest.length ∧ d ≤ i)
  case atStart => exact ⟨0, 0, s, rfl, rfl, At.start s, HB.out, rfl, rfl, Nat.le_refl _⟩
  case round =>
    obtain ⟨i, d, rest, rfl, rfl, ha, hb, hw, rfl, hd⟩ := hrel
    subst hw
    have HB2 := hid hb
    clear hb HB
    have hle : i ≤ s.length := by have := ha.len; omega
    cases rest with
    | nil =>
      have hge : s.length ≤ i := ha.nil_iff.1 rfl
      have HB3 : B = (d == 0) := by rw [HB2.out]; rfl
      have HB4 := hid HB3
      clear HB3 HB2
      by_cases h0 : d = 0
      · subst h0
        go_wp2_with fail
        (with_reducible refine HC.out.mono ?_); rintro e w1 ⟨rfl, hw⟩; subst w1
        go_wp2
        go_ret
        exact ⟨by rw [HR.out, HB4.out]; rfl, rfl⟩
      · have hne : ((d : Int) == 0) = false := by rw [beq_eq_false_iff_ne]; omega
        go_wp2
        go_ret
        refine ⟨?_, rfl⟩
        rw [HR.out, HB4.out, show (d == 0) = false by simpa using h0]
        rfl
    | cons c t =>
      have hlt := ha.lt
      have hx := ha.byte
      have hlen := ha.len
      simp only [List.length_cons] at hlen
      by_cases h92 : c = 92
      · subst h92
        cases t with
        | nil =>
          have he : ((i : Int) + 1 == (s.length : Int)) = true := by rw [beq_iff_eq]; simp at hlen; omega
          go_wp2
          go_ret
          exact ⟨by rw [HR.out, HB2.out, bal_cons]; rfl, rfl⟩
        | cons e t =>
          simp only [List.length_cons] at hlen
          have he : ((i : Int) + 1 == (s.length : Int)) = false := by rw [beq_eq_false_iff_ne]; omega
          go_wp2
          go_roundg t.length
          case measure => simp; omega
          case rel => exact ⟨i + 2, d, t, rfl, by rw [Value.int.injEq]; exact ⟨rfl, by omega⟩, ha.tail.tail, by rw [HB2.out, bal_cons]; rfl, rfl, rfl, by omega⟩
      · have n92 := byte_ne 92 h92 rfl
        by_cases h123 : c = 123
        · subst h123
          go_wp2
          go_roundg t.length
          case measure => simp
          case rel => exact ⟨i + 1, d + 1, t, by go_num, by go_num, ha.tail, by rw [HB2.out, bal_cons]; rfl, rfl, rfl, by omega⟩
        · have n123 := byte_ne 123 h123 rfl
          by_cases h125 : c = 125
          · subst h125
            cases d with
            | zero =>
              go_wp2
              go_ret
              exact ⟨by rw [HR.out, HB2.out, bal_cons]; rfl, rfl⟩
            | succ d =>
              have hnn : ¬ (((d + 1 : Nat) : Int) - 1 < 0) := by omega
              go_wp2
              go_roundg t.length
              case measure => simp
              case rel => exact ⟨i + 1, d, t, by rw [Value.int.injEq]; exact ⟨rfl, by omega⟩, by go_num, ha.tail, by rw [HB2.out, bal_cons]; rfl, rfl, rfl, by omega⟩
          · have n125 := byte_ne 125 h125 rfl
            go_wp2
            go_roundg t.length
            case measure => simp
            case rel => exact ⟨i + 1, d, t, rfl, by go_num, ha.tail, by rw [HB2.out, bal_cons, if_neg (by simpa using h92), if_neg (by simpa using h123), if_neg (by simpa using h125)], rfl, rfl, by omega⟩
end Go.Proofs.YtkgpmkkodpjdfaaDoor.Pz
/-
  list.Quote: what it answers. Condition: the library's variable internal/bytealg.MaxLen holds some int.
-/
namespace Go.Proofs.YtkgpmkkodpjdfaaDoor.Pz
open Go.RowKit
theorem slash_yes {c : UInt8} {b : Bool} (t : Str) (h : special c = true ∨ (b = true ∧ c = 35)) : slash b (c :: t) = 92 :: slash1 c :: slash false t := by
  rw [slash, if_pos]
  rcases h with h | ⟨h1, h2⟩
  · rw [h]; rfl
  · rw [h1, h2]; rfl
theorem slash_no {c : UInt8} {b : Bool} (t : Str) (h : special c = false) (h2 : b = true → c ≠ 35) : slash b (c :: t) = c :: slash false t := by
  rw [slash, if_neg]
  rw [h, Bool.false_or, Bool.and_eq_true, beq_iff_eq]
  exact fun ⟨h3, h4⟩ => h2 h3 h4
theorem slash1_same {c : UInt8} (h : 14 ≤ c.toNat) : slash1 c = c := by
  unfold slash1
  have hn : ∀ k : UInt8, k.toNat < 14 → (c == k) = false := by
    intro k hk
    rw [beq_eq_false_iff_ne]
    rintro rfl
    omega
  rw [if_neg (by rw [hn 9 (by decide)]; simp), if_neg (by rw [hn 10 (by decide)]; simp), if_neg (by rw [hn 11 (by decide)]; simp), if_neg (by rw [hn 12 (by decide)]; simp), if_neg (by rw [hn 13 (by decide)]; simp)]
theorem special_split {c : UInt8} (h : special c = true) : c = 9 ∨ c = 10 ∨ c = 11 ∨ c = 12 ∨ c = 13 ∨ 14 ≤ c.toNat := by
  rcases slashy (.inl h) with rfl | rfl | rfl | rfl | rfl | rfl | rfl | rfl | rfl | rfl | rfl | rfl | rfl | rfl | rfl <;> simp
theorem slash_len : ∀ (s : Str) (b : Bool), (slash b s).length ≤ 2 * s.length
  | [], _ => Nat.le_refl _
  | c :: t, b => by
    have := slash_len t false
    rw [slash]
    split
    · simp only [List.length_cons]; omega
    · simp only [List.length_cons]; omega
theorem quote_len (s : Str) : (quote s).length ≤ 2 * s.length + 2 := by
  unfold quote
  split
  · simp
  · split
    · omega
    · split
      · simp; omega
      · have := slash_len s true; omega
theorem cat3 (s : Str) : (⟨#[123]⟩ : ByteArray) ++ ⟨s.toArray⟩ ++ ⟨#[125]⟩ = ⟨(123 :: (s ++ [125])).toArray⟩ := by
  rw [ByteArray.ext_iff]
  simp [ByteArray.data_append]
set_option maxRecDepth 100000 in
set_option maxHeartbeats 20000000 in
theorem quote_plain_fn (c0 : UInt8) (t0 : Str) (hs : (c0 :: t0).length ≤ 1000000) (hp : plainW (c0 :: t0) = true) (w : World) (hm : ML w) :
    Calls Tryd.prog 27 #[.string ⟨(c0 :: t0).toArray⟩] w fun e w' => e = .returned (.string ⟨(c0 :: t0).toArray⟩) ∧ Below w.heap.size w w' := by
  have hsz : (⟨(c0 :: t0).toArray⟩ : ByteArray).size = (c0 :: t0).length := Lib.size_mk _
  have hx0 : ∀ h, (⟨(c0 :: t0).toArray⟩ : ByteArray)[0]'h = c0 := fun h => rfl
  have hemp : (c0 :: t0).isEmpty = false := rfl
  have hpos : 0 < (c0 :: t0).length := by simp
  have hb := balanced_fn (c0 :: t0) hs w hm
  have hp2 : plainW (c0 :: t0) = ((c0 != 35) && (c0 :: t0).all fun c => !special c) := rfl
  rw [hp] at hp2
  clear hp
  have hst : At (c0 :: t0) (c0 :: t0) 0 := At.start _
  generalize c0 :: t0 = s at *
  have HB := hid hb
  have HP := hid hp2
  clear hb hp2
  have h35 : (c0 != 35) = ((c0.toNat : Int) != 35) := by
    by_cases h : c0 = 35
    · subst h; rfl
    · rw [byte_ne' 35 h rfl]; simpa using h
  have HP2 := hid (show true = (((c0.toNat : Int) != 35) && s.all fun c => !special c) by rw [HP.out, h35])
  replace HP := HP2
  clear HP2 h35
  go_enter Tryd.func27, Tryd.ntmps27
  go_wp2_with fail
  go_loopg [3, 4] s.length (fun k bv iv wr => ∃ (i : Nat) (b : Bool) (rest : Str), bv = .bool b ∧ iv = .int .i64 (i : Nat) ∧ At s rest i ∧ true = (b && rest.all fun c => !special c) ∧ wr = w ∧ k = rest.length)
  case atStart => exact ⟨0, ((c0.toNat : Int) != 35), s, rfl, rfl, hst, HP.out, rfl, rfl⟩
  case round =>
    obtain ⟨i, b, rest, rfl, rfl, ha, hb, hw, rfl⟩ := hrel
    replace hw := hw.symm
    subst hw
    have HB2 := hid hb
    clear hb HP
    have hle : i ≤ s.length := by have := ha.len; omega
    cases rest with
    | nil =>
      have hge : s.length ≤ i := ha.nil_iff.1 rfl
      cases b with
      | true =>
        go_wp2
        go_ret
        exact ⟨rfl, Below.refl _ _⟩
      | false =>
        exact absurd HB2.out (by simp)
    | cons c t =>
      have hlt := ha.lt
      have hx := ha.byte
      have hlen := ha.len
      cases b with
      | false =>
        exact absurd HB2.out (by simp)
      | true =>
        have hsp := special_fn c w
        have hq := HB2.out
        rw [List.all_cons, Bool.true_and] at hq
        obtain ⟨S, hS⟩ : ∃ S, S = special c := ⟨_, rfl⟩
        rw [← hS] at hsp hq
        have HS := hid hsp
        have HQ := hid hq
        clear hS hsp hq HB2
        go_wp2_with fail
        (with_reducible refine HS.out.mono ?_); rintro e w1 ⟨rfl, hw⟩; subst w1
        go_wp2
        go_roundg t.length
        case measure => simp
        case rel => exact ⟨i + 1, !S, t, rfl, by go_num, ha.tail, HQ.out, rfl, rfl⟩
set_option maxRecDepth 100000 in
set_option maxHeartbeats 20000000 in
theorem quote_brace_fn (c0 : UInt8) (t0 : Str) (hs : (c0 :: t0).length ≤ 1000000) (hp : plainW (c0 :: t0) = false) (hbal : balanced (c0 :: t0) = true) (w : World) (hm : ML w) :
    Calls Tryd.prog 27 #[.string ⟨(c0 :: t0).toArray⟩] w fun e w' => e = .returned (.string ⟨(123 :: (c0 :: t0 ++ [125])).toArray⟩) ∧ Below w.heap.size w w' := by
  have hsz : (⟨(c0 :: t0).toArray⟩ : ByteArray).size = (c0 :: t0).length := Lib.size_mk _
  have hx0 : ∀ h, (⟨(c0 :: t0).toArray⟩ : ByteArray)[0]'h = c0 := fun h => rfl
  have hemp : (c0 :: t0).isEmpty = false := rfl
  have hpos : 0 < (c0 :: t0).length := by simp
  have hb := balanced_fn (c0 :: t0) hs w hm
  rw [hbal] at hb
  have hcat : (⟨#[123]⟩ : ByteArray) ++ ⟨(c0 :: t0).toArray⟩ ++ ⟨#[125]⟩ = ⟨(123 :: (c0 :: t0 ++ [125])).toArray⟩ := cat3 _
  have hp2 : plainW (c0 :: t0) = ((c0 != 35) && (c0 :: t0).all fun c => !special c) := rfl
  rw [hp] at hp2
  clear hp
  have hst : At (c0 :: t0) (c0 :: t0) 0 := At.start _
  generalize c0 :: t0 = s at *
  have HB := hid hb
  have HP := hid hp2
  have HJ := hid hcat
  clear hcat
  clear hb hp2
  have h35 : (c0 != 35) = ((c0.toNat : Int) != 35) := by
    by_cases h : c0 = 35
    · subst h; rfl
    · rw [byte_ne' 35 h rfl]; simpa using h
  have HP2 := hid (show false = (((c0.toNat : Int) != 35) && s.all fun c => !special c) by rw [HP.out, h35])
  replace HP := HP2
  clear HP2 h35
  go_enter Tryd.func27, Tryd.ntmps27
  go_wp2_with fail
  go_loopg [3, 4] s.length (fun k bv iv wr => ∃ (i : Nat) (b : Bool) (rest : Str), bv = .bool b ∧ iv = .int .i64 (i : Nat) ∧ At s rest i ∧ false = (b && rest.all fun c => !special c) ∧ wr = w ∧ k = rest.length)
  case atStart => exact ⟨0, ((c0.toNat : Int) != 35), s, rfl, rfl, hst, HP.out, rfl, rfl⟩
  case round =>
    obtain ⟨i, b, rest, rfl, rfl, ha, hb, hw, rfl⟩ := hrel
    replace hw := hw.symm
    subst hw
    have HB2 := hid hb
    clear hb HP
    have hle : i ≤ s.length := by have := ha.len; omega
    cases rest with
    | nil =>
      have hge : s.length ≤ i := ha.nil_iff.1 rfl
      cases b with
      | true =>
        exact absurd HB2.out (by simp)
      | false =>
        go_wp2_with fail
        (with_reducible refine HB.out.mono ?_); rintro e w1 ⟨rfl, hw⟩; subst w1
        go_wp2
        go_ret
        exact ⟨rfl, Below.refl _ _⟩
    | cons c t =>
      have hlt := ha.lt
      have hx := ha.byte
      have hlen := ha.len
      cases b with
      | false =>
        go_wp2_with fail
        (with_reducible refine HB.out.mono ?_); rintro e w1 ⟨rfl, hw⟩; subst w1
        go_wp2
        go_ret
        exact ⟨rfl, Below.refl _ _⟩
      | true =>
        have hsp := special_fn c w
        have hq := HB2.out
        rw [List.all_cons, Bool.true_and] at hq
        obtain ⟨S, hS⟩ : ∃ S, S = special c := ⟨_, rfl⟩
        rw [← hS] at hsp hq
        have HS := hid hsp
        have HQ := hid hq
        clear hS hsp hq HB2
        go_wp2_with fail
        (with_reducible refine HS.out.mono ?_); rintro e w1 ⟨rfl, hw⟩; subst w1
        go_wp2
        go_roundg t.length
        case measure => simp
        case rel => exact ⟨i + 1, !S, t, rfl, by go_num, ha.tail, HQ.out, rfl, rfl⟩
set_option maxRecDepth 100000 in
set_option maxHeartbeats 20000000 in
theorem quote_slash_fn (c0 : UInt8) (t0 : Str) (hs : (c0 :: t0).length ≤ 1000000) (hp : plainW (c0 :: t0) = false) (hbal : balanced (c0 :: t0) = false) (w : World) (hm : ML w) :
    Calls Tryd.prog 27 #[.string ⟨(c0 :: t0).toArray⟩] w fun e w' => e = .returned (.string ⟨(slash true (c0 :: t0)).toArray⟩) ∧ Below w.heap.size w w' := by
  have hsz : (⟨(c0 :: t0).toArray⟩ : ByteArray).size = (c0 :: t0).length := Lib.size_mk _
  have hx0 : ∀ h, (⟨(c0 :: t0).toArray⟩ : ByteArray)[0]'h = c0 := fun h => rfl
  have hemp : (c0 :: t0).isEmpty = false := rfl
  have hpos : 0 < (c0 :: t0).length := by simp
  have hb := balanced_fn (c0 :: t0) hs w hm
  rw [hbal] at hb
  obtain ⟨J, hcat⟩ : ∃ J, J = slash true (c0 :: t0) := ⟨_, rfl⟩
  rw [← hcat]
  have hp2 : plainW (c0 :: t0) = ((c0 != 35) && (c0 :: t0).all fun c => !special c) := rfl
  rw [hp] at hp2
  clear hp
  have hst : At (c0 :: t0) (c0 :: t0) 0 := At.start _
  generalize c0 :: t0 = s at *
  have HB := hid hb
  have HP := hid hp2
  have HJ := hid hcat
  clear hcat
  clear hb hp2
  have h35 : (c0 != 35) = ((c0.toNat : Int) != 35) := by
    by_cases h : c0 = 35
    · subst h; rfl
    · rw [byte_ne' 35 h rfl]; simpa using h
  have HP2 := hid (show false = (((c0.toNat : Int) != 35) && s.all fun c => !special c) by rw [HP.out, h35])
  replace HP := HP2
  clear HP2 h35
  go_enter Tryd.func27, Tryd.ntmps27
  go_wp2_with fail
  go_loopg [3, 4] s.length (fun k bv iv wr => ∃ (i : Nat) (b : Bool) (rest : Str), bv = .bool b ∧ iv = .int .i64 (i : Nat) ∧ At s rest i ∧ false = (b && rest.all fun c => !special c) ∧ wr = w ∧ k = rest.length)
  case atStart => exact ⟨0, ((c0.toNat : Int) != 35), s, rfl, rfl, hst, HP.out, rfl, rfl⟩
  case round =>
    obtain ⟨i, b, rest, rfl, rfl, ha, hb, hw, rfl⟩ := hrel
    replace hw := hw.symm
    subst hw
    have HB2 := hid hb
    clear hb HP
    have hle : i ≤ s.length := by have := ha.len; omega
    cases rest with
    | nil =>
      have hge : s.length ≤ i := ha.nil_iff.1 rfl
      cases b with
      | true =>
        exact absurd HB2.out (by simp)
      | false =>
        go_wp2_with fail
        (with_reducible refine HB.out.mono ?_); rintro e w1 ⟨rfl, hw⟩; subst w1
        have hB0 := Bld.new w
        have hW0 : Below w.heap.size w (w.alloc (.cells #[.pointer none, .slice none 0 0] 64)) := (Below.refl _ _).alloc (Nat.le_refl _) _
        clear ha hx0
        go_wp2_with fail
        generalize w.alloc (.cells #[.pointer none, .slice none 0 0] 64) = w0 at *
        go_loopg [38] s.length (fun k jv wr => ∃ (j : Nat) (done rest : Str), jv = .int .i64 (j : Nat) ∧ At s rest j ∧ Bld wr w.heap.size done ∧ J = done ++ slash (j == 0) rest ∧ Below w.heap.size w wr ∧ k = rest.length ∧ done.length + 2 * rest.length ≤ 2 * s.length)
        case atStart => exact ⟨0, [], s, rfl, hst, hB0, by rw [HJ.out]; rfl, hW0, rfl, by simp⟩
        case round =>
          obtain ⟨j, done, rest, rfl, ha, hB, hj, hbl, rfl, hl⟩ := hrel
          have HD := hid hj
          clear hj hB0 hW0 w0
          have hle : j ≤ s.length := by have := ha.len; omega
          have hbs := hB.lt
          have wb92 : ∀ (u : World) (l : Str), Bld u w.heap.size l → l.length ≤ 1000000000 → Calls Tryd.prog 29 #[.pointer (some ⟨w.heap.size, 0, none⟩), .int .u8 92] u fun e w' => e = .returned .nilIface ∧ Bld w' w.heap.size (l ++ [92]) ∧ Kept w.heap.size u w' := fun u l h hl => wbyte_fn h 92 hl
          cases rest with
          | nil =>
            have hge : s.length ≤ j := ha.nil_iff.1 rfl
            have hc := hid (str_fn hB)
            go_wp2_with fail
            (with_reducible refine hc.out.mono ?_); rintro e w1 ⟨rfl, hB1, hk1⟩
            go_wp2
            go_ret
            exact ⟨by rw [HD.out]; simp [slash], hbl.trans hk1.1⟩
          | cons c t =>
            have hlt := ha.lt
            have hx := ha.byte
            have hlen := ha.len
            simp only [List.length_cons] at hl hlen
            have hsp := special_fn c wr
            obtain ⟨S, hS⟩ : ∃ S, special c = S := ⟨_, rfl⟩
            rw [hS] at hsp
            have HQ := hid hS
            have HS := hid hsp
            clear hS hsp
            cases S with
            | true =>
              rcases special_split HQ.out with rfl | rfl | rfl | rfl | rfl | h14
              · replace HS := hid (show Calls Tryd.prog 48 #[.int .u8 9] wr _ from HS.out)
                have hk : ∀ h, (⟨#[116, 110, 118, 102, 114]⟩ : ByteArray)[0]'h = 116 := fun _ => rfl
                go_wp2_with fail
                (with_reducible refine HS.out.mono ?_); rintro e w1 ⟨rfl, hw⟩; subst w1
                have hc1 := wb92 wr done hB (by omega)
                have HC1 := hid hc1
                clear hc1
                go_wp2_with fail
                (with_reducible refine HC1.out.mono ?_); rintro e w1 ⟨rfl, hB1, hk1⟩
                have hc2 : Calls Tryd.prog 29 #[.pointer (some ⟨w.heap.size, 0, none⟩), .int .u8 116] w1 fun e w' => e = .returned .nilIface ∧ Bld w' w.heap.size (done ++ [92] ++ [116]) ∧ Kept w.heap.size w1 w' := wbyte_fn hB1 116 (by simp; omega)
                have HC2 := hid hc2
                clear hc2
                go_wp2_with fail
                (with_reducible refine HC2.out.mono ?_); rintro e w2 ⟨rfl, hB2, hk2⟩
                go_wp2
                go_roundg t.length
                case measure => simp
                case rel => exact ⟨j + 1, done ++ [92] ++ [116], t, by go_num, ha.tail, hB2, by rw [HD.out, slash_yes t (.inl HQ.out)]; simp [slash1], hbl.trans (hk1.trans hk2).1, rfl, by simp; omega⟩
              · replace HS := hid (show Calls Tryd.prog 48 #[.int .u8 10] wr _ from HS.out)
                have hk : ∀ h, (⟨#[116, 110, 118, 102, 114]⟩ : ByteArray)[1]'h = 110 := fun _ => rfl
                go_wp2_with fail
                (with_reducible refine HS.out.mono ?_); rintro e w1 ⟨rfl, hw⟩; subst w1
                have hc1 := wb92 wr done hB (by omega)
                have HC1 := hid hc1
                clear hc1
                go_wp2_with fail
                (with_reducible refine HC1.out.mono ?_); rintro e w1 ⟨rfl, hB1, hk1⟩
                have hc2 : Calls Tryd.prog 29 #[.pointer (some ⟨w.heap.size, 0, none⟩), .int .u8 110] w1 fun e w' => e = .returned .nilIface ∧ Bld w' w.heap.size (done ++ [92] ++ [110]) ∧ Kept w.heap.size w1 w' := wbyte_fn hB1 110 (by simp; omega)
                have HC2 := hid hc2
                clear hc2
                go_wp2_with fail
                (with_reducible refine HC2.out.mono ?_); rintro e w2 ⟨rfl, hB2, hk2⟩
                go_wp2
                go_roundg t.length
                case measure => simp
                case rel => exact ⟨j + 1, done ++ [92] ++ [110], t, by go_num, ha.tail, hB2, by rw [HD.out, slash_yes t (.inl HQ.out)]; simp [slash1], hbl.trans (hk1.trans hk2).1, rfl, by simp; omega⟩
              · replace HS := hid (show Calls Tryd.prog 48 #[.int .u8 11] wr _ from HS.out)
                have hk : ∀ h, (⟨#[116, 110, 118, 102, 114]⟩ : ByteArray)[2]'h = 118 := fun _ => rfl
                go_wp2_with fail
                (with_reducible refine HS.out.mono ?_); rintro e w1 ⟨rfl, hw⟩; subst w1
                have hc1 := wb92 wr done hB (by omega)
                have HC1 := hid hc1
                clear hc1
                go_wp2_with fail
                (with_reducible refine HC1.out.mono ?_); rintro e w1 ⟨rfl, hB1, hk1⟩
                have hc2 : Calls Tryd.prog 29 #[.pointer (some ⟨w.heap.size, 0, none⟩), .int .u8 118] w1 fun e w' => e = .returned .nilIface ∧ Bld w' w.heap.size (done ++ [92] ++ [118]) ∧ Kept w.heap.size w1 w' := wbyte_fn hB1 118 (by simp; omega)
                have HC2 := hid hc2
                clear hc2
                go_wp2_with fail
                (with_reducible refine HC2.out.mono ?_); rintro e w2 ⟨rfl, hB2, hk2⟩
                go_wp2
                go_roundg t.length
                case measure => simp
                case rel => exact ⟨j + 1, done ++ [92] ++ [118], t, by go_num, ha.tail, hB2, by rw [HD.out, slash_yes t (.inl HQ.out)]; simp [slash1], hbl.trans (hk1.trans hk2).1, rfl, by simp; omega⟩
              · replace HS := hid (show Calls Tryd.prog 48 #[.int .u8 12] wr _ from HS.out)
                have hk : ∀ h, (⟨#[116, 110, 118, 102, 114]⟩ : ByteArray)[3]'h = 102 := fun _ => rfl
                go_wp2_with fail
                (with_reducible refine HS.out.mono ?_); rintro e w1 ⟨rfl, hw⟩; subst w1
                have hc1 := wb92 wr done hB (by omega)
                have HC1 := hid hc1
                clear hc1
                go_wp2_with fail
                (with_reducible refine HC1.out.mono ?_); rintro e w1 ⟨rfl, hB1, hk1⟩
                have hc2 : Calls Tryd.prog 29 #[.pointer (some ⟨w.heap.size, 0, none⟩), .int .u8 102] w1 fun e w' => e = .returned .nilIface ∧ Bld w' w.heap.size (done ++ [92] ++ [102]) ∧ Kept w.heap.size w1 w' := wbyte_fn hB1 102 (by simp; omega)
                have HC2 := hid hc2
                clear hc2
                go_wp2_with fail
                (with_reducible refine HC2.out.mono ?_); rintro e w2 ⟨rfl, hB2, hk2⟩
                go_wp2
                go_roundg t.length
                case measure => simp
                case rel => exact ⟨j + 1, done ++ [92] ++ [102], t, by go_num, ha.tail, hB2, by rw [HD.out, slash_yes t (.inl HQ.out)]; simp [slash1], hbl.trans (hk1.trans hk2).1, rfl, by simp; omega⟩
              · replace HS := hid (show Calls Tryd.prog 48 #[.int .u8 13] wr _ from HS.out)
                have hk : ∀ h, (⟨#[116, 110, 118, 102, 114]⟩ : ByteArray)[4]'h = 114 := fun _ => rfl
                go_wp2_with fail
                (with_reducible refine HS.out.mono ?_); rintro e w1 ⟨rfl, hw⟩; subst w1
                have hc1 := wb92 wr done hB (by omega)
                have HC1 := hid hc1
                clear hc1
                go_wp2_with fail
                (with_reducible refine HC1.out.mono ?_); rintro e w1 ⟨rfl, hB1, hk1⟩
                have hc2 : Calls Tryd.prog 29 #[.pointer (some ⟨w.heap.size, 0, none⟩), .int .u8 114] w1 fun e w' => e = .returned .nilIface ∧ Bld w' w.heap.size (done ++ [92] ++ [114]) ∧ Kept w.heap.size w1 w' := wbyte_fn hB1 114 (by simp; omega)
                have HC2 := hid hc2
                clear hc2
                go_wp2_with fail
                (with_reducible refine HC2.out.mono ?_); rintro e w2 ⟨rfl, hB2, hk2⟩
                go_wp2
                go_roundg t.length
                case measure => simp
                case rel => exact ⟨j + 1, done ++ [92] ++ [114], t, by go_num, ha.tail, hB2, by rw [HD.out, slash_yes t (.inl HQ.out)]; simp [slash1], hbl.trans (hk1.trans hk2).1, rfl, by simp; omega⟩
              · have hr : slash1 c = c := slash1_same h14
                have h9 : (9 : Int) ≤ (c.toNat : Int) := by omega
                have h13 : ¬ ((c.toNat : Int) ≤ 13) := by omega
                go_wp2_with fail
                (with_reducible refine HS.out.mono ?_); rintro e w1 ⟨rfl, hw⟩; subst w1
                have hc1 := wb92 wr done hB (by omega)
                have HC1 := hid hc1
                clear hc1
                go_wp2_with fail
                (with_reducible refine HC1.out.mono ?_); rintro e w1 ⟨rfl, hB1, hk1⟩
                have hc2 : Calls Tryd.prog 29 #[.pointer (some ⟨w.heap.size, 0, none⟩), .int .u8 c.toNat] w1 fun e w' => e = .returned .nilIface ∧ Bld w' w.heap.size (done ++ [92] ++ [c]) ∧ Kept w.heap.size w1 w' := wbyte_fn hB1 c (by simp; omega)
                have HC2 := hid hc2
                clear hc2
                go_wp2_with fail
                (with_reducible refine HC2.out.mono ?_); rintro e w2 ⟨rfl, hB2, hk2⟩
                go_wp2
                go_roundg t.length
                case measure => simp
                case rel => exact ⟨j + 1, done ++ [92] ++ [c], t, by go_num, ha.tail, hB2, by rw [HD.out, slash_yes t (.inl HQ.out)]; simp [hr], hbl.trans (hk1.trans hk2).1, rfl, by simp; omega⟩
            | false =>
              by_cases h0 : j = 0
              · subst h0
                by_cases h35 : c = 35
                · subst h35
                  replace HS := hid (show Calls Tryd.prog 48 #[.int .u8 35] wr _ from HS.out)
                  go_wp2_with fail
                  (with_reducible refine HS.out.mono ?_); rintro e w1 ⟨rfl, hw⟩; subst w1
                  have hc1 := wb92 wr done hB (by omega)
                  have HC1 := hid hc1
                  clear hc1
                  go_wp2_with fail
                  (with_reducible refine HC1.out.mono ?_); rintro e w1 ⟨rfl, hB1, hk1⟩
                  have hc2 : Calls Tryd.prog 29 #[.pointer (some ⟨w.heap.size, 0, none⟩), .int .u8 35] w1 fun e w' => e = .returned .nilIface ∧ Bld w' w.heap.size (done ++ [92] ++ [35]) ∧ Kept w.heap.size w1 w' := wbyte_fn hB1 35 (by simp; omega)
                  have HC2 := hid hc2
                  clear hc2
                  go_wp2_with fail
                  (with_reducible refine HC2.out.mono ?_); rintro e w2 ⟨rfl, hB2, hk2⟩
                  go_wp2
                  go_roundg t.length
                  case measure => simp
                  case rel => exact ⟨0 + 1, done ++ [92] ++ [35], t, by go_num, ha.tail, hB2, by rw [HD.out, slash_yes (b := ((0 : Nat) == 0)) t (.inr ⟨rfl, rfl⟩)]; simp [slash1], hbl.trans (hk1.trans hk2).1, rfl, by simp; omega⟩
                · have n35 := byte_ne 35 h35 rfl
                  go_wp2_with fail
                  (with_reducible refine HS.out.mono ?_); rintro e w1 ⟨rfl, hw⟩; subst w1
                  have hc2 := hid (wbyte_fn hB c (by omega))
                  go_wp2_with fail
                  (with_reducible refine hc2.out.mono ?_); rintro e w2 ⟨rfl, hB2, hk2⟩
                  go_wp2
                  go_roundg t.length
                  case measure => simp
                  case rel => exact ⟨0 + 1, done ++ [c], t, by go_num, ha.tail, hB2, by rw [HD.out, slash_no t HQ.out (fun _ => h35)]; simp, hbl.trans hk2.1, rfl, by simp; omega⟩
              · have hj0 : ((j : Int) == 0) = false := by rw [beq_eq_false_iff_ne]; omega
                go_wp2_with fail
                (with_reducible refine HS.out.mono ?_); rintro e w1 ⟨rfl, hw⟩; subst w1
                have hc2 := hid (wbyte_fn hB c (by omega))
                go_wp2_with fail
                (with_reducible refine hc2.out.mono ?_); rintro e w2 ⟨rfl, hB2, hk2⟩
                go_wp2
                go_roundg t.length
                case measure => simp
                case rel => exact ⟨j + 1, done ++ [c], t, by go_num, ha.tail, hB2, by rw [HD.out, slash_no t HQ.out (fun h => absurd (by simpa using h) h0)]; simp, hbl.trans hk2.1, rfl, by simp; omega⟩
    | cons c t =>
      have hlt := ha.lt
      have hx := ha.byte
      have hlen := ha.len
      cases b with
      | false =>
        go_wp2_with fail
        (with_reducible refine HB.out.mono ?_); rintro e w1 ⟨rfl, hw⟩; subst w1
        have hB0 := Bld.new w
        have hW0 : Below w.heap.size w (w.alloc (.cells #[.pointer none, .slice none 0 0] 64)) := (Below.refl _ _).alloc (Nat.le_refl _) _
        clear ha hx0
        go_wp2_with fail
        generalize w.alloc (.cells #[.pointer none, .slice none 0 0] 64) = w0 at *
        go_loopg [38] s.length (fun k jv wr => ∃ (j : Nat) (done rest : Str), jv = .int .i64 (j : Nat) ∧ At s rest j ∧ Bld wr w.heap.size done ∧ J = done ++ slash (j == 0) rest ∧ Below w.heap.size w wr ∧ k = rest.length ∧ done.length + 2 * rest.length ≤ 2 * s.length)
        case atStart => exact ⟨0, [], s, rfl, hst, hB0, by rw [HJ.out]; rfl, hW0, rfl, by simp⟩
        case round =>
          obtain ⟨j, done, rest, rfl, ha, hB, hj, hbl, rfl, hl⟩ := hrel
          have HD := hid hj
          clear hj hB0 hW0 w0
          have hle : j ≤ s.length := by have := ha.len; omega
          have hbs := hB.lt
          have wb92 : ∀ (u : World) (l : Str), Bld u w.heap.size l → l.length ≤ 1000000000 → Calls Tryd.prog 29 #[.pointer (some ⟨w.heap.size, 0, none⟩), .int .u8 92] u fun e w' => e = .returned .nilIface ∧ Bld w' w.heap.size (l ++ [92]) ∧ Kept w.heap.size u w' := fun u l h hl => wbyte_fn h 92 hl
          cases rest with
          | nil =>
            have hge : s.length ≤ j := ha.nil_iff.1 rfl
            have hc := hid (str_fn hB)
            go_wp2_with fail
            (with_reducible refine hc.out.mono ?_); rintro e w1 ⟨rfl, hB1, hk1⟩
            go_wp2
            go_ret
            exact ⟨by rw [HD.out]; simp [slash], hbl.trans hk1.1⟩
          | cons c t =>
            have hlt := ha.lt
            have hx := ha.byte
            have hlen := ha.len
            simp only [List.length_cons] at hl hlen
            have hsp := special_fn c wr
            obtain ⟨S, hS⟩ : ∃ S, special c = S := ⟨_, rfl⟩
            rw [hS] at hsp
            have HQ := hid hS
            have HS := hid hsp
            clear hS hsp
            cases S with
            | true =>
              rcases special_split HQ.out with rfl | rfl | rfl | rfl | rfl | h14
              · replace HS := hid (show Calls Tryd.prog 48 #[.int .u8 9] wr _ from HS.out)
                have hk : ∀ h, (⟨#[116, 110, 118, 102, 114]⟩ : ByteArray)[0]'h = 116 := fun _ => rfl
                go_wp2_with fail
                (with_reducible refine HS.out.mono ?_); rintro e w1 ⟨rfl, hw⟩; subst w1
                have hc1 := wb92 wr done hB (by omega)
                have HC1 := hid hc1
                clear hc1
                go_wp2_with fail
                (with_reducible refine HC1.out.mono ?_); rintro e w1 ⟨rfl, hB1, hk1⟩
                have hc2 : Calls Tryd.prog 29 #[.pointer (some ⟨w.heap.size, 0, none⟩), .int .u8 116] w1 fun e w' => e = .returned .nilIface ∧ Bld w' w.heap.size (done ++ [92] ++ [116]) ∧ Kept w.heap.size w1 w' := wbyte_fn hB1 116 (by simp; omega)
                have HC2 := hid hc2
                clear hc2
                go_wp2_with fail
                (with_reducible refine HC2.out.mono ?_); rintro e w2 ⟨rfl, hB2, hk2⟩
                go_wp2
                go_roundg t.length
                case measure => simp
                case rel => exact ⟨j + 1, done ++ [92] ++ [116], t, by go_num, ha.tail, hB2, by rw [HD.out, slash_yes t (.inl HQ.out)]; simp [slash1], hbl.trans (hk1.trans hk2).1, rfl, by simp; omega⟩
              · replace HS := hid (show Calls Tryd.prog 48 #[.int .u8 10] wr _ from HS.out)
                have hk : ∀ h, (⟨#[116, 110, 118, 102, 114]⟩ : ByteArray)[1]'h = 110 := fun _ => rfl
                go_wp2_with fail
                (with_reducible refine HS.out.mono ?_); rintro e w1 ⟨rfl, hw⟩; subst w1
                have hc1 := wb92 wr done hB (by omega)
                have HC1 := hid hc1
                clear hc1
                go_wp2_with fail
                (with_reducible refine HC1.out.mono ?_); rintro e w1 ⟨rfl, hB1, hk1⟩
                have hc2 : Calls Tryd.prog 29 #[.pointer (some ⟨w.heap.size, 0, none⟩), .int .u8 110] w1 fun e w' => e = .returned .nilIface ∧ Bld w' w.heap.size (done ++ [92] ++ [110]) ∧ Kept w.heap.size w1 w' := wbyte_fn hB1 110 (by simp; omega)
                have HC2 := hid hc2
                clear hc2
                go_wp2_with fail
                (with_reducible refine HC2.out.mono ?_); rintro e w2 ⟨rfl, hB2, hk2⟩
                go_wp2
                go_roundg t.length
                case measure => simp
                case rel => exact ⟨j + 1, done ++ [92] ++ [110], t, by go_num, ha.tail, hB2, by rw [HD.out, slash_yes t (.inl HQ.out)]; simp [slash1], hbl.trans (hk1.trans hk2).1, rfl, by simp; omega⟩
              · replace HS := hid (show Calls Tryd.prog 48 #[.int .u8 11] wr _ from HS.out)
                have hk : ∀ h, (⟨#[116, 110, 118, 102, 114]⟩ : ByteArray)[2]'h = 118 := fun _ => rfl
                go_wp2_with fail
                (with_reducible refine HS.out.mono ?_); rintro e w1 ⟨rfl, hw⟩; subst w1
                have hc1 := wb92 wr done hB (by omega)
                have HC1 := hid hc1
                clear hc1
                go_wp2_with fail
                (with_reducible refine HC1.out.mono ?_); rintro e w1 ⟨rfl, hB1, hk1⟩
                have hc2 : Calls Tryd.prog 29 #[.pointer (some ⟨w.heap.size, 0, none⟩), .int .u8 118] w1 fun e w' => e = .returned .nilIface ∧ Bld w' w.heap.size (done ++ [92] ++ [118]) ∧ Kept w.heap.size w1 w' := wbyte_fn hB1 118 (by simp; omega)
                have HC2 := hid hc2
                clear hc2
                go_wp2_with fail
                (with_reducible refine HC2.out.mono ?_); rintro e w2 ⟨rfl, hB2, hk2⟩
                go_wp2
                go_roundg t.length
                case measure => simp
                case rel => exact ⟨j + 1, done ++ [92] ++ [118], t, by go_num, ha.tail, hB2, by rw [HD.out, slash_yes t (.inl HQ.out)]; simp [slash1], hbl.trans (hk1.trans hk2).1, rfl, by simp; omega⟩
              · replace HS := hid (show Calls Tryd.prog 48 #[.int .u8 12] wr _ from HS.out)
                have hk : ∀ h, (⟨#[116, 110, 118, 102, 114]⟩ : ByteArray)[3]'h = 102 := fun _ => rfl
                go_wp2_with fail
                (with_reducible refine HS.out.mono ?_); rintro e w1 ⟨rfl, hw⟩; subst w1
                have hc1 := wb92 wr done hB (by omega)
                have HC1 := hid hc1
                clear hc1
                go_wp2_with fail
                (with_reducible refine HC1.out.mono ?_); rintro e w1 ⟨rfl, hB1, hk1⟩
                have hc2 : Calls Tryd.prog 29 #[.pointer (some ⟨w.heap.size, 0, none⟩), .int .u8 102] w1 fun e w' => e = .returned .nilIface ∧ Bld w' w.heap.size (done ++ [92] ++ [102]) ∧ Kept w.heap.size w1 w' := wbyte_fn hB1 102 (by simp; omega)
                have HC2 := hid hc2
                clear hc2
                go_wp2_with fail
                (with_reducible refine HC2.out.mono ?_); rintro e w2 ⟨rfl, hB2, hk2⟩
                go_wp2
                go_roundg t.length
                case measure => simp
                case rel => exact ⟨j + 1, done ++ [92] ++ [102], t, by go_num, ha.tail, hB2, by rw [HD.out, slash_yes t (.inl HQ.out)]; simp [slash1], hbl.trans (hk1.trans hk2).1, rfl, by simp; omega⟩
              · replace HS := hid (show Calls Tryd.prog 48 #[.int .u8 13] wr _ from HS.out)
                have hk : ∀ h, (⟨#[116, 110, 118, 102, 114]⟩ : ByteArray)[4]'h = 114 := fun _ => rfl
                go_wp2_with fail
                (with_reducible refine HS.out.mono ?_); rintro e w1 ⟨rfl, hw⟩; subst w1
                have hc1 := wb92 wr done hB (by omega)
                have HC1 := hid hc1
                clear hc1
                go_wp2_with fail
                (with_reducible refine HC1.out.mono ?_); rintro e w1 ⟨rfl, hB1, hk1⟩
                have hc2 : Calls Tryd.prog 29 #[.pointer (some ⟨w.heap.size, 0, none⟩), .int .u8 114] w1 fun e w' => e = .returned .nilIface ∧ Bld w' w.heap.size (done ++ [92] ++ [114]) ∧ Kept w.heap.size w1 w' := wbyte_fn hB1 114 (by simp; omega)
                have HC2 := hid hc2
                clear hc2
                go_wp2_with fail
                (with_reducible refine HC2.out.mono ?_); rintro e w2 ⟨rfl, hB2, hk2⟩
                go_wp2
                go_roundg t.length
                case measure => simp
                case rel => exact ⟨j + 1, done ++ [92] ++ [114], t, by go_num, ha.tail, hB2, by rw [HD.out, slash_yes t (.inl HQ.out)]; simp [slash1], hbl.trans (hk1.trans hk2).1, rfl, by simp; omega⟩
              · have hr : slash1 c = c := slash1_same h14
                have h9 : (9 : Int) ≤ (c.toNat : Int) := by omega
                have h13 : ¬ ((c.toNat : Int) ≤ 13) := by omega
                go_wp2_with fail
                (with_reducible refine HS.out.mono ?_); rintro e w1 ⟨rfl, hw⟩; subst w1
                have hc1 := wb92 wr done hB (by omega)
                have HC1 := hid hc1
                clear hc1
                go_wp2_with fail
                (with_reducible refine HC1.out.mono ?_); rintro e w1 ⟨rfl, hB1, hk1⟩
                have hc2 : Calls Tryd.prog 29 #[.pointer (some ⟨w.heap.size, 0, none⟩), .int .u8 c.toNat] w1 fun e w' => e = .returned .nilIface ∧ Bld w' w.heap.size (done ++ [92] ++ [c]) ∧ Kept w.heap.size w1 w' := wbyte_fn hB1 c (by simp; omega)
                have HC2 := hid hc2
                clear hc2
                go_wp2_with fail
                (with_reducible refine HC2.out.mono ?_); rintro e w2 ⟨rfl, hB2, hk2⟩
                go_wp2
                go_roundg t.length
                case measure => simp
                case rel => exact ⟨j + 1, done ++ [92] ++ [c], t, by go_num, ha.tail, hB2, by rw [HD.out, slash_yes t (.inl HQ.out)]; simp [hr], hbl.trans (hk1.trans hk2).1, rfl, by simp; omega⟩
            | false =>
              by_cases h0 : j = 0
              · subst h0
                by_cases h35 : c = 35
                · subst h35
                  replace HS := hid (show Calls Tryd.prog 48 #[.int .u8 35] wr _ from HS.out)
                  go_wp2_with fail
                  (with_reducible refine HS.out.mono ?_); rintro e w1 ⟨rfl, hw⟩; subst w1
                  have hc1 := wb92 wr done hB (by omega)
                  have HC1 := hid hc1
                  clear hc1
                  go_wp2_with fail
                  (with_reducible refine HC1.out.mono ?_); rintro e w1 ⟨rfl, hB1, hk1⟩
                  have hc2 : Calls Tryd.prog 29 #[.pointer (some ⟨w.heap.size, 0, none⟩), .int .u8 35] w1 fun e w' => e = .returned .nilIface ∧ Bld w' w.heap.size (done ++ [92] ++ [35]) ∧ Kept w.heap.size w1 w' := wbyte_fn hB1 35 (by simp; omega)
                  have HC2 := hid hc2
                  clear hc2
                  go_wp2_with fail
                  (with_reducible refine HC2.out.mono ?_); rintro e w2 ⟨rfl, hB2, hk2⟩
                  go_wp2
                  go_roundg t.length
                  case measure => simp
                  case rel => exact ⟨0 + 1, done ++ [92] ++ [35], t, by go_num, ha.tail, hB2, by rw [HD.out, slash_yes (b := ((0 : Nat) == 0)) t (.inr ⟨rfl, rfl⟩)]; simp [slash1], hbl.trans (hk1.trans hk2).1, rfl, by simp; omega⟩
                · have n35 := byte_ne 35 h35 rfl
                  go_wp2_with fail
                  (with_reducible refine HS.out.mono ?_); rintro e w1 ⟨rfl, hw⟩; subst w1
                  have hc2 := hid (wbyte_fn hB c (by omega))
                  go_wp2_with fail
                  (with_reducible refine hc2.out.mono ?_); rintro e w2 ⟨rfl, hB2, hk2⟩
                  go_wp2
                  go_roundg t.length
                  case measure => simp
                  case rel => exact ⟨0 + 1, done ++ [c], t, by go_num, ha.tail, hB2, by rw [HD.out, slash_no t HQ.out (fun _ => h35)]; simp, hbl.trans hk2.1, rfl, by simp; omega⟩
              · have hj0 : ((j : Int) == 0) = false := by rw [beq_eq_false_iff_ne]; omega
                go_wp2_with fail
                (with_reducible refine HS.out.mono ?_); rintro e w1 ⟨rfl, hw⟩; subst w1
                have hc2 := hid (wbyte_fn hB c (by omega))
                go_wp2_with fail
                (with_reducible refine hc2.out.mono ?_); rintro e w2 ⟨rfl, hB2, hk2⟩
                go_wp2
                go_roundg t.length
                case measure => simp
                case rel => exact ⟨j + 1, done ++ [c], t, by go_num, ha.tail, hB2, by rw [HD.out, slash_no t HQ.out (fun h => absurd (by simpa using h) h0)]; simp, hbl.trans hk2.1, rfl, by simp; omega⟩
      | true =>
        have hsp := special_fn c w
        have hq := HB2.out
        rw [List.all_cons, Bool.true_and] at hq
        obtain ⟨S, hS⟩ : ∃ S, S = special c := ⟨_, rfl⟩
        rw [← hS] at hsp hq
        have HS := hid hsp
        have HQ := hid hq
        clear hS hsp hq HB2
        go_wp2_with fail
        (with_reducible refine HS.out.mono ?_); rintro e w1 ⟨rfl, hw⟩; subst w1
        go_wp2
        go_roundg t.length
        case measure => simp
        case rel => exact ⟨i + 1, !S, t, rfl, by go_num, ha.tail, HQ.out, rfl, rfl⟩
theorem quote_fn (s : Str) (hs : s.length ≤ 1000000) (w : World) (hm : ML w) :
    Calls Tryd.prog 27 #[.string ⟨s.toArray⟩] w fun e w' => e = .returned (.string ⟨(quote s).toArray⟩) ∧ Below w.heap.size w w' := by
  cases s with
  | nil =>
    go_enter Tryd.func27, Tryd.ntmps27
    go_wp2
    go_ret
    exact ⟨rfl, Below.refl _ _⟩
  | cons c0 t0 =>
    unfold quote
    rw [if_neg (by simp)]
    by_cases h1 : plainW (c0 :: t0) = true
    · rw [if_pos h1]
      exact quote_plain_fn c0 t0 hs h1 w hm
    · rw [if_neg h1]
      by_cases h2 : balanced (c0 :: t0) = true
      · rw [if_pos h2]
        exact quote_brace_fn c0 t0 hs (by simpa using h1) h2 w hm
      · rw [if_neg h2]
        exact quote_slash_fn c0 t0 hs (by simpa using h1) (by simpa using h2) w hm
end Go.Proofs.YtkgpmkkodpjdfaaDoor.Pz
/-
  list.Join: what it answers, where no limit is met. strings.Join, parse.Quoted. Condition: the library's variable internal/bytealg.MaxLen holds some int.
-/
namespace Go.Proofs.YtkgpmkkodpjdfaaDoor.Pz
open Go.RowKit
theorem add_block (p : Addr) (i : Nat) : (p.add i).block = p.block := by
  unfold Addr.add
  split <;> rfl
/-- a slice of texts in memory -/
def StrsAt (w : World) (v : Value) (l : List Str) : Prop := ∃ a cap, v = .slice a l.length cap ∧ l.length ≤ cap ∧ ∀ i (h : i < l.length), ∃ p : Addr, a = some p ∧ p.block < w.heap.size ∧ w.cell? (p.add i) = some (.string ⟨l[i].toArray⟩)
theorem StrsAt.below {w w' : World} {v : Value} {l : List Str} (h : StrsAt w v l) (hb : Below w.heap.size w w') : StrsAt w' v l := by
  obtain ⟨a, cap, rfl, hc, h⟩ := h
  refine ⟨a, cap, rfl, hc, fun i hi => ?_⟩
  obtain ⟨p, h1, h2, h3⟩ := h i hi
  have := hb.size
  exact ⟨p, h1, by omega, by rw [hb.cell (p := p.add i) (by rw [add_block]; exact h2)]; exact h3⟩
theorem quotedL_snoc : ∀ (l : List Str) (s : Str), quotedL (l ++ [s]) = if l.isEmpty then quote s else quotedL l ++ 32 :: quote s
  | [], _ => rfl
  | [_], _ => rfl
  | a :: b :: l, s => by
    have ih := quotedL_snoc (b :: l) s
    rw [if_neg (by simp)] at ih ⊢
    rw [show a :: b :: l ++ [s] = a :: b :: (l ++ [s]) from rfl, quotedL_two, quotedL_two, show b :: (l ++ [s]) = b :: l ++ [s] from rfl, ih]
    simp
theorem quotedL_take (l : List Str) (i : Nat) (h : i < l.length) : quotedL (l.take (i + 1)) = if i = 0 then quote l[i] else quotedL (l.take i) ++ 32 :: quote l[i] := by
  rw [List.take_succ_eq_append_getElem h, quotedL_snoc]
  by_cases h0 : i = 0
  · subst h0; rfl
  · rw [if_neg h0, if_neg]
    rw [List.isEmpty_iff, List.take_eq_nil_iff]
    rintro (h1 | h1)
    · exact h0 h1
    · rw [h1] at h; simp at h
theorem quotedL_take_le (l : List Str) : ∀ (j i : Nat), i + j = l.length → (quotedL (l.take i)).length ≤ (quotedL l).length
  | 0, i, h => by rw [List.take_of_length_le (by omega)]; exact Nat.le_refl _
  | j + 1, i, h => by
    have ih := quotedL_take_le l j (i + 1) (by omega)
    rw [quotedL_take l i (by omega)] at ih
    split at ih
    · rename_i h0
      subst h0
      exact Nat.zero_le _
    · simp only [List.length_append, List.length_cons] at ih
      omega
set_option maxRecDepth 100000 in
set_option maxHeartbeats 2000000 in
theorem join_fn (l : List Str) (v : Value) (w : World) (hm : ML w) (hv : StrsAt w v l) (h1 : l.length ≤ 10000) (h2 : ∀ s ∈ l, s.length ≤ 65536) (h3 : (quotedL l).length ≤ 65536) :
    Calls Tryd.prog 14 #[v] w fun e w' => e = .returned (.tuple #[.string ⟨(quotedL l).toArray⟩, .int .i64 0]) ∧ Below w.heap.size w w' := by
  obtain ⟨a, cap, rfl, hcap, hcell⟩ := hv
  obtain ⟨n, hn⟩ : ∃ n, n = l.length := ⟨_, rfl⟩
  have hlen : ¬ ((n : Int) > 10000) := by omega
  have HV := hid hcell
  have HT := hid (quotedL_take l)
  have HL := hid (quotedL_take_le l)
  have H2 := hid h2
  have H3 := hid h3
  have HM := hid hm
  have hB0 := Bld.new w
  have hW0 : Below w.heap.size w (w.alloc (.cells #[.pointer none, .slice none 0 0] 64)) := (Below.refl _ _).alloc (Nat.le_refl _) _
  have HN := hid hn
  rw [← hn] at hcap ⊢
  clear hcell h2 h3 hm h1 hn
  go_enter Tryd.func14, Tryd.ntmps14
  go_wp2_with fail
  generalize w.alloc (.cells #[.pointer none, .slice none 0 0] 64) = w0 at *
  go_loopg [12] n (fun k iv wr => ∃ (i : Nat), iv = .int .i64 (i : Nat) ∧ i ≤ n ∧ Bld wr w.heap.size (quotedL (l.take i)) ∧ Below w.heap.size w wr ∧ k = n - i)
  case atStart => exact ⟨0, rfl, Nat.zero_le _, hB0, hW0, by simp⟩
  case round =>
    obtain ⟨i, rfl, hi, hB, hbl, rfl⟩ := hrel
    clear hB0 hW0 w0
    have hbs := hB.lt
    rcases Nat.lt_or_ge i n with hlt | hge
    · have hlt' : i < l.length := by rw [← HN.out]; exact hlt
      obtain ⟨p, rfl, hbb, hcw⟩ := HV.out i hlt'
      have hcw1 : wr.cell? (p.add i) = some (.string ⟨l[i].toArray⟩) := by rw [hbl.cell (p := p.add i) (by rw [add_block]; exact hbb)]; exact hcw
      have hs := H2.out l[i] (List.getElem_mem hlt')
      have ht := HT.out i hlt'
      have hle := HL.out (n - (i + 1)) (i + 1) (by rw [← HN.out]; omega)
      have hl3 := H3.out
      have hqm : ML wr := HM.out.below hbl
      generalize l[i] = s at hcw hcw1 hs ht
      have hsz : (⟨s.toArray⟩ : ByteArray).size = s.length := Lib.size_mk _
      have hs2 : ¬ ((s.length : Int) > 65536) := by omega
      have hq := fun u hu => quote_fn s (by omega) u hu
      obtain ⟨Q, hQ⟩ : ∃ Q, Q = quotedL (l.take (i + 1)) := ⟨_, rfl⟩
      obtain ⟨Q0, hQ0⟩ : ∃ Q, Q = quotedL (l.take i) := ⟨_, rfl⟩
      rw [← hQ, ← hQ0] at ht
      rw [← hQ] at hle
      rw [← hQ0] at hB
      have HQ := hid hQ
      have HQ0 := hid hQ0
      have HT2 := hid ht
      have HC := hid hq
      clear hQ hQ0 ht hq hcw
      have hQle : Q.length ≤ 65536 := by omega
      clear hle hl3
      by_cases h0 : i = 0
      · subst h0
        replace hcw1 : wr.cell? p = some (.string ⟨s.toArray⟩) := hcw1
        have ht := hid (HT2.out.trans (if_pos rfl))
        have hz : Q0 = [] := HQ0.out
        subst hz
        go_wp2_with fail
        (with_reducible refine (HC.out _ hqm).mono ?_); rintro e w1 ⟨rfl, hb1⟩
        have hB1 := hB.below hb1
        have hbl1 := hbl.trans (hb1.mono (by omega))
        have hc2 := hid (wstr_fn hB1 (quote s) (by rw [ht.out] at hQle; simp at hQle ⊢; omega))
        go_wp2_with fail
        (with_reducible refine hc2.out.mono ?_); rintro e w2 ⟨rfl, hB2, hk2⟩
        rw [show ([] : Str) ++ quote s = Q by rw [ht.out]; simp] at hB2
        have hc3 := hid (len_fn hB2)
        go_wp2_with fail
        (with_reducible refine hc3.out.mono ?_); rintro e w3 ⟨rfl, hw⟩; subst w3
        have hQ65 : ¬ ((Q.length : Int) > 65536) := by omega
        go_wp2
        go_roundg (n - (0 + 1))
        case measure => omega
        case rel => exact ⟨0 + 1, by go_num, by omega, by rw [← HQ.out]; exact hB2, hbl1.trans hk2.1, rfl⟩
      · have ht := hid (HT2.out.trans (if_neg h0))
        have hi0 : (0 : Int) < (i : Int) := by omega
        have hQ0le : Q0.length ≤ 65536 := by rw [HT2.out, if_neg h0] at hQle; simp at hQle; omega
        have hc1 : Calls Tryd.prog 29 #[.pointer (some ⟨w.heap.size, 0, none⟩), .int .u8 32] wr fun e w' => e = .returned .nilIface ∧ Bld w' w.heap.size (Q0 ++ [32]) ∧ Kept w.heap.size wr w' := wbyte_fn hB 32 (by omega)
        have HC1 := hid hc1
        clear hc1
        go_wp2_with fail
        (with_reducible refine HC1.out.mono ?_); rintro e wx ⟨rfl, hBx, hkx⟩
        have hblx := hbl.trans hkx.1
        replace hqm : ML wx := HM.out.below hblx
        have hbsx := hBx.lt
        clear hB hbl hbs hkx
        go_wp2_with fail
        (with_reducible refine (HC.out _ hqm).mono ?_); rintro e w1 ⟨rfl, hb1⟩
        have hB1 := hBx.below hb1
        have hbl1 := hblx.trans (hb1.mono (by omega))
        have hc2 := hid (wstr_fn hB1 (quote s) (by rw [ht.out] at hQle; simp at hQle ⊢; omega))
        go_wp2_with fail
        (with_reducible refine hc2.out.mono ?_); rintro e w2 ⟨rfl, hB2, hk2⟩
        rw [show (Q0 ++ [32]) ++ quote s = Q by rw [ht.out]; simp] at hB2
        have hc3 := hid (len_fn hB2)
        go_wp2_with fail
        (with_reducible refine hc3.out.mono ?_); rintro e w3 ⟨rfl, hw⟩; subst w3
        have hQ65 : ¬ ((Q.length : Int) > 65536) := by omega
        go_wp2
        go_roundg (n - (i + 1))
        case measure => omega
        case rel => exact ⟨i + 1, by go_num, by omega, by rw [← HQ.out]; exact hB2, hbl1.trans hk2.1, rfl⟩
    · obtain rfl : i = n := by omega
      have hc := hid (str_fn hB)
      have hR : quotedL (l.take i) = quotedL l := by rw [List.take_of_length_le (by rw [← HN.out]; exact Nat.le_refl _)]
      have HR := hid hR
      clear hR
      go_wp2_with fail
      (with_reducible refine hc.out.mono ?_); rintro e w1 ⟨rfl, hB1, hk1⟩
      go_wp2
      go_ret2
      rw [HR.out]
      exact ⟨rfl, hbl.trans hk1.1⟩
end Go.Proofs.YtkgpmkkodpjdfaaDoor.Pz
/-
  strings.Join over a blank; parse.Quoted. Condition: the library's variable internal/bytealg.MaxLen holds some int.
-/
namespace Go.Proofs.YtkgpmkkodpjdfaaDoor.Pz
open Go.RowKit
set_option maxRecDepth 100000 in
set_option maxHeartbeats 1000000 in
theorem copyCheck_new {w : World} {b : Nat} (hbk : w.heap[b]? = some (.cells #[.pointer none, .slice none 0 0] 64 (0, 0))) :
    Calls Tryd.prog 51 #[.pointer (some ⟨b, 0, none⟩)] w fun e w' => e = .returned (.tuple #[]) ∧ w' = w.setCell ⟨b, 0, none⟩ (.pointer (some ⟨b, 0, none⟩)) := by
  obtain ⟨j, hj, hjs⟩ := Option.map_eq_some_iff.1 Tryd.infoB
  have h0 : w.cell? ⟨b, 0, none⟩ = some (.pointer none) := by rw [Lib.cell_of_heap hbk]; rfl
  have hsh : w.shape? b = some (64, 2) := by simp [World.shape?, hbk]
  have hfz : w.frozen? ⟨b, 0, none⟩ = false := Lib.frozen_of_heap hbk 0
  clear hbk
  go_enter Tryd.func51, Tryd.ntmps51
  go_wp2
  rw [Lib.run_to_unsafe w ⟨b, 0, none⟩ Tryd.underlying61 Tryd.underlying93 hj (by rw [hjs]; decide) hsh (Nat.zero_lt_succ 1)]
  simp only [Result.andThen]
  rw [Oper.upon_value]
  go_wp2
  rw [run_callFunc_extern Tryd.func69 (by kernel_rfl) (by kernel_rfl) (by kernel_rfl) (e := Extern.AbiNoEscape.same) (by kernel_rfl)]
  rw [Lib.run_noEscape]
  simp only [Result.andThen]
  rw [Oper.upon_value]
  go_wp2
  rw [Lib.run_from_unsafe w ⟨b, 0, none⟩ Tryd.underlying93 Tryd.underlying61 hj hsh Tryd.liesB]
  simp only [Result.andThen]
  rw [Oper.upon_value]
  go_wp2
  go_end0
  exact ⟨rfl, rfl⟩
set_option maxRecDepth 100000 in
set_option maxHeartbeats 1000000 in
theorem grow_fn {w : World} {b n : Nat} (hbk : w.heap[b]? = some (.cells #[.pointer none, .slice none 0 0] 64 (0, 0))) (h0 : 0 < n) (hn : n ≤ 1000000000) :
    Calls Tryd.prog 50 #[.pointer (some ⟨b, 0, none⟩), .int .i64 (n : Nat)] w fun e w' => e = .returned (.tuple #[]) ∧ Bld w' b [] ∧ Below b w w' := by
  have hc := hid (copyCheck_new hbk)
  have hb1 : (w.setCell ⟨b, 0, none⟩ (.pointer (some ⟨b, 0, none⟩))).heap[b]? = some (.cells #[.pointer (some ⟨b, 0, none⟩), .slice none 0 0] 64 (0, 0)) := by
    simp [World.setCell, Array.getElem?_modify, hbk]
  have hlt : b < w.heap.size := (Array.getElem?_eq_some_iff.1 hbk).1
  have hbl : Below b w (w.setCell ⟨b, 0, none⟩ (.pointer (some ⟨b, 0, none⟩))) := (Below.refl b w).setCell (p := ⟨b, 0, none⟩) (Nat.le_refl _) _
  have hlt1 : b < (w.setCell ⟨b, 0, none⟩ (.pointer (some ⟨b, 0, none⟩))).heap.size := by simpa [World.setCell] using hlt
  clear hbk
  generalize w.setCell ⟨b, 0, none⟩ (.pointer (some ⟨b, 0, none⟩)) = w1 at *
  have c1 : w1.cell? ⟨b, 1, none⟩ = some (.slice none 0 0) := by rw [Lib.cell_of_heap hb1]; rfl
  have hg : ∀ k, Calls Tryd.prog 68 #[.pointer (some ⟨b, 0, none⟩), .int .i64 (n : Nat)] (w1.drewN k) fun e w' => e = .returned (.tuple #[]) ∧ (Lib.BuilderAt 64 5 b b (.pointer (some ⟨b, 0, none⟩)) [] w' ∧ Below b (w1.drewN k) w') := fun k =>
    Tryd.Builder_grow_fresh b b n (w1.drewN k) (Nat.le_refl _) hb1 (Nat.le_of_lt hlt1) (by omega)
  have HG := hid hg
  have hnn : ¬ ((n : Int) < 0) := by omega
  have hgt : (0 : Int) < (n : Int) := by omega
  clear hg hb1
  go_enter Tryd.func50, Tryd.ntmps50
  go_wp2_with fail
  (with_reducible refine hc.out.mono ?_); rintro e w2 ⟨rfl, hw⟩; subst w2
  go_wp2
  go_quiet (fail)
  go_wp2_with fail
  (with_reducible refine (HG.out _).mono ?_); rintro e w2 ⟨rfl, hB, hb2⟩
  go_wp2
  go_end0
  exact ⟨rfl, Lib.IsBuilderF.of (.inr hB), hbl.trans ⟨hb2.os, hb2.tape, hb2.output, hb2.size, hb2.block⟩⟩
theorem add_none (b o i : Nat) : (⟨b, o, none⟩ : Addr).add i = ⟨b, o + i, none⟩ := by
  unfold Addr.add
  split
  · rename_i h
    subst h
    rfl
  · rfl
def joinS : List Str → Str
  | [] => []
  | [s] => s
  | s :: l => s ++ 32 :: joinS l
theorem joinS_two (a b : Str) (l : List Str) : joinS (a :: b :: l) = a ++ 32 :: joinS (b :: l) := by
  rw [joinS]
  simp
theorem joinS_quote : ∀ (l : List Str), joinS (l.map quote) = quotedL l
  | [] => rfl
  | [_] => rfl
  | a :: b :: l => by
    have ih := joinS_quote (b :: l)
    rw [quotedL_two, ← ih]
    exact joinS_two _ _ _
theorem joinS_snoc : ∀ (l : List Str) (s : Str), joinS (l ++ [s]) = if l.isEmpty then s else joinS l ++ 32 :: s
  | [], _ => rfl
  | [_], _ => rfl
  | a :: b :: l, s => by
    have ih := joinS_snoc (b :: l) s
    rw [if_neg (by simp)] at ih ⊢
    rw [show a :: b :: l ++ [s] = a :: b :: (l ++ [s]) from rfl, joinS_two, joinS_two, show b :: (l ++ [s]) = b :: l ++ [s] from rfl, ih]
    simp
theorem joinS_take (l : List Str) (i : Nat) (h : i < l.length) (h0 : 0 < i) : joinS (l.take (i + 1)) = joinS (l.take i) ++ 32 :: l[i] := by
  rw [List.take_succ_eq_append_getElem h, joinS_snoc, if_neg]
  rw [List.isEmpty_iff, List.take_eq_nil_iff]
  rintro (h1 | h1)
  · omega
  · rw [h1] at h; simp at h
theorem joinS_take_le (l : List Str) : ∀ (j i : Nat), i + j = l.length → 0 < i → (joinS (l.take i)).length ≤ (joinS l).length
  | 0, i, h, _ => by rw [List.take_of_length_le (by omega)]; exact Nat.le_refl _
  | j + 1, i, h, h0 => by
    have ih := joinS_take_le l j (i + 1) (by omega) (by omega)
    rw [joinS_take l i (by omega) h0] at ih
    simp only [List.length_append, List.length_cons] at ih
    omega
def sumLen : List Str → Nat
  | [] => 0
  | s :: l => s.length + sumLen l
theorem sumLen_le : ∀ (l : List Str), sumLen l ≤ (joinS l).length
  | [] => Nat.le_refl _
  | [_] => Nat.le_refl _
  | a :: b :: l => by
    have ih := sumLen_le (b :: l)
    rw [joinS_two, sumLen]
    simp only [List.length_append, List.length_cons]
    omega
theorem sumLen_drop (l : List Str) (i : Nat) (h : i < l.length) : sumLen (l.drop i) = l[i].length + sumLen (l.drop (i + 1)) := by
  rw [List.drop_eq_getElem_cons h]
  rfl
set_option maxRecDepth 100000 in
set_option maxHeartbeats 4000000 in
theorem sjoin_fn (l : List Str) (v : Value) (w : World) (hv : StrsAt w v l) (hsp : ∀ p n c, v = .slice (some p) n c → p.spot = none) (h1 : l.length ≤ 10000) (h2 : (joinS l).length ≤ 1000000) :
    Calls Tryd.prog 28 #[v, .string ⟨#[32]⟩] w fun e w' => e = .returned (.string ⟨(joinS l).toArray⟩) ∧ Below w.heap.size w w' := by
  obtain ⟨a, cap, rfl, hcap, hcell⟩ := hv
  match l, h1, h2, hcap, hcell with
  | [], h1, h2, hcap, hcell =>
    clear hcell
    go_enter Tryd.func28, Tryd.ntmps28
    go_wp2
    go_ret
    exact ⟨rfl, Below.refl _ _⟩
  | [x], h1, h2, hcap, hcell =>
    obtain ⟨p, rfl, hb, hc⟩ := hcell 0 (by simp)
    have hc0 : w.cell? p = some (.string ⟨x.toArray⟩) := hc
    clear hcell hc
    go_enter Tryd.func28, Tryd.ntmps28
    go_wp2
    go_ret
    exact ⟨rfl, Below.refl _ _⟩
  | x :: y :: l', h1, h2, hcap, hcell =>
    obtain ⟨l, hl⟩ : ∃ l, l = x :: y :: l' := ⟨_, rfl⟩
    obtain ⟨n, hn⟩ : ∃ n, n = l.length := ⟨_, rfl⟩
    have hn2 : 2 ≤ n := by rw [hn, hl]; simp
    rw [← hl] at h1 h2 hcap hcell ⊢
    obtain ⟨⟨pb, po, ps⟩, rfl, hb, hc⟩ := hcell 0 (by omega)
    obtain rfl : ps = none := hsp _ _ _ rfl
    have hall : ∀ i (h : i < l.length), w.cell? ⟨pb, po + i, none⟩ = some (.string ⟨l[i].toArray⟩) := by
      intro i h
      obtain ⟨p', e, _, hc'⟩ := hcell i h
      rw [← Option.some.inj e] at hc'
      rw [add_none] at hc'
      exact hc'
    obtain ⟨x0, h0c, hx0⟩ : ∃ x0 : Str, w.cell? ⟨pb, po, none⟩ = some (.string ⟨x0.toArray⟩) ∧ joinS (l.take 1) = x0 := by
      refine ⟨l[0]'(by omega), hc, ?_⟩
      subst hl
      rfl
    have hx0l : x0.length ≤ 1000000 := by
      have := joinS_take_le l (l.length - 1) 1 (by omega) (by omega)
      rw [hx0] at this
      omega
    have HX0 := hid hx0
    have HT := hid (joinS_take l)
    have HL := hid (joinS_take_le l)
    have HS := hid (sumLen_drop l)
    have hs0 : sumLen (l.drop 0) ≤ 1000000 := by
      have := sumLen_le l
      rw [List.drop_zero]
      omega
    obtain ⟨J, hJ⟩ : ∃ J, J = joinS l := ⟨_, rfl⟩
    rw [← hJ] at h2 ⊢
    have HA := hid hall
    have HN := hid hn
    have HJ := hid hJ
    rw [← hn] at h1 hcap ⊢
    clear hcell hc hall hn hl hJ hx0
    have hne0 : ((n : Int) == 0) = false := by rw [beq_eq_false_iff_ne]; omega
    have hne1 : ((n : Int) == 1) = false := by rw [beq_eq_false_iff_ne]; omega
    have hd0 : ((n : Int) - 1 == 0) = false := by rw [beq_eq_false_iff_ne]; omega
    have hdv : ¬ (9223372036854775807 / ((n : Int) - 1) ≤ 1) := by
      have : (2 : Int) ≤ 9223372036854775807 / ((n : Int) - 1) := (Int.le_ediv_iff_mul_le (by omega)).2 (by omega)
      omega
    go_enter Tryd.func28, Tryd.ntmps28
    go_wp2_with fail
    go_loopg [5, 41] n (fun k mv iv wr => ∃ (m i : Nat), mv = .int .i64 (m : Nat) ∧ iv = .int .i64 (i : Nat) ∧ 0 < m ∧ m + sumLen (l.drop i) ≤ 2000000 ∧ i ≤ n ∧ wr = w ∧ k = n - i)
    case atStart => exact ⟨n - 1, 0, by go_num, rfl, by omega, by omega, by omega, rfl, by omega⟩
    case round =>
      obtain ⟨m, i, rfl, rfl, hm, hms, hi, hw, rfl⟩ := hrel
      replace hw := hw.symm
      subst hw
      rcases Nat.lt_or_ge i n with hlt | hge
      · have hlt' : i < l.length := by rw [← HN.out]; exact hlt
        have hci := HA.out i hlt'
        have hsd := HS.out i hlt'
        rw [hsd] at hms
        generalize l[i] = s at hci hms
        have hsz : (⟨s.toArray⟩ : ByteArray).size = s.length := Lib.size_mk _
        have hov : ¬ ((s.length : Int) > 9223372036854775807 - (m : Int)) := by omega
        clear hsd
        by_cases hi0 : i = 0
        · subst hi0
          replace hci : w.cell? ⟨pb, po, none⟩ = some (.string ⟨s.toArray⟩) := hci
          clear h0c
          go_wp2
          go_roundg (n - (0 + 1))
          case measure => omega
          case rel => exact ⟨m + s.length, 0 + 1, by go_num, by go_num, by omega, by omega, by omega, rfl, rfl⟩
        · go_wp2
          go_roundg (n - (i + 1))
          case measure => omega
          case rel => exact ⟨m + s.length, i + 1, by go_num, by go_num, by omega, by omega, by omega, rfl, rfl⟩
      · obtain rfl : i = n := by omega
        have hm2 : m ≤ 1000000000 := by omega
        have hnew := heap_alloc_new w (.cells #[.pointer none, .slice none 0 0] 64)
        have hG := hid (grow_fn hnew hm hm2)
        have hW0 : Below w.heap.size w (w.alloc (.cells #[.pointer none, .slice none 0 0] 64)) := (Below.refl _ _).alloc (Nat.le_refl _) _
        clear hnew
        go_wp2_with fail
        (with_reducible refine hG.out.mono ?_); rintro e w1 ⟨rfl, hB1, hb1⟩
        have hbl1 := hW0.trans hb1
        have d0 : w1.cell? ⟨pb, po, none⟩ = some (.string ⟨x0.toArray⟩) := by rw [hbl1.cell hb]; exact h0c
        have hc1 := hid (wstr_fn hB1 x0 (by simp; omega))
        clear hG hW0 hb1
        go_wp2_with fail
        (with_reducible refine hc1.out.mono ?_); rintro e w2 ⟨rfl, hB2, hk2⟩
        have hbl2 := hbl1.trans hk2.1
        clear hbl1 hk2 hc1 d0 h0c hB1
        replace hB2 : Bld w2 w.heap.size (joinS (l.take (0 + 1))) := by rw [show joinS (l.take (0 + 1)) = x0 from HX0.out]; exact hB2
        go_wp2_with fail
        go_loopg [65] (i - 1) (fun k jv wr => ∃ (j : Nat), jv = .int .i64 (j : Nat) ∧ j + 1 ≤ i ∧ Bld wr w.heap.size (joinS (l.take (j + 1))) ∧ Below w.heap.size w wr ∧ k = i - (j + 1))
        case atStart => exact ⟨0, rfl, by omega, hB2, hbl2, rfl⟩
        case round =>
          obtain ⟨j, rfl, hj, hB, hbl, rfl⟩ := hrel
          clear hB2 hbl2 w2
          rcases Nat.lt_or_ge (j + 1) i with hlt | hge2
          · have hlt' : j + 1 < l.length := by rw [← HN.out]; exact hlt
            have hci := HA.out (j + 1) hlt'
            have hbw := hB.lt
            have hcw : wr.cell? ⟨pb, po + 1 + j, none⟩ = some (.string ⟨l[j + 1].toArray⟩) := by
              rw [hbl.cell hb, Nat.add_assoc, Nat.add_comm 1 j]
              exact hci
            have ht := HT.out (j + 1) hlt' (by omega)
            have hle := HL.out (i - (j + 1 + 1)) (j + 1 + 1) (by rw [← HN.out]; omega) (by omega)
            rw [← HJ.out] at hle
            generalize l[j + 1] = s at hci hcw ht
            have hsz : (⟨s.toArray⟩ : ByteArray).size = s.length := Lib.size_mk _
            have hJle : J.length ≤ 1000000 := h2
            obtain ⟨Q, hQ⟩ : ∃ Q, Q = joinS (l.take (j + 1 + 1)) := ⟨_, rfl⟩
            obtain ⟨Q0, hQ0⟩ : ∃ Q, Q = joinS (l.take (j + 1)) := ⟨_, rfl⟩
            rw [← hQ] at hle ht
            rw [← hQ0] at hB ht
            have HQ := hid hQ
            have HT2 := hid ht
            have hl2 : Q0.length + s.length + 1 ≤ 1000000 := by rw [ht] at hle; simp at hle; omega
            clear hQ hQ0 ht hci
            by_cases hj0 : j = 0
            · subst hj0
              replace hcw : wr.cell? ⟨pb, po + 1, none⟩ = some (.string ⟨s.toArray⟩) := hcw
              have hc1 : Calls Tryd.prog 30 #[.pointer (some ⟨w.heap.size, 0, none⟩), .string ⟨#[32]⟩] wr fun e w' => e = .returned (.tuple #[.int .i64 ((1 : Nat) : Int), .nilIface]) ∧ Bld w' w.heap.size (Q0 ++ [32]) ∧ Kept w.heap.size wr w' := wstr_fn hB [32] (by simp; omega)
              have HC1 := hid hc1
              clear hc1
              go_wp2_with fail
              (with_reducible refine HC1.out.mono ?_); rintro e w1 ⟨rfl, hB1, hk1⟩
              have hc2 := hid (wstr_fn hB1 s (by simp; omega))
              go_wp2_with fail
              (with_reducible refine hc2.out.mono ?_); rintro e w2 ⟨rfl, hB2, hk2⟩
              rw [show Q0 ++ [32] ++ s = Q by rw [HT2.out]; simp] at hB2
              go_wp2
              go_roundg (i - (0 + 1 + 1))
              case measure => omega
              case rel => exact ⟨0 + 1, by go_num, by omega, by rw [← HQ.out]; exact hB2, hbl.trans (hk1.trans hk2).1, rfl⟩
            · have hc1 : Calls Tryd.prog 30 #[.pointer (some ⟨w.heap.size, 0, none⟩), .string ⟨#[32]⟩] wr fun e w' => e = .returned (.tuple #[.int .i64 ((1 : Nat) : Int), .nilIface]) ∧ Bld w' w.heap.size (Q0 ++ [32]) ∧ Kept w.heap.size wr w' := wstr_fn hB [32] (by simp; omega)
              have HC1 := hid hc1
              clear hc1
              go_wp2_with fail
              (with_reducible refine HC1.out.mono ?_); rintro e w1 ⟨rfl, hB1, hk1⟩
              have hc2 := hid (wstr_fn hB1 s (by simp; omega))
              go_wp2_with fail
              (with_reducible refine hc2.out.mono ?_); rintro e w2 ⟨rfl, hB2, hk2⟩
              rw [show Q0 ++ [32] ++ s = Q by rw [HT2.out]; simp] at hB2
              go_wp2
              go_roundg (i - (j + 1 + 1))
              case measure => omega
              case rel => exact ⟨j + 1, by go_num, by omega, by rw [← HQ.out]; exact hB2, hbl.trans (hk1.trans hk2).1, rfl⟩
          · obtain rfl : i = j + 1 := by omega
            have hcs := hid (str_fn hB)
            have hR : joinS (l.take (j + 1)) = J := by rw [HJ.out, List.take_of_length_le (by rw [← HN.out]; omega)]
            have HR := hid hR
            clear hR
            go_wp2_with fail
            (with_reducible refine hcs.out.mono ?_); rintro e w1 ⟨rfl, hB1, hk1⟩
            go_wp2
            go_ret
            rw [HR.out]
            exact ⟨rfl, hbl.trans hk1.1⟩
end Go.Proofs.YtkgpmkkodpjdfaaDoor.Pz
/-
  parse.Quoted. Condition: the library's variable internal/bytealg.MaxLen holds some int.
-/
namespace Go.Proofs.YtkgpmkkodpjdfaaDoor.Pz
open Go.RowKit
theorem Tryd.infoS : (Tryd.prog.info? 9).map (fun i => (i.zero, i.size, i.bytes)) = some (some (.string ⟨#[]⟩), 1, 16) := by kernel_rfl
def strCells (l : List Str) : List Value := l.map fun s => .string ⟨s.toArray⟩
theorem StrsAt.own {w : World} {B : Nat} {v : Value} {l : List Str} (h : w.ownsRow B 9 1 v l.length (strCells l)) : StrsAt w v l ∧ ∀ p n c, v = .slice (some p) n c → p.spot = none := by
  obtain ⟨hl, ⟨rfl, h0⟩ | ⟨g, cap, cur, rfl, hb, hh, hc, hm, hs, ht⟩⟩ := h
  · obtain rfl : l = [] := List.length_eq_zero_iff.1 h0
    exact ⟨⟨none, 0, rfl, Nat.le_refl _, fun i hi => absurd hi (by simp)⟩, fun p n c e => by cases e⟩
  · refine ⟨⟨_, cap, rfl, hc, fun i hi => ⟨_, rfl, (Array.getElem?_eq_some_iff.1 hh).1, ?_⟩⟩, fun p n c e => by cases e; rfl⟩
    rw [add_none, cell_of_row w g (0 + i) cur 9 (0, 0) hh, Nat.zero_add]
    have hi2 : (strCells l)[i]? = some (.string ⟨l[i].toArray⟩) := by simp [strCells, hi]
    rw [← ht, List.getElem?_take] at hi2
    split at hi2
    · simpa using hi2
    · cases hi2
theorem ownsRow_base {w : World} {base : Nat} {e : TypeId} {size : Nat} {v : Value} {n : Nat} {xs : List Value} (h : w.ownsRow base e size v n xs) : ∀ g, v.ownBlock = some g → base ≤ g := by
  intro g hg
  rcases h.2 with ⟨rfl, _⟩ | ⟨g', cap, cur, rfl, hb, hgg, rest⟩
  · simp [Value.ownBlock] at hg
  · simp only [Value.ownBlock, Option.some.injEq] at hg
    omega
set_option maxRecDepth 100000 in
set_option maxHeartbeats 4000000 in
theorem quotedP_fn (l : List Str) (v : Value) (w : World) (hm : ML w) (hv : StrsAt w v l) (h1 : l.length ≤ 10000) (h2 : ∀ s ∈ l, s.length ≤ 65536) (h3 : (quotedL l).length ≤ 65536) :
    Calls Tryd.prog 13 #[v] w fun e w' => e = .returned (.string ⟨(quotedL l).toArray⟩) ∧ Below w.heap.size w w' := by
  obtain ⟨i0, hi, hz0, hz1, hz2⟩ := info_parts Tryd.infoS
  obtain ⟨a, cap, rfl, hcap, hcell⟩ := hv
  obtain ⟨n, hn⟩ : ∃ n, n = l.length := ⟨_, rfl⟩
  have HV := hid hcell
  have H2 := hid h2
  have H3 := hid h3
  have HM := hid hm
  have HN := hid hn
  have h0 : w.ownsRow w.heap.size 9 1 (.slice none 0 0) 0 (strCells ((l.take 0).map quote)) := World.ownsRow_nil _ _ _ _
  rw [← hn] at hcap h1 ⊢
  clear hcell h2 h3 hm hn
  go_enter Tryd.func13, Tryd.ntmps13
  go_wp2_with fail
  go_loopg [3, 8] n (fun k ov iv wr => ∃ (i : Nat), iv = .int .i64 (i : Nat) ∧ i ≤ n ∧ wr.ownsRow w.heap.size 9 1 ov i (strCells ((l.take i).map quote)) ∧ Below w.heap.size w wr ∧ k = n - i)
  case atStart => exact ⟨0, rfl, Nat.zero_le _, h0, Below.refl _ _, by simp⟩
  case round =>
    obtain ⟨i, rfl, hi', hown, hbl, rfl⟩ := hrel
    clear h0
    rcases Nat.lt_or_ge i n with hlt | hge
    · have hlt' : i < l.length := by rw [← HN.out]; exact hlt
      obtain ⟨p, rfl, hbb, hcw⟩ := HV.out i hlt'
      have hcw1 : wr.cell? (p.add i) = some (.string ⟨l[i].toArray⟩) := by rw [hbl.cell (p := p.add i) (by rw [add_block]; exact hbb)]; exact hcw
      have hs := H2.out l[i] (List.getElem_mem hlt')
      have hqm : ML wr := HM.out.below hbl
      have hnext : strCells ((l.take (i + 1)).map quote) = strCells ((l.take i).map quote) ++ [.string ⟨(quote l[i]).toArray⟩] := by
        rw [List.take_succ_eq_append_getElem hlt']
        unfold strCells
        rw [List.map_append, List.map_append]
        rfl
      generalize l[i] = s at hcw hcw1 hs hnext
      have hsz : (⟨s.toArray⟩ : ByteArray).size = s.length := Lib.size_mk _
      have HC := hid (quote_fn s (by omega) wr hqm)
      obtain ⟨X, hX⟩ : ∃ X, X = strCells ((l.take i).map quote) := ⟨_, rfl⟩
      rw [← hX] at hown hnext
      have HX := hid hnext
      clear hcw hnext hX
      obtain ⟨q, hq⟩ : ∃ q, q = quote s := ⟨_, rfl⟩
      rw [← hq] at HC HX
      clear hq
      have hsw := hbl.size
      by_cases hi0 : i = 0
      · subst hi0
        replace hcw1 : wr.cell? p = some (.string ⟨s.toArray⟩) := hcw1
        go_wp2_with fail
        (with_reducible refine HC.out.mono ?_); rintro e w1 ⟨rfl, hb1⟩
        have hown1 := ownsRow_heap hown (fun g hg => hb1.block g (ownsRow_lt hown g hg).1)
        have hbl1 := hbl.trans (hb1.mono hsw)
        have hs1 := hbl1.size
        go_wp2_with (at_builtin; refine wpList_append_own _ rfl _ _ 39 rfl w.heap.size 9 i0 (.string ⟨#[]⟩) 1 16 Tryd.underlying39 hi hz0 hz1 hz2 rfl (by decide) _ _ _ rfl (hown1.alloc _) ⟨w1.heap.size, 0, none⟩ 1 1 [.string ⟨q.toArray⟩] rfl rfl ?c1 ?c2 ?c3 ?c4 ?c5 ?_)
        case c1 =>
          intro j u hj
          match j, hj with
          | 0, hj => simp at hj; subst hj; simp [Addr.add]
        case c2 => intro u hu; simp at hu; subst hu; rfl
        case c3 => unfold maxLen; omega
        case c4 => omega
        case c5 => simp; omega
        intro v' w2 hown2 hgrow _
        have hbl2 : Below w.heap.size w w2 := (hbl1.alloc hs1 _).grown hgrow (by simp; omega) (fun g hg => (ownsRow_base hown1 g hg))
        clear hown hown1 hbl hbl1 hb1 hgrow
        go_wp2
        go_roundg (n - (0 + 1))
        case measure => omega
        case rel => exact ⟨0 + 1, by go_num, by omega, by rw [HX.out]; exact hown2, hbl2, rfl⟩
      · go_wp2_with fail
        (with_reducible refine HC.out.mono ?_); rintro e w1 ⟨rfl, hb1⟩
        have hown1 := ownsRow_heap hown (fun g hg => hb1.block g (ownsRow_lt hown g hg).1)
        have hbl1 := hbl.trans (hb1.mono hsw)
        have hs1 := hbl1.size
        go_wp2_with (at_builtin; refine wpList_append_own _ rfl _ _ 39 rfl w.heap.size 9 i0 (.string ⟨#[]⟩) 1 16 Tryd.underlying39 hi hz0 hz1 hz2 rfl (by decide) _ _ _ rfl (hown1.alloc _) ⟨w1.heap.size, 0, none⟩ 1 1 [.string ⟨q.toArray⟩] rfl rfl ?c1 ?c2 ?c3 ?c4 ?c5 ?_)
        case c1 =>
          intro j u hj
          match j, hj with
          | 0, hj => simp at hj; subst hj; simp [Addr.add]
        case c2 => intro u hu; simp at hu; subst hu; rfl
        case c3 => unfold maxLen; omega
        case c4 => omega
        case c5 => simp; omega
        intro v' w2 hown2 hgrow _
        have hbl2 : Below w.heap.size w w2 := (hbl1.alloc hs1 _).grown hgrow (by simp; omega) (fun g hg => (ownsRow_base hown1 g hg))
        clear hown hown1 hbl hbl1 hb1 hgrow
        go_wp2
        go_roundg (n - (i + 1))
        case measure => omega
        case rel => exact ⟨i + 1, by go_num, by omega, by rw [HX.out]; exact hown2, hbl2, rfl⟩
    · obtain rfl : i = n := by omega
      have hlen : ((l.take i).map quote).length = i := by rw [List.length_map, List.length_take, ← HN.out]; omega
      have hall : (l.take i).map quote = l.map quote := by rw [List.take_of_length_le (by rw [← HN.out]; exact Nat.le_refl _)]
      have hlen2 : (l.map quote).length = i := by rw [← hall]; exact hlen
      rw [hall] at hown
      obtain ⟨hst, hsp⟩ := StrsAt.own (l := l.map quote) (by rw [hlen2]; exact hown)
      have hc := sjoin_fn (l.map quote) _ wr hst hsp (by rw [hlen2]; exact h1) (by rw [joinS_quote]; have := H3.out; omega)
      rw [joinS_quote] at hc
      have HC := hid hc
      have hsw := hbl.size
      clear hall hlen hlen2 hc hst hsp hown
      go_wp2_with fail
      (with_reducible refine HC.out.mono ?_); rintro e w1 ⟨rfl, hb1⟩
      go_wp2
      go_ret
      exact ⟨rfl, hbl.trans (hb1.mono hsw)⟩
end Go.Proofs.YtkgpmkkodpjdfaaDoor.Pz
/-
  The reference's First; its Quote.
-/
namespace Go.Proofs.YtkgpmkkodpjdfaaDoor.Pz
open Go.RowKit
theorem pre_take (n l : Str) (_h : n.length ≤ l.length) : n.isPrefixOf l = (l.take n.length == n) := by
  rw [Bool.eq_iff_iff, List.isPrefixOf_iff_prefix, beq_iff_eq, List.prefix_iff_eq_take]
  exact ⟨fun h => h.symm, fun h => h.symm⟩
theorem pre_short (n l : Str) (h : l.length < n.length) : n.isPrefixOf l = false := by
  rw [Bool.eq_false_iff]
  intro e
  have := (List.isPrefixOf_iff_prefix.1 e).length_le
  omega
set_option maxRecDepth 100000 in
theorem stands_fn (n s l : Str) (i : Nat) (h : At s l i) (_hs : s.length ≤ 1000000000) (_hn : n.length ≤ 1000000000) (w : World) :
    Calls Tryd.prog 81 #[.string ⟨n.toArray⟩, .string ⟨s.toArray⟩, .int .i64 (i : Nat)] w fun e w' => e = .returned (.bool (n.isPrefixOf l)) ∧ w' = w := by
  have hsz : (⟨s.toArray⟩ : ByteArray).size = s.length := Lib.size_mk _
  have hnz : (⟨n.toArray⟩ : ByteArray).size = n.length := Lib.size_mk _
  have hlen := h.len
  rcases Nat.lt_or_ge l.length n.length with hlt | hge
  · rw [pre_short n l hlt]
    have h1 : ¬ ((i : Int) ≤ (s.length : Int) - (n.length : Int)) := by omega
    go_enter Tryd.func81, Tryd.ntmps81
    go_wp2
    go_ret
    exact ⟨rfl, rfl⟩
  · have h1 : (i : Int) ≤ (s.length : Int) - (n.length : Int) := by omega
    have hex : (⟨s.toArray⟩ : ByteArray).extract i (i + n.length) = ⟨(l.take n.length).toArray⟩ := by
      have h' : At s (l.take n.length ++ l.drop n.length) i := by rw [List.take_append_drop]; exact h
      have := h'.text
      rw [List.length_take, Nat.min_eq_left hge] at this
      exact this
    obtain ⟨R, hR⟩ : ∃ R, R = n.isPrefixOf l := ⟨_, rfl⟩
    rw [← hR]
    rw [pre_take n l hge] at hR
    have HR := hid hR
    clear hR
    go_enter Tryd.func81, Tryd.ntmps81
    go_wp2
    go_ret
    refine ⟨?_, rfl⟩
    rw [HR.out]
    rfl
/-- the first place, from a place on, at which a needle stands -/
def firstI (n : Str) (f : Int) : Nat → Str → Int
  | _, [] => -1
  | i, c :: t => if decide (f ≤ (i : Int)) && n.isPrefixOf (c :: t) then (i : Int) else firstI n f (i + 1) t
set_option maxRecDepth 100000 in
set_option maxHeartbeats 1000000 in
theorem first_fn (n s : Str) (f : Int) (hn : n ≠ []) (hs : s.length ≤ 1000000000) (hnl : n.length ≤ 1000000000) (w : World) :
    Calls Tryd.prog 70 #[.string ⟨n.toArray⟩, .string ⟨s.toArray⟩, .int .i64 f] w fun e w' => e = .returned (.int .i64 (firstI n f 0 s)) ∧ w' = w := by
  have hsz : (⟨s.toArray⟩ : ByteArray).size = s.length := Lib.size_mk _
  have hne : n.isEmpty = false := by simpa using hn
  obtain ⟨R, hR⟩ : ∃ R, R = firstI n f 0 s := ⟨_, rfl⟩
  rw [← hR]
  have HR := hid hR
  clear hR
  go_enter Tryd.func70, Tryd.ntmps70
  go_wp2_with fail
  go_loopg [10] s.length (fun k iv wr => ∃ (i : Nat) (rest : Str), iv = .int .i64 (i : Nat) ∧ At s rest i ∧ R = firstI n f i rest ∧ wr = w ∧ k = rest.length)
  case atStart => exact ⟨0, s, rfl, At.start s, HR.out, rfl, rfl⟩
  case round =>
    obtain ⟨i, rest, rfl, ha, hr, hw, rfl⟩ := hrel
    replace hw := hw.symm
    subst hw
    have HR2 := hid hr
    clear hr HR
    cases rest with
    | nil =>
      have hge : s.length ≤ i := ha.nil_iff.1 rfl
      go_wp2
      go_ret
      exact ⟨by rw [HR2.out]; rfl, rfl⟩
    | cons c t =>
      have hlt := ha.lt
      have hst := stands_fn n s (c :: t) i ha hs hnl w
      obtain ⟨S, hS⟩ : ∃ S, S = n.isPrefixOf (c :: t) := ⟨_, rfl⟩
      have hr2 : R = if decide (f ≤ (i : Int)) && S then (i : Int) else firstI n f (i + 1) t := by rw [HR2.out, hS]; rfl
      rw [← hS] at hst
      have HS := hid hst
      have HR3 := hid hr2
      clear hS hst hr2 HR2
      by_cases hf : f ≤ (i : Int)
      · cases S with
        | true =>
          go_wp2_with fail
          (with_reducible refine HS.out.mono ?_); rintro e w1 ⟨rfl, hw⟩; subst w1
          go_wp2
          go_ret
          refine ⟨?_, rfl⟩
          rw [HR3.out, decide_eq_true hf]
          rfl
        | false =>
          have hR4 : R = firstI n f (i + 1) t := by rw [HR3.out, Bool.and_false, if_neg (by simp)]
          have HR4 := hid hR4
          clear hR4
          go_wp2_with fail
          (with_reducible refine HS.out.mono ?_); rintro e w1 ⟨rfl, hw⟩; subst w1
          go_wp2
          go_roundg t.length
          case measure => simp
          case rel => exact ⟨i + 1, t, by go_num, ha.tail, HR4.out, rfl, rfl⟩
      · have hR4 : R = firstI n f (i + 1) t := by rw [HR3.out, decide_eq_false hf, Bool.false_and, if_neg (by simp)]
        have HR4 := hid hR4
        clear hR4
        go_wp2
        go_roundg t.length
        case measure => simp
        case rel => exact ⟨i + 1, t, by go_num, ha.tail, HR4.out, rfl, rfl⟩
theorem first_has (c : UInt8) : ∀ (l : Str) (i : Nat), decide (0 ≤ firstI [c] 0 i l) = l.contains c
  | [], _ => rfl
  | d :: t, i => by
    have ih := first_has c t (i + 1)
    rw [firstI, List.contains_cons, decide_eq_true (show (0 : Int) ≤ (i : Int) by omega), Bool.true_and]
    have hp : ([c] : Str).isPrefixOf (d :: t) = (c == d) := by simp [List.isPrefixOf]
    rw [hp]
    by_cases h : (c == d) = true
    · rw [if_pos h, h, Bool.true_or]
      simp
    · rw [if_neg h, ih]
      rw [Bool.not_eq_true] at h
      rw [h, Bool.false_or]
theorem first_bn : ∀ (l : Str) (i : Nat), decide (firstI [92, 10] 0 i l < 0) = !hasBN l
  | [], _ => rfl
  | c :: t, i => by
    have ih := first_bn t (i + 1)
    rw [firstI, hasBN, decide_eq_true (show (0 : Int) ≤ (i : Int) by omega), Bool.true_and]
    have hp := pre_bn c t
    rw [hp]
    by_cases h : (c == 92 && t.head? == some 10) = true
    · rw [if_pos h, h]
      simp
    · rw [if_neg h, ih]
      rw [Bool.not_eq_true] at h
      rw [h, Bool.false_or]
end Go.Proofs.YtkgpmkkodpjdfaaDoor.Pz
/-
  The reference's Quote.
-/
namespace Go.Proofs.YtkgpmkkodpjdfaaDoor.Pz
open Go.RowKit
set_option maxRecDepth 100000 in
set_option maxHeartbeats 1000000 in
theorem specialR_fn (c : UInt8) (w : World) : Calls Tryd.prog 52 #[.int .u8 (c.toNat : Nat)] w fun e w' => e = .returned (.bool (special c)) ∧ Below w.heap.size w w' := by
  have hwc := whiteR_fn c w
  have hfc := fun u => first_fn [c] [34, 92, 123, 125, 36, 91, 93, 59] 0 (by simp) (by simp) (by simp) u
  have hcv := fun u => one_back c u
  obtain ⟨I, hI⟩ : ∃ I, I = firstI [c] 0 0 [34, 92, 123, 125, 36, 91, 93, 59] := ⟨_, rfl⟩
  obtain ⟨W, hW⟩ : ∃ W, W = white c := ⟨_, rfl⟩
  obtain ⟨S, hS⟩ : ∃ S, S = special c := ⟨_, rfl⟩
  have hS2 : S = (W || decide (0 ≤ I)) := by rw [hS, special, hW, hI, first_has]
  rw [← hW] at hwc
  rw [← hS]
  rw [← hI] at hfc
  have HC := hid hfc
  have HW := hid hwc
  have HS := hid hS2
  clear hfc hwc hS hS2 hW hI
  cases W with
  | true =>
    go_enter Tryd.func52, Tryd.ntmps52
    go_wp2_with fail
    (with_reducible refine HW.out.mono ?_); rintro e w1 ⟨rfl, hw⟩; subst w1
    go_wp2
    go_ret
    exact ⟨by rw [HS.out]; rfl, Below.refl _ _⟩
  | false =>
    go_enter Tryd.func52, Tryd.ntmps52
    go_wp2_with fail
    (with_reducible refine HW.out.mono ?_); rintro e w1 ⟨rfl, hw⟩; subst w1
    go_wp2_with fail
    (with_reducible refine (HC.out _).mono ?_); rintro e w1 ⟨rfl, hw⟩; subst w1
    go_wp2
    go_ret
    exact ⟨by rw [HS.out]; rfl, (Below.refl _ _).alloc (Nat.le_refl _) _⟩
set_option maxRecDepth 100000 in
set_option maxHeartbeats 2000000 in
theorem balancedR_fn (s : Str) (hs : s.length ≤ 1000000) (w : World) :
    Calls Tryd.prog 53 #[.string ⟨s.toArray⟩] w fun e w' => e = .returned (.bool (balanced s)) ∧ w' = w := by
  have hsz : (⟨s.toArray⟩ : ByteArray).size = s.length := Lib.size_mk _
  obtain ⟨B, hB⟩ : ∃ B, B = bal 0 s := ⟨_, rfl⟩
  obtain ⟨R, hR⟩ : ∃ R, R = balanced s := ⟨_, rfl⟩
  have hc := first_fn [92, 10] s 0 (by simp) (by omega) (by simp) w
  obtain ⟨I, hI⟩ : ∃ I, I = firstI [92, 10] 0 0 s := ⟨_, rfl⟩
  have hIH := first_bn s 0
  rw [← hI] at hc hIH
  have hR2 : R = (B && decide (I < 0)) := by rw [hR, hB, hIH]; rfl
  rw [← hR]
  have HC := hid hc
  have HB := hid hB
  have HR := hid hR2
  clear hc hB hR2 hR hI hIH
  go_enter Tryd.func53, Tryd.ntmps53
  go_wp2_with fail
  go_loopg [3, 4] s.length (fun k dv iv wr => ∃ (i d : Nat) (rest : Str), dv = .int .i64 (d : Nat) ∧ iv = .int .i64 (i : Nat) ∧ At s rest i ∧ B = bal d rest ∧ wr = w ∧ k = rest.length ∧ d ≤ i)
  case atStart => exact ⟨0, 0, s, rfl, rfl, At.start s, HB.out, rfl, rfl, Nat.le_refl _⟩
  case round =>
    obtain ⟨i, d, rest, rfl, rfl, ha, hb, hw, rfl, hd⟩ := hrel
    subst hw
    have HB2 := hid hb
    clear hb HB
    have hle : i ≤ s.length := by have := ha.len; omega
    cases rest with
    | nil =>
      have hge : s.length ≤ i := ha.nil_iff.1 rfl
      have HB3 : B = (d == 0) := by rw [HB2.out]; rfl
      have HB4 := hid HB3
      clear HB3 HB2
      by_cases h0 : d = 0
      · subst h0
        go_wp2_with fail
        (with_reducible refine HC.out.mono ?_); rintro e w1 ⟨rfl, hw⟩; subst w1
        go_wp2
        go_ret
        exact ⟨by rw [HR.out, HB4.out]; rfl, rfl⟩
      · have hne : ((d : Int) == 0) = false := by rw [beq_eq_false_iff_ne]; omega
        go_wp2
        go_ret
        refine ⟨?_, rfl⟩
        rw [HR.out, HB4.out, show (d == 0) = false by simpa using h0]
        rfl
    | cons c t =>
      have hlt := ha.lt
      have hx := ha.byte
      have hlen := ha.len
      simp only [List.length_cons] at hlen
      by_cases h92 : c = 92
      · subst h92
        cases t with
        | nil =>
          have he : ((i : Int) + 1 == (s.length : Int)) = true := by rw [beq_iff_eq]; simp at hlen; omega
          go_wp2
          go_ret
          exact ⟨by rw [HR.out, HB2.out, bal_cons]; rfl, rfl⟩
        | cons e t =>
          simp only [List.length_cons] at hlen
          have he : ((i : Int) + 1 == (s.length : Int)) = false := by rw [beq_eq_false_iff_ne]; omega
          go_wp2
          go_roundg t.length
          case measure => simp; omega
          case rel => exact ⟨i + 2, d, t, rfl, by rw [Value.int.injEq]; exact ⟨rfl, by omega⟩, ha.tail.tail, by rw [HB2.out, bal_cons]; rfl, rfl, rfl, by omega⟩
      · have n92 := byte_ne 92 h92 rfl
        by_cases h123 : c = 123
        · subst h123
          go_wp2
          go_roundg t.length
          case measure => simp
          case rel => exact ⟨i + 1, d + 1, t, by go_num, by go_num, ha.tail, by rw [HB2.out, bal_cons]; rfl, rfl, rfl, by omega⟩
        · have n123 := byte_ne 123 h123 rfl
          by_cases h125 : c = 125
          · subst h125
            cases d with
            | zero =>
              go_wp2
              go_ret
              exact ⟨by rw [HR.out, HB2.out, bal_cons]; rfl, rfl⟩
            | succ d =>
              have hnn : ¬ (((d + 1 : Nat) : Int) - 1 < 0) := by omega
              go_wp2
              go_roundg t.length
              case measure => simp
              case rel => exact ⟨i + 1, d, t, by rw [Value.int.injEq]; exact ⟨rfl, by omega⟩, by go_num, ha.tail, by rw [HB2.out, bal_cons]; rfl, rfl, rfl, by omega⟩
          · have n125 := byte_ne 125 h125 rfl
            go_wp2
            go_roundg t.length
            case measure => simp
            case rel => exact ⟨i + 1, d, t, rfl, by go_num, ha.tail, by rw [HB2.out, bal_cons, if_neg (by simpa using h92), if_neg (by simpa using h123), if_neg (by simpa using h125)], rfl, rfl, by omega⟩
set_option maxRecDepth 100000 in
set_option maxHeartbeats 4000000 in
theorem slashed_fn (s : Str) (hs : s.length ≤ 1000000) (w : World) :
    Calls Tryd.prog 54 #[.string ⟨s.toArray⟩] w fun e w' => e = .returned (.string ⟨(slash true s).toArray⟩) ∧ Below w.heap.size w w' := by
  have hsz : (⟨s.toArray⟩ : ByteArray).size = s.length := Lib.size_mk _
  obtain ⟨J, hJ⟩ : ∃ J, J = slash true s := ⟨_, rfl⟩
  rw [← hJ]
  have HJ := hid hJ
  clear hJ
  go_enter Tryd.func54, Tryd.ntmps54
  go_wp2_with fail
  go_loopg [3, 7] s.length (fun k sv jv wr => ∃ (j : Nat) (done rest : Str), sv = .string ⟨done.toArray⟩ ∧ jv = .int .i64 (j : Nat) ∧ At s rest j ∧ J = done ++ slash (j == 0) rest ∧ Below w.heap.size w wr ∧ k = rest.length ∧ done.length + 2 * rest.length ≤ 2 * s.length)
  case atStart => exact ⟨0, [], s, rfl, rfl, At.start s, by rw [HJ.out]; rfl, Below.refl _ _, rfl, by simp⟩
  case round =>
    obtain ⟨j, done, rest, rfl, rfl, ha, hj, hbl, rfl, hl⟩ := hrel
    have hds : (⟨done.toArray⟩ : ByteArray).size = done.length := Lib.size_mk _
    have HD := hid hj
    clear hj
    have hle : j ≤ s.length := by have := ha.len; omega
    have hsw := hbl.size
    cases rest with
    | nil =>
      have hge : s.length ≤ j := ha.nil_iff.1 rfl
      go_wp2
      go_ret
      exact ⟨by rw [HD.out]; simp [slash], hbl⟩
    | cons c t =>
      have hlt := ha.lt
      have hx := ha.byte
      have hlen := ha.len
      have hex : (⟨s.toArray⟩ : ByteArray).extract j (j + 1) = ⟨[c].toArray⟩ := At.text (x := [c]) ha
      simp only [List.length_cons] at hlen hl
      by_cases h13 : c.toNat ≤ 13 ∧ 9 ≤ c.toNat
      · have hw : white c = true := by rw [white_nat]; simp; omega
        have hsp : special c = true := by rw [special, hw]; rfl
        rcases special_split hsp with rfl | rfl | rfl | rfl | rfl | h14
        · have hk : (⟨#[116, 110, 118, 102, 114]⟩ : ByteArray).extract 0 1 = ⟨#[116]⟩ := by decide
          have k1 : IntKind.u8.wrap 0 = 0 := rfl
          have k2 : IntKind.u8.wrap 1 = 1 := rfl
          go_wp2
          go_quiet (fail)
          go_wp2
          go_roundg t.length
          case measure => simp
          case rel => exact ⟨j + 1, done ++ [92, 116], t, by rw [Value.string.injEq, ByteArray.ext_iff]; simp, by go_num, ha.tail, by rw [HD.out, slash_yes t (.inl hsp)]; simp [slash1], below_drewN hbl _, rfl, by simp; omega⟩
        · have hk : (⟨#[116, 110, 118, 102, 114]⟩ : ByteArray).extract 1 2 = ⟨#[110]⟩ := by decide
          have k1 : IntKind.u8.wrap 1 = 1 := rfl
          have k2 : IntKind.u8.wrap 2 = 2 := rfl
          go_wp2
          go_quiet (fail)
          go_wp2
          go_roundg t.length
          case measure => simp
          case rel => exact ⟨j + 1, done ++ [92, 110], t, by rw [Value.string.injEq, ByteArray.ext_iff]; simp, by go_num, ha.tail, by rw [HD.out, slash_yes t (.inl hsp)]; simp [slash1], below_drewN hbl _, rfl, by simp; omega⟩
        · have hk : (⟨#[116, 110, 118, 102, 114]⟩ : ByteArray).extract 2 3 = ⟨#[118]⟩ := by decide
          have k1 : IntKind.u8.wrap 2 = 2 := rfl
          have k2 : IntKind.u8.wrap 3 = 3 := rfl
          go_wp2
          go_quiet (fail)
          go_wp2
          go_roundg t.length
          case measure => simp
          case rel => exact ⟨j + 1, done ++ [92, 118], t, by rw [Value.string.injEq, ByteArray.ext_iff]; simp, by go_num, ha.tail, by rw [HD.out, slash_yes t (.inl hsp)]; simp [slash1], below_drewN hbl _, rfl, by simp; omega⟩
        · have hk : (⟨#[116, 110, 118, 102, 114]⟩ : ByteArray).extract 3 4 = ⟨#[102]⟩ := by decide
          have k1 : IntKind.u8.wrap 3 = 3 := rfl
          have k2 : IntKind.u8.wrap 4 = 4 := rfl
          go_wp2
          go_quiet (fail)
          go_wp2
          go_roundg t.length
          case measure => simp
          case rel => exact ⟨j + 1, done ++ [92, 102], t, by rw [Value.string.injEq, ByteArray.ext_iff]; simp, by go_num, ha.tail, by rw [HD.out, slash_yes t (.inl hsp)]; simp [slash1], below_drewN hbl _, rfl, by simp; omega⟩
        · have hk : (⟨#[116, 110, 118, 102, 114]⟩ : ByteArray).extract 4 5 = ⟨#[114]⟩ := by decide
          have k1 : IntKind.u8.wrap 4 = 4 := rfl
          have k2 : IntKind.u8.wrap 5 = 5 := rfl
          go_wp2
          go_quiet (fail)
          go_wp2
          go_roundg t.length
          case measure => simp
          case rel => exact ⟨j + 1, done ++ [92, 114], t, by rw [Value.string.injEq, ByteArray.ext_iff]; simp, by go_num, ha.tail, by rw [HD.out, slash_yes t (.inl hsp)]; simp [slash1], below_drewN hbl _, rfl, by simp; omega⟩
        · omega
      · have hn : ¬ ((9 : Int) ≤ (c.toNat : Int) ∧ (c.toNat : Int) ≤ 13) := by omega
        have hsp := specialR_fn c wr
        obtain ⟨S, hS⟩ : ∃ S, special c = S := ⟨_, rfl⟩
        rw [hS] at hsp
        have HQ := hid hS
        have HS := hid hsp
        clear hS hsp
        have hr : ∀ (h : special c = true ∨ ((j == 0) = true ∧ c = 35)), slash1 c = c := by
          rintro (h | ⟨_, rfl⟩)
          · rcases special_split h with rfl | rfl | rfl | rfl | rfl | h14
            · exact absurd ⟨by decide, by decide⟩ h13
            · exact absurd ⟨by decide, by decide⟩ h13
            · exact absurd ⟨by decide, by decide⟩ h13
            · exact absurd ⟨by decide, by decide⟩ h13
            · exact absurd ⟨by decide, by decide⟩ h13
            · exact slash1_same h14
          · rfl
        have HR := hid hr
        clear hr
        have h2 : ((9 : Int) ≤ (c.toNat : Int) ∧ ¬ (c.toNat : Int) ≤ 13) ∨ ¬ (9 : Int) ≤ (c.toNat : Int) := by omega
        clear hn
        cases S with
        | true =>
          rcases h2 with ⟨h9, h13'⟩ | h9
          · go_wp2_with fail
            (with_reducible refine HS.out.mono ?_); rintro e w1 ⟨rfl, hb1⟩
            go_wp2
            go_roundg t.length
            case measure => simp
            case rel => exact ⟨j + 1, done ++ [92, c], t, by rw [Value.string.injEq, ByteArray.ext_iff]; simp, by go_num, ha.tail, by rw [HD.out, slash_yes (b := (j == 0)) t (.inl HQ.out), HR.out (.inl HQ.out)]; simp, hbl.trans (hb1.mono hsw), rfl, by simp; omega⟩
          · go_wp2_with fail
            (with_reducible refine HS.out.mono ?_); rintro e w1 ⟨rfl, hb1⟩
            go_wp2
            go_roundg t.length
            case measure => simp
            case rel => exact ⟨j + 1, done ++ [92, c], t, by rw [Value.string.injEq, ByteArray.ext_iff]; simp, by go_num, ha.tail, by rw [HD.out, slash_yes (b := (j == 0)) t (.inl HQ.out), HR.out (.inl HQ.out)]; simp, hbl.trans (hb1.mono hsw), rfl, by simp; omega⟩
        | false =>
          rcases h2 with ⟨h9, h13'⟩ | h9
          · by_cases h0 : j = 0
            · subst h0
              by_cases h35 : c = 35
              · subst h35
                replace HS := hid (show Calls Tryd.prog 52 #[.int .u8 35] wr _ from HS.out)
                go_wp2_with fail
                (with_reducible refine HS.out.mono ?_); rintro e w1 ⟨rfl, hb1⟩
                go_wp2
                go_roundg t.length
                case measure => simp
                case rel => exact ⟨0 + 1, done ++ [92, 35], t, by rw [Value.string.injEq, ByteArray.ext_iff]; simp, by go_num, ha.tail, by rw [HD.out, slash_yes (b := ((0 : Nat) == 0)) t (.inr ⟨rfl, rfl⟩), show slash1 35 = 35 from rfl]; simp, hbl.trans (hb1.mono hsw), rfl, by simp; omega⟩
              · have n35 := byte_ne 35 h35 rfl
                go_wp2_with fail
                (with_reducible refine HS.out.mono ?_); rintro e w1 ⟨rfl, hb1⟩
                go_wp2
                go_roundg t.length
                case measure => simp
                case rel => exact ⟨0 + 1, done ++ [c], t, by rw [Value.string.injEq, ByteArray.ext_iff]; simp, by go_num, ha.tail, by rw [HD.out, slash_no t HQ.out (fun _ => h35)]; simp, hbl.trans (hb1.mono hsw), rfl, by simp; omega⟩
            · have hj0 : ((j : Int) == 0) = false := by rw [beq_eq_false_iff_ne]; omega
              go_wp2_with fail
              (with_reducible refine HS.out.mono ?_); rintro e w1 ⟨rfl, hb1⟩
              go_wp2
              go_roundg t.length
              case measure => simp
              case rel => exact ⟨j + 1, done ++ [c], t, by rw [Value.string.injEq, ByteArray.ext_iff]; simp, by go_num, ha.tail, by rw [HD.out, slash_no t HQ.out (fun h => absurd (by simpa using h) h0)]; simp, hbl.trans (hb1.mono hsw), rfl, by simp; omega⟩
          · by_cases h0 : j = 0
            · subst h0
              by_cases h35 : c = 35
              · subst h35
                exact absurd (show (9 : Int) ≤ ((35 : UInt8).toNat : Int) by decide) h9
              · have n35 := byte_ne 35 h35 rfl
                go_wp2_with fail
                (with_reducible refine HS.out.mono ?_); rintro e w1 ⟨rfl, hb1⟩
                go_wp2
                go_roundg t.length
                case measure => simp
                case rel => exact ⟨0 + 1, done ++ [c], t, by rw [Value.string.injEq, ByteArray.ext_iff]; simp, by go_num, ha.tail, by rw [HD.out, slash_no t HQ.out (fun _ => h35)]; simp, hbl.trans (hb1.mono hsw), rfl, by simp; omega⟩
            · have hj0 : ((j : Int) == 0) = false := by rw [beq_eq_false_iff_ne]; omega
              go_wp2_with fail
              (with_reducible refine HS.out.mono ?_); rintro e w1 ⟨rfl, hb1⟩
              go_wp2
              go_roundg t.length
              case measure => simp
              case rel => exact ⟨j + 1, done ++ [c], t, by rw [Value.string.injEq, ByteArray.ext_iff]; simp, by go_num, ha.tail, by rw [HD.out, slash_no t HQ.out (fun h => absurd (by simpa using h) h0)]; simp, hbl.trans (hb1.mono hsw), rfl, by simp; omega⟩
set_option maxRecDepth 100000 in
set_option maxHeartbeats 4000000 in
theorem quoteR_fn (s : Str) (hs : s.length ≤ 1000000) (w : World) :
    Calls Tryd.prog 33 #[.string ⟨s.toArray⟩] w fun e w' => e = .returned (.string ⟨(quote s).toArray⟩) ∧ Below w.heap.size w w' := by
  cases s with
  | nil =>
    go_enter Tryd.func33, Tryd.ntmps33
    go_wp2
    go_ret
    exact ⟨rfl, Below.refl _ _⟩
  | cons c0 t0 =>
  have hsz : (⟨(c0 :: t0).toArray⟩ : ByteArray).size = (c0 :: t0).length := Lib.size_mk _
  have hx0 : ∀ h, (⟨(c0 :: t0).toArray⟩ : ByteArray)[0]'h = c0 := fun h => rfl
  have hemp : (c0 :: t0).isEmpty = false := rfl
  have hpos : 0 < (c0 :: t0).length := by simp
  have hst : At (c0 :: t0) (c0 :: t0) 0 := At.start _
  have hp2 : plainW (c0 :: t0) = (((c0.toNat : Int) != 35) && (c0 :: t0).all fun c => !special c) := by
    rw [show ((c0.toNat : Int) != 35) = (c0 != 35) by
      by_cases h : c0 = 35
      · subst h; rfl
      · rw [byte_ne' 35 h rfl]; exact (show (c0 != 35) = true by simpa using h).symm]
    rfl
  have hq : quote (c0 :: t0) = if plainW (c0 :: t0) = true then c0 :: t0 else if balanced (c0 :: t0) = true then 123 :: (c0 :: t0 ++ [125]) else slash true (c0 :: t0) := by
    unfold quote
    rw [if_neg (by simp)]
  generalize c0 :: t0 = s at *
  obtain ⟨R, hR⟩ : ∃ R, R = quote s := ⟨_, rfl⟩
  rw [← hR] at hq ⊢
  have hcat := cat3 s
  have HP := hid hp2
  have HQ := hid hq
  have HJ := hid hcat
  clear hp2 hq hR hcat
  go_enter Tryd.func33, Tryd.ntmps33
  go_wp2_with fail
  go_loopg [3, 12] s.length (fun k bv iv wr => ∃ (i : Nat) (b : Bool) (rest : Str), bv = .bool b ∧ iv = .int .i64 (i : Nat) ∧ At s rest i ∧ plainW s = (b && rest.all fun c => !special c) ∧ Below w.heap.size w wr ∧ k = rest.length)
  case atStart => exact ⟨0, ((c0.toNat : Int) != 35), s, rfl, rfl, hst, HP.out, Below.refl _ _, rfl⟩
  case round =>
    obtain ⟨i, b, rest, rfl, rfl, ha, hb, hbl, rfl⟩ := hrel
    have HB2 := hid hb
    clear hb HP hx0
    have hsw := hbl.size
    have hle : i ≤ s.length := by have := ha.len; omega
    cases rest with
    | nil =>
      have hge : s.length ≤ i := ha.nil_iff.1 rfl
      cases b with
      | true =>
        have hR2 : R = s := by rw [HQ.out, if_pos (show plainW s = true from HB2.out)]
        have HR := hid hR2
        clear hR2
        go_wp2
        go_ret
        rw [HR.out]
        exact ⟨rfl, hbl⟩
      | false =>
        have hbc := balancedR_fn s hs wr
        have hn : ¬ plainW s = true := by rw [HB2.out]; simp
        cases hbal : balanced s with
        | true =>
          rw [hbal] at hbc
          have hR2 : R = 123 :: (s ++ [125]) := by rw [HQ.out, if_neg hn, if_pos hbal]
          have HC := hid hbc
          have HR := hid hR2
          clear hR2 hbc hn hbal
          go_wp2_with fail
          (with_reducible refine HC.out.mono ?_); rintro e w1 ⟨rfl, hw⟩; subst w1
          go_wp2
          go_ret
          rw [HR.out]
          exact ⟨rfl, hbl⟩
        | false =>
          rw [hbal] at hbc
          have hR2 : R = slash true s := by rw [HQ.out, if_neg hn, if_neg (by rw [hbal]; simp)]
          have hsl := slashed_fn s hs wr
          rw [← hR2] at hsl
          have HC := hid hbc
          have HS := hid hsl
          clear hR2 hbc hn hbal hsl
          go_wp2_with fail
          (with_reducible refine HC.out.mono ?_); rintro e w1 ⟨rfl, hw⟩; subst w1
          go_wp2_with fail
          (with_reducible refine HS.out.mono ?_); rintro e w1 ⟨rfl, hb1⟩
          go_wp2
          go_ret
          exact ⟨rfl, hbl.trans (hb1.mono hsw)⟩
    | cons c t =>
      have hlt := ha.lt
      have hx := ha.byte
      have hlen := ha.len
      cases b with
      | false =>
        have hq : plainW s = (false && t.all fun c => !special c) := by rw [HB2.out]; rfl
        have HQ2 := hid hq
        clear hq HB2
        go_wp2
        go_roundg t.length
        case measure => simp
        case rel => exact ⟨i + 1, false, t, rfl, by go_num, ha.tail, HQ2.out, hbl, rfl⟩
      | true =>
        have hsp := specialR_fn c wr
        have hq := HB2.out
        rw [List.all_cons, Bool.true_and] at hq
        obtain ⟨S, hS⟩ : ∃ S, S = special c := ⟨_, rfl⟩
        rw [← hS] at hsp hq
        have HS := hid hsp
        have HQ2 := hid hq
        clear hS hsp hq HB2
        go_wp2_with fail
        (with_reducible refine HS.out.mono ?_); rintro e w1 ⟨rfl, hb1⟩
        go_wp2
        go_roundg t.length
        case measure => simp
        case rel => exact ⟨i + 1, !S, t, rfl, by go_num, ha.tail, HQ2.out, hbl.trans (hb1.mono hsw), rfl⟩
end Go.Proofs.YtkgpmkkodpjdfaaDoor.Pz
/-
  The reference's Quoted; Literal.
-/
namespace Go.Proofs.YtkgpmkkodpjdfaaDoor.Pz
open Go.RowKit
theorem quotedL_len : ∀ (l : List Str), (quotedL l).length ≤ 2 * sumLen l + 3 * l.length
  | [] => Nat.zero_le _
  | [s] => by
    have := quote_len s
    show (quote s).length ≤ 2 * (s.length + 0) + 3 * 1
    omega
  | s :: s' :: l => by
    have h1 := quote_len s
    have h2 := quotedL_len (s' :: l)
    rw [quotedL_two, sumLen]
    simp only [List.length_append, List.length_cons] at h2 ⊢
    omega
set_option maxRecDepth 100000 in
set_option maxHeartbeats 2000000 in
theorem quotedR_fn (l : List Str) (v : Value) (w : World) (hv : StrsAt w v l) (h1 : l.length ≤ 10000) (h2 : ∀ s ∈ l, s.length ≤ 65536) (h3 : (quotedL l).length ≤ 65536) :
    Calls Tryd.prog 15 #[v] w fun e w' => e = .returned (.string ⟨(quotedL l).toArray⟩) ∧ Below w.heap.size w w' := by
  obtain ⟨a, cap, rfl, hcap, hcell⟩ := hv
  obtain ⟨n, hn⟩ : ∃ n, n = l.length := ⟨_, rfl⟩
  have HV := hid hcell
  have HT := hid (quotedL_take l)
  have HL := hid (quotedL_take_le l)
  have H2 := hid h2
  have H3 := hid h3
  have HN := hid hn
  rw [← hn] at hcap h1 ⊢
  clear hcell h2 h3 hn
  go_enter Tryd.func15, Tryd.ntmps15
  go_wp2_with fail
  go_loopg [3, 8] n (fun k sv iv wr => ∃ (i : Nat) (Q0 : Str), sv = .string ⟨Q0.toArray⟩ ∧ iv = .int .i64 (i : Nat) ∧ i ≤ n ∧ Q0 = quotedL (l.take i) ∧ Below w.heap.size w wr ∧ k = n - i)
  case atStart => exact ⟨0, [], rfl, rfl, Nat.zero_le _, rfl, Below.refl _ _, by simp⟩
  case round =>
    obtain ⟨i, Q0, rfl, rfl, hi, hQ0, hbl, rfl⟩ := hrel
    have hsw := hbl.size
    rcases Nat.lt_or_ge i n with hlt | hge
    · have hlt' : i < l.length := by rw [← HN.out]; exact hlt
      obtain ⟨p, rfl, hbb, hcw⟩ := HV.out i hlt'
      have hcw1 : wr.cell? (p.add i) = some (.string ⟨l[i].toArray⟩) := by rw [hbl.cell (p := p.add i) (by rw [add_block]; exact hbb)]; exact hcw
      have hs := H2.out l[i] (List.getElem_mem hlt')
      have ht := HT.out i hlt'
      have hle := HL.out (n - (i + 1)) (i + 1) (by rw [← HN.out]; omega)
      have hl3 := H3.out
      generalize l[i] = s at hcw hcw1 hs ht
      obtain ⟨Q, hQ⟩ : ∃ Q, Q = quotedL (l.take (i + 1)) := ⟨_, rfl⟩
      rw [← hQ, ← hQ0] at ht
      rw [← hQ] at hle
      have HC := hid (quoteR_fn s (by omega) wr)
      obtain ⟨q, hq⟩ : ∃ q, q = quote s := ⟨_, rfl⟩
      rw [← hq] at HC ht
      have HQ := hid hQ
      have HQ0 := hid hQ0
      have HT2 := hid ht
      have hqz : (⟨q.toArray⟩ : ByteArray).size = q.length := Lib.size_mk _
      have hzz : (⟨Q0.toArray⟩ : ByteArray).size = Q0.length := Lib.size_mk _
      have hQle : Q.length ≤ 65536 := by omega
      clear hQ ht hcw hq hle hl3
      by_cases h0 : i = 0
      · subst h0
        replace hcw1 : wr.cell? p = some (.string ⟨s.toArray⟩) := hcw1
        have hz : Q0 = [] := HQ0.out
        subst hz
        have hqQ : Q = q := HT2.out.trans (if_pos rfl)
        subst hqQ
        clear hQ0
        go_wp2_with fail
        (with_reducible refine HC.out.mono ?_); rintro e w1 ⟨rfl, hb1⟩
        go_wp2
        go_roundg (n - (0 + 1))
        case measure => omega
        case rel => exact ⟨0 + 1, Q, by rw [Value.string.injEq, ByteArray.ext_iff]; simp, by go_num, by omega, HQ.out, hbl.trans (hb1.mono hsw), rfl⟩
      · have hi0 : (0 : Int) < (i : Int) := by omega
        have hqQ : Q = Q0 ++ 32 :: q := HT2.out.trans (if_neg h0)
        have hl2 : Q0.length + 1 + q.length ≤ 65536 := by rw [hqQ] at hQle; simp at hQle; omega
        have HQQ := hid hqQ
        clear hQ0 hqQ
        go_wp2_with fail
        (with_reducible refine HC.out.mono ?_); rintro e w1 ⟨rfl, hb1⟩
        go_wp2
        go_roundg (n - (i + 1))
        case measure => omega
        case rel => exact ⟨i + 1, Q, by rw [HQQ.out, Value.string.injEq, ByteArray.ext_iff]; simp, by go_num, by omega, HQ.out, hbl.trans (hb1.mono hsw), rfl⟩
    · obtain rfl : i = n := by omega
      have hR : Q0 = quotedL l := by rw [hQ0, List.take_of_length_le (by rw [← HN.out]; exact Nat.le_refl _)]
      have HR := hid hR
      clear hR hQ0
      go_wp2
      go_ret
      rw [HR.out]
      exact ⟨rfl, hbl⟩
set_option maxRecDepth 100000 in
theorem literalW_fn {w : World} {ok : Nat → Prop} {v : Value} {s : Str} (h : ToksIs 38 w ok v [Tok.txt s]) :
    Calls Tryd.prog 16 #[.agg #[.bool false, v]] w fun e w' => e = .returned (.tuple #[.string ⟨s.toArray⟩, .bool true]) ∧ Below w.heap.size w w' := by
  obtain ⟨g, cap, k, s', b', ix, u, rfl, hx, _, x0, x1, _, _⟩ := tok_at (ts := [Tok.txt s]) h (i := 0) (by simp)
  obtain ⟨rfl, rfl, rfl, rfl⟩ := Tok.mk.inj (show Tok.mk 1 s false [] = .mk k s' b' ix from hx)
  have hg : g < w.heap.size := by
    obtain ⟨css, hrow, _⟩ := h
    exact (ownsRow_lt hrow g rfl).1
  have hbl : Below w.heap.size w (w.alloc (.cells #[.bool false, .slice (some ⟨g, 0, none⟩) 1 cap] 44)) := (Below.refl _ _).alloc (Nat.le_refl _) _
  have y0 : (w.alloc (.cells #[.bool false, .slice (some ⟨g, 0, none⟩) 1 cap] 44)).cell? ⟨g, 0, none⟩ = some (.int .i64 1) := by rw [hbl.cell hg]; exact x0
  have y1 : (w.alloc (.cells #[.bool false, .slice (some ⟨g, 0, none⟩) 1 cap] 44)).cell? ⟨g, 1, none⟩ = some (.string ⟨s.toArray⟩) := by rw [hbl.cell hg]; exact x1
  clear x0 x1 h hx
  go_enter Tryd.func16, Tryd.ntmps16
  go_wp2
  go_ret2
  exact ⟨rfl, hbl⟩
end Go.Proofs.YtkgpmkkodpjdfaaDoor.Pz
