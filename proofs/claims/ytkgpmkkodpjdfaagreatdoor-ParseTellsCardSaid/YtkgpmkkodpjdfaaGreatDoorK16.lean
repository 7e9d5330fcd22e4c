/-
  Part K16 of the proofs of this seat: contracts of functions and plain facts, merged from 2 texts.
-/
import Derived.Test.YtkgpmkkodpjdfaaGreatDoorK15
namespace Go.Proofs.YtkgpmkkodpjdfaaGreatDoor.Pz
def special (c : UInt8) : Bool := white c || [34, 92, 123, 125, 36, 91, 93, 59].contains c
def bal : Nat → Str → Bool
  | d, [] => d == 0
  | d, c :: t =>
    if c == 92 then
      match t with
      | [] => false
      | _ :: t' => bal d t'
    else if c == 123 then bal (d + 1) t
    else if c == 125 then
      match d with
      | 0 => false
      | d' + 1 => bal d' t
    else bal d t
def hasBN : Str → Bool
  | [] => false
  | c :: t => (c == 92 && t.head? == some 10) || hasBN t
def balanced (s : Str) : Bool := bal 0 s && !hasBN s
def slash1 (c : UInt8) : UInt8 := if c == 9 then 116 else if c == 10 then 110 else if c == 11 then 118 else if c == 12 then 102 else if c == 13 then 114 else c
def slash : Bool → Str → Str
  | _, [] => []
  | first, c :: t => if special c || (first && c == 35) then 92 :: slash1 c :: slash false t else c :: slash false t
def plainW (s : Str) : Bool := s.head? != some 35 && s.all fun c => !special c
def quote (s : Str) : Str := if s.isEmpty then [123, 125] else if plainW s then s else if balanced s then 123 :: (s ++ [125]) else slash true s
def quotedL : List Str → Str
  | [] => []
  | [s] => quote s
  | s :: l => quote s ++ 32 :: quotedL l
theorem brace_bal (r : Str) : ∀ (n : Nat) (s : Str), s.length ≤ n → ∀ d, bal d s = true → brace d (s ++ 125 :: r) = some (s, r)
  | n, [], _, d, h => by
    have hd : d = 0 := by simpa [bal] using h
    subst hd
    show brace 0 (125 :: r) = _
    rw [brace.eq_def]
    rfl
  | 0, c :: t, hn, _, _ => absurd hn (by simp)
  | n + 1, c :: t, hn, d, h => by
    have ht : t.length ≤ n := by simpa using hn
    rw [bal.eq_def] at h
    rw [List.cons_append, brace.eq_def]
    dsimp only at h ⊢
    by_cases h1 : (c == 92) = true
    · rw [if_pos h1] at h ⊢
      cases t with
      | nil => cases h
      | cons e t' =>
        have hi := brace_bal r n t' (by simp at ht; omega) d h
        rw [List.cons_append]
        dsimp only
        rw [hi]
        rfl
    · rw [if_neg h1] at h ⊢
      by_cases h2 : (c == 123) = true
      · rw [if_pos h2] at h ⊢
        rw [brace_bal r n t ht _ h]; rfl
      · rw [if_neg h2] at h ⊢
        by_cases h3 : (c == 125) = true
        · rw [if_pos h3] at h ⊢
          cases d with
          | zero => cases h
          | succ d' =>
            dsimp only at h ⊢
            rw [brace_bal r n t ht _ h]; rfl
        · rw [if_neg h3] at h ⊢
          rw [brace_bal r n t ht _ h]; rfl
theorem joined_same : ∀ (n : Nat) (s : Str), s.length ≤ n → hasBN s = false → joined false s = s
  | _, [], _, _ => rfl
  | 0, c :: t, hn, _ => absurd hn (by simp)
  | n + 1, c :: t, hn, h => by
    have ht : t.length ≤ n := by simpa using hn
    rw [hasBN, Bool.or_eq_false_iff] at h
    rw [joined.eq_def]
    dsimp only
    rw [if_neg (by simp)]
    by_cases h1 : (c == 92) = true
    · rw [if_pos h1]
      have hc : c = 92 := by simpa using h1
      subst hc
      cases t with
      | nil => rfl
      | cons e t' =>
        have he : (e == 10) = false := by
          have := h.1
          simpa using this
        dsimp only
        rw [if_neg (by rw [he]; simp)]
        have h2 := h.2
        rw [hasBN, Bool.or_eq_false_iff] at h2
        rw [joined_same n t' (by simp at ht; omega) h2.2]
    · rw [if_neg h1, joined_same n t ht h.2]
theorem byte_nat {c : UInt8} {n : Nat} (h : c.toNat = n) : c = UInt8.ofNat n := by
  subst h
  simp
theorem white_cases {c : UInt8} (h : white c = true) : c = 9 ∨ c = 10 ∨ c = 11 ∨ c = 12 ∨ c = 13 ∨ c = 32 := by
  simp only [white, Bool.or_eq_true, Bool.and_eq_true, decide_eq_true_eq, beq_iff_eq] at h
  rcases h with ⟨h1, h2⟩ | h
  · have h1 : 9 ≤ c.toNat := h1
    have h2 : c.toNat ≤ 13 := h2
    have h3 : c.toNat = 9 ∨ c.toNat = 10 ∨ c.toNat = 11 ∨ c.toNat = 12 ∨ c.toNat = 13 := by omega
    rcases h3 with h | h | h | h | h
    · exact .inl (byte_nat h)
    · exact .inr (.inl (byte_nat h))
    · exact .inr (.inr (.inl (byte_nat h)))
    · exact .inr (.inr (.inr (.inl (byte_nat h))))
    · exact .inr (.inr (.inr (.inr (.inl (byte_nat h)))))
  · exact .inr (.inr (.inr (.inr (.inr h))))
def Slashy (c : UInt8) : Prop := c = 9 ∨ c = 10 ∨ c = 11 ∨ c = 12 ∨ c = 13 ∨ c = 32 ∨ c = 34 ∨ c = 92 ∨ c = 123 ∨ c = 125 ∨ c = 36 ∨ c = 91 ∨ c = 93 ∨ c = 59 ∨ c = 35
theorem slashy {c : UInt8} (h : special c = true ∨ c = 35) : Slashy c := by
  unfold Slashy
  rcases h with h | rfl
  · rw [special, Bool.or_eq_true] at h
    rcases h with h | h
    · rcases white_cases h with rfl | rfl | rfl | rfl | rfl | rfl <;> simp
    · simp at h
      rcases h with rfl | rfl | rfl | rfl | rfl | rfl | rfl | rfl <;> simp
  · simp
theorem unesc_slash {c : UInt8} (h : Slashy c) (t : Str) : unesc (slash1 c :: t) = ([c], t) := by
  rcases h with rfl | rfl | rfl | rfl | rfl | rfl | rfl | rfl | rfl | rfl | rfl | rfl | rfl | rfl | rfl <;>
    simp [unesc, unesc1, slash1, named1, digs, digv, hexv]
theorem ended_slash {c : UInt8} (h : Slashy c) (t : Str) : ended false (92 :: slash1 c :: t) = false := by
  rcases h with rfl | rfl | rfl | rfl | rfl | rfl | rfl | rfl | rfl | rfl | rfl | rfl | rfl | rfl | rfl <;> rfl
theorem plain_facts {c : UInt8} (h : special c = false) : white c = false ∧ c ≠ 92 ∧ c ≠ 36 ∧ c ≠ 91 ∧ c ≠ 123 ∧ c ≠ 34 ∧ c ≠ 59 ∧ c ≠ 10 := by
  rw [special, Bool.or_eq_false_iff] at h
  obtain ⟨hw, hc⟩ := h
  refine ⟨hw, ?_, ?_, ?_, ?_, ?_, ?_, ?_⟩
  all_goals
    rintro rfl
    first
      | exact absurd hc (by decide)
      | exact absurd hw (by decide)
theorem ended_plain {c : UInt8} (h : special c = false) (t : Str) : ended false (c :: t) = false := by
  obtain ⟨h1, h2, _, _, _, _, h7, h8⟩ := plain_facts h
  have hj : joins (c :: t) = false := by
    unfold joins
    split
    · rename_i e
      simp only [List.cons.injEq] at e
      exact absurd e.1 h2
    · rfl
  have hp : parted false (c :: t) = false := by
    show (c == 10 || c == 59 || (false && c == 93)) = false
    simp [h7, h8]
  unfold ended
  rw [hp, hj]
  show (false || white c || false) = false
  rw [h1]
  rfl
theorem parts_slash (d : Nat) (r : Str) (hr : ended false r = true) : ∀ (s : Str) (b : Bool), parts (.bare false) all3 d (slash b s ++ r) = .ok (if s.isEmpty then [] else [Tok.txt s]) r
  | [], _ => parts_end (f := .bare false) hr _ _
  | c :: t, b => by
    have ih := parts_slash d r hr t false
    rw [slash]
    by_cases h : (special c || (b && c == 35)) = true
    · rw [if_pos h]
      have hc : Slashy c := slashy (by
        rw [Bool.or_eq_true, Bool.and_eq_true, beq_iff_eq] at h
        exact h.imp id (fun h => h.2))
      rw [show 92 :: slash1 c :: slash false t ++ r = 92 :: slash1 c :: (slash false t ++ r) from rfl, parts_cons (show (Upto.bare false).ends _ = false from ended_slash hc _), if_pos (by rfl), unesc_slash hc]
      dsimp only
      rw [ih]
      cases t <;> rfl
    · rw [if_neg h]
      have hs : special c = false := by
        cases hx : special c
        · rfl
        · rw [hx] at h; exact absurd rfl h
      obtain ⟨_, h2, h3, h4, _⟩ := plain_facts hs
      rw [show c :: slash false t ++ r = c :: (slash false t ++ r) from rfl]
      rw [parts_cons (show (Upto.bare false).ends _ = false from ended_plain hs _), if_neg (by simp [h2]), if_neg (by simp [h3]), if_neg (by simp [h4]), ih]
      cases t <;> rfl
theorem slash_plain : ∀ (s : Str), (s.all fun c => !special c) = true → slash false s = s
  | [], _ => rfl
  | c :: t, h => by
    rw [List.all_cons, Bool.and_eq_true] at h
    have hc : special c = false := by simpa using h.1
    rw [slash, if_neg (by simp [hc]), slash_plain t h.2]
theorem quote_plain {s : Str} (h : plainW s = true) : slash true s = s := by
  cases s with
  | nil => rfl
  | cons c t =>
    rw [plainW, Bool.and_eq_true, List.all_cons, Bool.and_eq_true] at h
    have hc : special c = false := by simpa using h.2.1
    have h35 : c ≠ 35 := by
      rintro rfl
      exact absurd h.1 (by simp)
    rw [slash, if_neg (by simp [hc, h35]), slash_plain t h.2.2]
theorem slash_head {c : UInt8} {t : Str} : ∃ e u, slash true (c :: t) = e :: u ∧ e ≠ 123 ∧ e ≠ 34 ∧ e ≠ 35 ∧ ∀ r, ended false (e :: u ++ r) = false := by
  rw [slash]
  by_cases h : (special c || (true && c == 35)) = true
  · rw [if_pos h]
    have hc : Slashy c := slashy (by
      rw [Bool.or_eq_true, Bool.and_eq_true, beq_iff_eq] at h
      exact h.imp id (fun h => h.2))
    exact ⟨_, _, rfl, by decide, by decide, by decide, fun r => ended_slash hc _⟩
  · rw [if_neg h]
    have hs : special c = false := by
      cases hx : special c
      · rfl
      · rw [hx] at h; exact absurd rfl h
    obtain ⟨_, _, _, _, h5, h6, _⟩ := plain_facts hs
    refine ⟨_, _, rfl, h5, h6, ?_, fun r => ended_plain hs _⟩
    rintro rfl
    exact h (by simp)
theorem word_quote1 (s r : Str) (hr : ended false r = true) : (∃ e u, quote s = e :: u ∧ e ≠ 35 ∧ ∀ r, ended false (e :: u ++ r) = false) ∧ word false 0 (quote s ++ r) = .ok ⟨false, [Tok.txt s]⟩ r := by
  have braced : ∀ s : Str, bal 0 s = true → hasBN s = false → word false 0 (123 :: (s ++ [125]) ++ r) = .ok ⟨false, [Tok.txt s]⟩ r := by
    intro s h1 h2
    rw [show 123 :: (s ++ [125]) ++ r = 123 :: (s ++ 125 :: r) by simp, word_brace, brace_bal r s.length s (Nat.le_refl _) 0 h1]
    dsimp only
    rw [hr, if_neg (by simp), if_pos rfl, joined_same s.length s (Nat.le_refl _) h2]
  have bare : ∀ c t, word false 0 (slash true (c :: t) ++ r) = .ok ⟨false, [Tok.txt (c :: t)]⟩ r := by
    intro c t
    have hp := parts_slash 0 r hr (c :: t) true
    obtain ⟨e, u, he, h1, h2, _⟩ := slash_head (c := c) (t := t)
    rw [he] at hp ⊢
    exact word_of h1 h2 hp
  unfold quote
  cases s with
  | nil => exact ⟨⟨_, _, rfl, by decide, fun r => rfl⟩, braced [] rfl rfl⟩
  | cons c t =>
    rw [if_neg (by simp)]
    obtain ⟨e, u, he, _, _, h3, h4⟩ := slash_head (c := c) (t := t)
    by_cases h1 : plainW (c :: t) = true
    · rw [if_pos h1]
      have hq := quote_plain h1
      refine ⟨⟨e, u, ?_, h3, h4⟩, ?_⟩
      · rw [← he, hq]
      · have := bare c t
        rwa [hq] at this
    · rw [if_neg h1]
      by_cases h2 : balanced (c :: t) = true
      · rw [if_pos h2]
        rw [balanced, Bool.and_eq_true] at h2
        exact ⟨⟨_, _, rfl, by decide, fun r => rfl⟩, braced _ h2.1 (by simpa using h2.2)⟩
      · rw [if_neg h2]
        exact ⟨⟨e, u, he, h3, h4⟩, bare c t⟩
theorem blanks_at : ∀ {c : UInt8} {t : Str}, ended false (c :: t) = false → blanks (c :: t) = c :: t
  | c, [], h => by
    have hw : white c = false := by
      cases hx : white c
      · rfl
      · exfalso
        unfold ended at h
        rw [Bool.or_eq_false_iff, Bool.or_eq_false_iff] at h
        have := h.1.2
        dsimp only at this
        rw [hx] at this
        cases this
    rw [blanks, if_neg (by simp [hw])]
  | c, d :: t, h => by
    unfold ended at h
    rw [Bool.or_eq_false_iff, Bool.or_eq_false_iff] at h
    have hw : white c = false := h.1.2
    have hj : ¬ (c == 92 && d == 10) = true := by
      intro hx
      rw [Bool.and_eq_true, beq_iff_eq, beq_iff_eq] at hx
      obtain ⟨rfl, rfl⟩ := hx
      exact absurd h.2 (by simp [joins])
    rw [blanks, if_neg hj, if_neg (by simp [hw])]
theorem blanks_sp : ∀ {t : Str}, blanks (32 :: t) = blanks t
  | [] => rfl
  | _ :: _ => rfl
theorem quotedL_two (s s' : Str) (l : List Str) : quotedL (s :: s' :: l) = quote s ++ 32 :: quotedL (s' :: l) := by
  rw [quotedL]
  simp
def asWord (s : Str) : Wd := ⟨false, [Tok.txt s]⟩
theorem quotedL_head (s : Str) (l : List Str) : ∃ e u, quotedL (s :: l) = e :: u ∧ e ≠ 35 ∧ ended false (e :: u) = false := by
  obtain ⟨⟨e, u, h1, h2, h3⟩, _⟩ := word_quote1 s [] rfl
  cases l with
  | nil =>
    refine ⟨e, u, h1, h2, ?_⟩
    have := h3 []
    simpa using this
  | cons s' l' =>
    exact ⟨e, u ++ 32 :: quotedL (s' :: l'), by rw [quotedL_two, h1]; rfl, h2, h3 _⟩
theorem parted_of_ended {w : Bool} {l : Str} (h : ended w l = false) : parted w l = false := by
  unfold ended at h
  rw [Bool.or_eq_false_iff, Bool.or_eq_false_iff] at h
  exact h.1.1
theorem command_quoted : ∀ (l : List Str) (s : Str), command false 0 (quotedL (s :: l)) = .ok ((s :: l).map asWord) []
  | [], s => by
    obtain ⟨e, u, h1, _, h3⟩ := quotedL_head s []
    have hw := (word_quote1 s [] rfl).2
    rw [List.append_nil] at hw
    rw [h1]
    refine cmd_one (parted_of_ended h3) h3 (x := asWord s) (r := []) (b := []) ?_ rfl (command_end rfl 0)
    rw [← h1]
    exact hw
  | s' :: l, s => by
    obtain ⟨e, u, h1, _, h3⟩ := quotedL_head s (s' :: l)
    obtain ⟨e', u', k1, _, k3⟩ := quotedL_head s' l
    have hw := (word_quote1 s (32 :: quotedL (s' :: l)) rfl).2
    have ih := command_quoted l s'
    rw [h1]
    refine cmd_one (parted_of_ended h3) h3 (x := asWord s) (r := 32 :: quotedL (s' :: l)) ?_ (b := quotedL (s' :: l)) ?_ ih
    · rw [← h1]
      exact hw
    · rw [blanks_sp, k1, blanks_at k3]
theorem quoted_law (s : Str) (l : List Str) : commands false 0 (quotedL (s :: l)) = .ok [⟨(quotedL (s :: l)).length, (s :: l).map asWord⟩] [] := by
  obtain ⟨e, u, h1, h2, h3⟩ := quotedL_head s l
  have hc := command_quoted l s
  rw [h1] at hc ⊢
  exact cmds_one (blanks_at h3) rfl (parted_of_ended h3) (by simpa using h2) hc (by rw [cmds_nil rfl]; rfl)
mutual
def Tok.wt : Tok → Nat
  | .mk _ s _ ix => 1 + s.length + wts ix
def wts : List Tok → Nat
  | [] => 0
  | t :: ts => t.wt + wts ts
end
mutual
def Tok.fit (n : Nat) : Tok → Prop
  | .mk k s hx ix => (k = 3 → s.length < n) ∧ (ix ≠ [] → k = 2 ∧ hx = true) ∧ fits n ix
def fits (n : Nat) : List Tok → Prop
  | [] => True
  | t :: ts => t.fit n ∧ fits n ts
end
def wws : List Wd → Nat
  | [] => 0
  | x :: xs => 1 + wts x.toks + wws xs
def wcs : List Cmd → Nat
  | [] => 0
  | c :: cs => 1 + wws c.words + wcs cs
def wfit (n : Nat) (xs : List Wd) : Prop := ∀ x ∈ xs, fits n x.toks
def cfit (n : Nat) (cs : List Cmd) : Prop := ∀ c ∈ cs, wfit n c.words
mutual
theorem Tok.fit_mono {n m : Nat} (h : n ≤ m) : ∀ (t : Tok), t.fit n → t.fit m
  | .mk k s hx ix, h' => by
    rw [Tok.fit] at h' ⊢
    exact ⟨fun e => Nat.lt_of_lt_of_le (h'.1 e) h, h'.2.1, fits_mono h ix h'.2.2⟩
theorem fits_mono {n m : Nat} (h : n ≤ m) : ∀ (ts : List Tok), fits n ts → fits m ts
  | [], _ => by rw [fits]; trivial
  | t :: ts, h' => by
    rw [fits] at h' ⊢
    exact ⟨Tok.fit_mono h t h'.1, fits_mono h ts h'.2⟩
end
theorem fits_txt (n : Nat) (s : Str) : fits n [Tok.txt s] := by
  rw [fits, fits, Tok.txt, Tok.fit, fits]
  exact ⟨⟨(fun h => by cases h), fun h => absurd rfl h, trivial⟩, trivial⟩
theorem wts_txt (s : Str) : wts [Tok.txt s] = 1 + s.length := by
  rw [wts, wts, Tok.txt, Tok.wt, wts]; rfl
theorem fits_filled {n : Nat} {ts : List Tok} (h : fits n ts) : fits n (filled ts) := by
  unfold filled
  split
  · exact fits_txt n []
  · exact h
theorem wts_filled (ts : List Tok) : wts (filled ts) ≤ 1 + wts ts := by
  unfold filled
  split
  · rw [wts_txt]; simp
  · omega
theorem glue_mk (p : Str) (k : Nat) (s : Str) (h : Bool) (ix ts : List Tok) : glue p (.mk k s h ix :: ts) = if k == 1 then .mk 1 (p ++ s) h ix :: ts else Tok.txt p :: .mk k s h ix :: ts := rfl
theorem fits_glue {n : Nat} {p : Str} {ts : List Tok} (h : fits n ts) : fits n (glue p ts) := by
  cases ts with
  | nil => exact fits_txt n p
  | cons t ts =>
    obtain ⟨k, s, hx, ix⟩ := t
    rw [fits, Tok.fit] at h
    rw [glue_mk]
    by_cases hk : (k == 1) = true
    · rw [if_pos hk, fits, Tok.fit]
      obtain rfl : k = 1 := by simpa using hk
      exact ⟨⟨(fun e => by cases e), h.1.2.1, h.1.2.2⟩, h.2⟩
    · rw [if_neg hk, fits, fits, Tok.fit]
      have := fits_txt n p
      rw [fits] at this
      exact ⟨this.1, h⟩
theorem wts_glue (p : Str) (ts : List Tok) : wts (glue p ts) ≤ 1 + p.length + wts ts := by
  cases ts with
  | nil => show wts [Tok.txt p] ≤ _; rw [wts_txt]; omega
  | cons t ts =>
    obtain ⟨k, s, hx, ix⟩ := t
    rw [glue_mk]
    by_cases hk : (k == 1) = true
    · rw [if_pos hk]
      simp only [wts, Tok.wt, List.length_append]
      omega
    · rw [if_neg hk]
      simp only [wts, Tok.wt, Tok.txt]
      omega
mutual
def Tok.scr : Tok → List Str
  | .mk k s _ ix => (if k == 3 then [s] else []) ++ scrs ix
def scrs : List Tok → List Str
  | [] => []
  | t :: ts => t.scr ++ scrs ts
end
def scrWs (xs : List Wd) : List Str := xs.flatMap fun x => scrs x.toks
def scrCs (cs : List Cmd) : List Str := cs.flatMap fun c => scrWs c.words
def ssum : List Str → Nat
  | [] => 0
  | s :: l => s.length + 2 + ssum l
def lsum : List Str → Nat
  | [] => 0
  | s :: l => s.length + lsum l
def csum : List Cmd → Nat
  | [] => 0
  | c :: cs => 1 + lsum (scrWs c.words) + csum cs
theorem ssum_app (a b : List Str) : ssum (a ++ b) = ssum a + ssum b := by
  induction a with
  | nil => simp [ssum]
  | cons s a ih => simp only [List.cons_append, ssum, ih]; omega
theorem lsum_app (a b : List Str) : lsum (a ++ b) = lsum a + lsum b := by
  induction a with
  | nil => simp [lsum]
  | cons s a ih => simp only [List.cons_append, lsum, ih]; omega
theorem lsum_one (l : List Str) (n : Nat) (h : ssum l ≤ n) (h1 : 1 ≤ n) : 1 + lsum l ≤ n := by
  have : ∀ l : List Str, l = [] ∨ lsum l + 2 ≤ ssum l := by
    intro l
    induction l with
    | nil => exact .inl rfl
    | cons s l ih =>
      refine .inr ?_
      simp only [lsum, ssum]
      rcases ih with rfl | ih
      · simp [lsum, ssum]
      · omega
  rcases this l with rfl | h2
  · simp only [lsum]; omega
  · omega
theorem scrs_txt (s : Str) : scrs [Tok.txt s] = [] := by
  rw [scrs, Tok.txt, Tok.scr, scrs]
  rfl
theorem scrs_filled (ts : List Tok) : scrs (filled ts) = scrs ts := by
  unfold filled
  split
  · rename_i h
    rw [scrs_txt]
    cases ts with
    | nil => rw [scrs]
    | cons => cases h
  · rfl
theorem scrs_glue (p : Str) (ts : List Tok) : scrs (glue p ts) = scrs ts := by
  cases ts with
  | nil => show scrs [Tok.txt p] = _; rw [scrs_txt, scrs]
  | cons t ts =>
    obtain ⟨k, s, hx, ix⟩ := t
    rw [glue_mk]
    by_cases hk : (k == 1) = true
    · rw [if_pos hk, scrs, scrs, Tok.scr, Tok.scr]
      obtain rfl : k = 1 := by simpa using hk
      rfl
    · rw [if_neg hk, scrs]
      rw [Tok.txt, Tok.scr, scrs]
      rfl
theorem digs_len (b : Nat) : ∀ (n v : Nat) (l : Str), (digs b n v l).2.length ≤ l.length := fun n v l => suf_len (digs_suf b n v l)
theorem unesc_len1 (l : Str) : (unesc l).1.length = 1 := by
  cases l with
  | nil => rfl
  | cons c t =>
    show (unesc1 c t).1.length = 1
    unfold unesc1
    split
    · rfl
    · split
      · rfl
      · split
        · split <;> rfl
        · split <;> rfl
theorem joined_len : ∀ (n : Nat) (l : Str), l.length ≤ n → ∀ b, (joined b l).length ≤ l.length
  | _, [], _, _ => by simp [joined]
  | 0, c :: t, h, _ => absurd h (by simp)
  | n + 1, c :: t, h, b => by
    have ht : t.length ≤ n := by simpa using h
    rw [joined_cons]
    split
    · have := joined_len n t ht true; simp; omega
    · split
      · cases t with
        | nil => simp
        | cons e t' =>
          simp only
          have ht' : t'.length ≤ n := by simp at ht; omega
          split
          · have := joined_len n t' ht' true; simp; omega
          · have := joined_len n t' ht' false; simp; omega
      · have := joined_len n t ht false; simp; omega
def CmdsF (w : Bool) (d : Nat) (l : Str) : Prop := ∀ cs r, commands w d l = .ok cs r → cfit l.length cs ∧ wcs cs + 4 * r.length ≤ 4 * l.length ∧ csum cs + r.length ≤ l.length
def CmdF (w : Bool) (d : Nat) (l : Str) : Prop := (parted w l = false → ended w l = false) → ∀ ws r, command w d l = .ok ws r → wfit l.length ws ∧ wws ws + 3 * r.length ≤ 3 * l.length ∧ ssum (scrWs ws) + r.length ≤ l.length
def WordF (w : Bool) (d : Nat) (l : Str) : Prop := ended w l = false → ∀ x r, word w d l = .ok x r → fits l.length x.toks ∧ wts x.toks + 2 * r.length ≤ 2 * l.length ∧ ssum (scrs x.toks) + r.length ≤ l.length
def PartsF (f : Upto) (g : Told) (d : Nat) (l : Str) : Prop := ∀ ts r, parts f g d l = .ok ts r → fits l.length ts ∧ wts ts + 2 * r.length ≤ 2 * l.length ∧ ssum (scrs ts) + r.length ≤ l.length
def VarF (g : Told) (d : Nat) (l : Str) : Prop := ∀ x r, varOf g d l = .ok (some x) r → x.fit (l.length + 1) ∧ x.wt + 2 * r.length ≤ 2 * l.length + 2 ∧ ssum x.scr + r.length ≤ l.length
theorem cmdsF_step {w : Bool} {d : Nat} {l : Str} (ih1 : ∀ l', l'.length < l.length → CmdsF w d l') (ih2 : ∀ l', l'.length ≤ l.length → CmdF w d l') : CmdsF w d l := by
  intro cs r h
  rw [commands] at h
  have hb := blanks_suf l
  have hs := blanks_stop l w
  have hbl := suf_len hb
  rw [dif_pos hbl] at h
  cases hl : blanks l with
  | nil =>
    rw [hl] at h
    simp only [Res.ok.injEq] at h
    obtain ⟨rfl, rfl⟩ := h
    exact ⟨(fun c hc => by cases hc), by simp [wcs], by simp [csum]⟩
  | cons c t =>
    rw [hl] at h hbl hs
    simp only [List.length_cons] at hbl
    dsimp only at h
    by_cases h1 : (w && c == 93) = true
    · rw [if_pos h1] at h
      simp only [Res.ok.injEq] at h
      obtain ⟨rfl, rfl⟩ := h
      exact ⟨(fun c hc => by cases hc), by simp [wcs]; omega, by simp [csum]; omega⟩
    · rw [if_neg h1] at h
      have mono : ∀ {m : Nat} {cs : List Cmd}, m ≤ l.length → cfit m cs → cfit l.length cs := fun hm hc c hc' x hx => fits_mono hm _ (hc c hc' x hx)
      by_cases h2 : parted w (c :: t) = true
      · rw [if_pos h2, dif_pos (by omega)] at h
        obtain ⟨a, b, b2⟩ := ih1 t (by omega) cs r h
        exact ⟨mono (by omega) a, by omega, by omega⟩
      · rw [if_neg h2] at h
        by_cases h3 : (c == 35) = true
        · rw [if_pos h3] at h
          simp at h3
          subst h3
          rw [comment_hash] at h
          have hc := suf_len (comment_suf t false)
          rw [dif_pos (by omega)] at h
          obtain ⟨a, b, b2⟩ := ih1 _ (by omega) cs r h
          exact ⟨mono (by omega) a, by omega, by omega⟩
        · rw [if_neg h3, dif_pos (by simpa using hbl)] at h
          have hp : parted w (c :: t) = false := by simpa using h2
          cases hc : command w d (c :: t) with
          | halt h' => rw [hc] at h; simp at h
          | ok ws r1 =>
            rw [hc] at h
            dsimp only at h
            obtain ⟨_, _, q3⟩ := cmd_ok w d (c :: t) hs ws r1 hc
            have q4 := (q3 hp).1
            obtain ⟨f1, f2, f3⟩ := ih2 (c :: t) (by simpa using hbl) hs ws r1 hc
            simp only [List.length_cons] at q4 f1 f2 f3
            rw [dif_pos (by omega)] at h
            obtain ⟨ts', h', rfl⟩ := Res.cons_ok h
            obtain ⟨a, b, b2⟩ := ih1 r1 (by omega) _ _ h'
            have f4 := lsum_one (scrWs ws) (t.length + 1 - r1.length) (by omega) (by omega)
            refine ⟨fun c' hc' x hx => ?_, ?_, ?_⟩
            · rcases List.mem_cons.1 hc' with rfl | hc'
              · exact fits_mono (by omega) _ (f1 x hx)
              · exact mono (m := r1.length) (by omega) a c' hc' x hx
            · simp only [wcs]; omega
            · simp only [csum]; omega
theorem cmdF_step {w : Bool} {d : Nat} {l : Str} (ih1 : ∀ l', l'.length < l.length → CmdF w d l') (ih2 : WordF w d l) : CmdF w d l := by
  intro he ws r h
  rw [command] at h
  by_cases h1 : parted w l = true
  · rw [if_pos h1] at h
    simp only [Res.ok.injEq] at h
    obtain ⟨rfl, rfl⟩ := h
    exact ⟨(fun c hc => by cases hc), by simp [wws], by simp [scrWs, ssum]⟩
  · rw [if_neg h1] at h
    have hp : parted w l = false := by simpa using h1
    cases hw : word w d l with
    | halt h' => rw [hw] at h; simp at h
    | ok x r1 =>
      rw [hw] at h
      dsimp only at h
      obtain ⟨q1, q2, q3⟩ := word_ok w d l (he hp) x r1 hw
      obtain ⟨f1, f2, f3⟩ := ih2 (he hp) x r1 hw
      have hlen := suf_len (blanks_suf r1)
      rw [dif_pos (by omega)] at h
      obtain ⟨ts', h', rfl⟩ := Res.cons_ok h
      obtain ⟨a, b, b2⟩ := ih1 (blanks r1) (by omega) (blanks_stop r1 w) _ _ h'
      refine ⟨fun y hy => ?_, by simp only [wws]; omega, by simp only [scrWs, List.flatMap_cons, ssum_app] at b2 ⊢; omega⟩
      rcases List.mem_cons.1 hy with rfl | hy
      · exact f1
      · exact fits_mono (by omega) _ (a y hy)
theorem wordF_step {w : Bool} {d : Nat} {l : Str} (ih1 : ∀ l', l'.length < l.length → WordF w d l') (ih2 : ∀ l', l'.length ≤ l.length → ∀ f, PartsF f all3 d l') : WordF w d l := by
  intro he x r h
  cases l with
  | nil => simp [ended, parted] at he
  | cons c t =>
    rw [word] at h
    by_cases h1 : (c == 123) = true
    · rw [if_pos h1] at h
      cases hb : brace 0 t with
      | none => rw [hb] at h; simp at h
      | some y =>
        obtain ⟨s, r1⟩ := y
        rw [hb] at h
        dsimp only at h
        have ht := brace_text t.length t (Nat.le_refl _) 0 s r1 hb
        have hlt : r1.length + s.length + 1 = t.length := by rw [ht]; simp; omega
        by_cases h2 : (s == [42] && !ended w r1) = true
        · rw [if_pos h2, dif_pos (by simp only [List.length_cons]; omega)] at h
          cases hw : word w d r1 with
          | halt h' => rw [hw] at h; simp at h
          | ok x1 r2 =>
            rw [hw] at h
            simp only [Res.ok.injEq] at h
            obtain ⟨rfl, rfl⟩ := h
            simp at h2
            obtain ⟨f1, f2, f3⟩ := ih1 r1 (by simp only [List.length_cons]; omega) h2.2 x1 r2 hw
            simp only [List.length_cons]
            exact ⟨fits_mono (by omega) _ f1, by omega, by omega⟩
        · rw [if_neg h2] at h
          by_cases h3 : ended w r1 = true
          · rw [if_pos h3] at h
            simp only [Res.ok.injEq] at h
            obtain ⟨rfl, rfl⟩ := h
            refine ⟨fits_txt _ _, ?_, by show ssum (scrs [Tok.txt (joined false s)]) + _ ≤ _; rw [scrs_txt]; simp only [ssum, List.length_cons]; omega⟩
            have := joined_len s.length s (Nat.le_refl _) false
            show wts [Tok.txt (joined false s)] + _ ≤ _
            rw [wts_txt]
            simp only [List.length_cons]
            omega
          · rw [if_neg h3] at h; simp at h
    · rw [if_neg h1] at h
      by_cases h2 : (c == 34) = true
      · rw [if_pos h2] at h
        cases hp : parts .quote all3 d t with
        | halt h' => rw [hp] at h; simp at h
        | ok ts r1 =>
          rw [hp] at h
          dsimp only at h
          obtain ⟨f1, f2, f3⟩ := ih2 t (by simp) _ ts r1 hp
          cases r1 with
          | nil => simp at h
          | cons e r2 =>
            dsimp only at h
            by_cases h3 : ended w r2 = true
            · rw [if_pos h3] at h
              simp only [Res.ok.injEq] at h
              obtain ⟨rfl, rfl⟩ := h
              simp only [List.length_cons] at f2 f3 ⊢
              have := wts_filled ts
              exact ⟨fits_mono (by omega) _ (fits_filled f1), by show wts (filled ts) + _ ≤ _; omega, by show ssum (scrs (filled ts)) + _ ≤ _; rw [scrs_filled]; omega⟩
            · rw [if_neg h3] at h; simp at h
      · rw [if_neg h2] at h
        cases hp : parts (.bare w) all3 d (c :: t) with
        | halt h' => rw [hp] at h; simp at h
        | ok ts r1 =>
          rw [hp] at h
          simp only [Res.ok.injEq] at h
          obtain ⟨rfl, rfl⟩ := h
          obtain ⟨f1, f2, f3⟩ := ih2 _ (Nat.le_refl _) _ ts r1 hp
          refine ⟨fits_filled f1, ?_, by show ssum (scrs (filled ts)) + _ ≤ _; rw [scrs_filled]; exact f3⟩
          show wts (filled ts) + _ ≤ _
          have hq := (parts_ok (.bare w) all3 d (c :: t) ts r1 hp).2.2 he
          unfold filled
          split
          · rw [wts_txt]; simp only [List.length_nil]; omega
          · exact f2
theorem partsF_step {f : Upto} {g : Told} {d : Nat} {l : Str} (ih1 : ∀ l', l'.length < l.length → PartsF f g d l') (ih2 : ∀ l', l'.length < l.length → VarF g d l') : PartsF f g d l := by
  intro ts r h
  rw [parts.eq_def] at h
  by_cases h0 : f.ends l = true
  · rw [if_pos h0] at h
    simp only [Res.ok.injEq] at h
    obtain ⟨rfl, rfl⟩ := h
    exact ⟨by rw [fits]; trivial, by rw [wts]; omega, by rw [scrs, ssum]; omega⟩
  rw [if_neg h0] at h
  cases l with
  | nil => exact absurd (ends_nil f) h0
  | cons c t =>
    dsimp only at h
    have gl : ∀ {l' p : Str} {ts'}, l'.length ≤ t.length → p.length = 1 → parts f g d l' = .ok ts' r → ts = glue p ts' → fits (c :: t).length ts ∧ wts ts + 2 * r.length ≤ 2 * (c :: t).length ∧ ssum (scrs ts) + r.length ≤ (c :: t).length := by
      intro l' p ts' hl hp1 hp he
      obtain ⟨q1, q2, q3⟩ := ih1 l' (by simp only [List.length_cons]; omega) _ _ hp
      have := wts_glue p ts'
      rw [he]
      simp only [List.length_cons]
      rw [scrs_glue]
      exact ⟨fits_glue (fits_mono (by omega) _ q1), by omega, by omega⟩
    by_cases h1 : (c == 92 && g.slashes) = true
    · rw [if_pos h1] at h
      have hul := suf_len (unesc_suf t)
      rw [dif_pos (by simp only [List.length_cons]; omega)] at h
      obtain ⟨ts', h', he⟩ := Res.glue_ok h
      exact gl hul (unesc_len1 t) h' he
    rw [if_neg h1] at h
    by_cases h2 : (c == 36 && g.vars) = true
    · rw [if_pos h2] at h
      cases hv : varOf g d t with
      | halt h' => rw [hv] at h; simp at h
      | ok x r1 =>
        obtain ⟨q1, q2⟩ := var_ok g d t x r1 hv
        have hq := suf_len q1
        rw [hv] at h
        cases x with
        | none =>
          obtain ⟨ts', h', he⟩ := Res.glue_ok h
          exact gl (Nat.le_refl _) rfl h' he
        | some y =>
          dsimp only at h
          rw [dif_pos (by simp only [List.length_cons]; omega)] at h
          obtain ⟨ts', h', rfl⟩ := Res.cons_ok h
          obtain ⟨f1, f2, f3⟩ := ih2 t (by simp) y r1 hv
          obtain ⟨p1, p2, p3⟩ := ih1 r1 (by simp only [List.length_cons]; omega) _ _ h'
          simp only [List.length_cons, fits, wts, scrs, ssum_app]
          exact ⟨⟨f1, fits_mono (by omega) _ p1⟩, by omega, by omega⟩
    rw [if_neg h2] at h
    by_cases h3 : (c == 91 && g.scripts) = true
    · rw [if_pos h3] at h
      cases hv : script d t with
      | halt h' => rw [hv] at h; simp at h
      | ok x r1 =>
        have hx := script_ok d t x r1 hv
        have hl : t.length = x.length + 1 + r1.length := by rw [hx]; simp; omega
        rw [hv] at h
        dsimp only at h
        rw [dif_pos (by simp only [List.length_cons]; omega)] at h
        obtain ⟨ts', h', rfl⟩ := Res.cons_ok h
        obtain ⟨p1, p2, p3⟩ := ih1 r1 (by simp only [List.length_cons]; omega) _ _ h'
        have e3 : scrs (Tok.mk 3 x false [] :: ts') = x :: scrs ts' := by rw [scrs, Tok.scr, scrs]; rfl
        rw [e3]
        simp only [List.length_cons, fits, wts, Tok.fit, Tok.wt, ssum]
        exact ⟨⟨⟨fun _ => by omega, fun h => absurd rfl h, trivial⟩, fits_mono (by omega) _ p1⟩, by omega, by omega⟩
    rw [if_neg h3] at h
    obtain ⟨ts', h', he⟩ := Res.glue_ok h
    exact gl (Nat.le_refl _) rfl h' he
theorem varF_step {g : Told} {d : Nat} {l : Str} (ih : ∀ l', l'.length < l.length → PartsF .paren g (d + 1) l') : VarF g d l := by
  intro x r h
  rw [varOf] at h
  by_cases h0 : (l.head? == some 123) = true
  · rw [if_pos h0] at h
    cases l with
    | nil => simp at h0
    | cons c t =>
      simp only [List.tail_cons] at h
      cases hu : upTo t with
      | none => rw [hu] at h; simp at h
      | some y =>
        obtain ⟨s, r1⟩ := y
        rw [hu] at h
        simp only [Res.ok.injEq, Option.some.injEq] at h
        obtain ⟨rfl, rfl⟩ := h
        have ht := upTo_text t s r1 hu
        have hl : t.length = s.length + 1 + r1.length := by rw [ht]; simp; omega
        have e2 : (Tok.mk 2 s false []).scr = [] := by rw [Tok.scr, scrs]; rfl
        rw [e2]
        simp only [List.length_cons, Tok.fit, Tok.wt, fits, wts, ssum]
        exact ⟨⟨(fun e => by cases e), fun h => absurd rfl h, trivial⟩, by omega, by omega⟩
  rw [if_neg h0] at h
  have hn := name_text l false
  cases hnm : name false l with
  | mk s r1 =>
    rw [hnm] at h hn
    dsimp only at h hn
    have hl : l.length = s.length + r1.length := by rw [hn]; simp
    by_cases h1 : s.isEmpty = true
    · rw [if_pos h1] at h
      simp at h
    rw [if_neg h1] at h
    have hs0 : 1 ≤ s.length := by
      cases s with
      | nil => simp at h1
      | cons => simp
    have noix : ∀ {r2 : Str}, r2 = r1 → (Tok.mk 2 s false []).fit (l.length + 1) ∧ (Tok.mk 2 s false []).wt + 2 * r2.length ≤ 2 * l.length + 2 ∧ ssum (Tok.mk 2 s false []).scr + r2.length ≤ l.length := by
      rintro r2 rfl
      have e2 : (Tok.mk 2 s false []).scr = [] := by rw [Tok.scr, scrs]; rfl
      rw [e2]
      simp only [Tok.fit, Tok.wt, fits, wts, ssum]
      exact ⟨⟨(fun e => by cases e), fun h => absurd rfl h, trivial⟩, by omega, by omega⟩
    cases r1 with
    | nil =>
      simp only [Res.ok.injEq, Option.some.injEq] at h
      obtain ⟨rfl, rfl⟩ := h
      exact noix rfl
    | cons c t =>
      dsimp only at h
      simp only [List.length_cons] at hl
      by_cases h2 : (c == 40) = true
      · rw [if_pos h2] at h
        by_cases h3 : (d == maxDeep) = true
        · rw [if_pos h3] at h; simp at h
        rw [if_neg h3, dif_pos (by omega)] at h
        cases hp : parts .paren g (d + 1) t with
        | halt h' => rw [hp] at h; simp at h
        | ok ts r2 =>
          rw [hp] at h
          obtain ⟨q1, q2, q3⟩ := ih t (by omega) ts r2 hp
          cases r2 with
          | nil => simp at h
          | cons e r3 =>
            simp only [Res.ok.injEq, Option.some.injEq] at h
            obtain ⟨rfl, rfl⟩ := h
            simp only [List.length_cons] at q2 q3
            have := wts_filled ts
            have e2 : (Tok.mk 2 s true (filled ts)).scr = scrs ts := by rw [Tok.scr, scrs_filled]; rfl
            rw [e2]
            simp only [Tok.fit, Tok.wt]
            exact ⟨⟨(fun e => by cases e), (fun _ => by simp), fits_mono (by omega) _ (fits_filled q1)⟩, by omega, by omega⟩
      · rw [if_neg h2] at h
        simp only [Res.ok.injEq, Option.some.injEq] at h
        obtain ⟨rfl, rfl⟩ := h
        exact noix rfl
theorem all_f : ∀ (n : Nat), (∀ w d l, l.length * 8 + 5 ≤ n → CmdsF w d l) ∧ (∀ w d l, l.length * 8 + 4 ≤ n → CmdF w d l) ∧ (∀ w d l, l.length * 8 + 3 ≤ n → WordF w d l) ∧
    (∀ f g d l, l.length * 8 + 2 ≤ n → PartsF f g d l) ∧ (∀ g d l, l.length * 8 + 1 ≤ n → VarF g d l) := by
  intro n
  induction n with
  | zero => refine ⟨?_, ?_, ?_, ?_, ?_⟩ <;> intros <;> omega
  | succ n ih =>
    obtain ⟨i1, i2, i3, i4, i6⟩ := ih
    exact ⟨fun w d l h => cmdsF_step (fun l' h' => i1 w d l' (by omega)) (fun l' h' => i2 w d l' (by omega)),
      fun w d l h => cmdF_step (fun l' h' => i2 w d l' (by omega)) (i3 w d l (by omega)),
      fun w d l h => wordF_step (fun l' h' => i3 w d l' (by omega)) (fun l' h' f => i4 f all3 d l' (by omega)),
      fun f g d l h => partsF_step (fun l' h' => i4 f g d l' (by omega)) (fun l' h' => i6 g d l' (by omega)),
      fun g d l h => varF_step (fun l' h' => i4 .paren g (d + 1) l' (by omega))⟩
theorem cmds_f (w : Bool) (d : Nat) (l : Str) : CmdsF w d l := (all_f (l.length * 8 + 5)).1 w d l (Nat.le_refl _)
def cmdsOf (s : Str) : List Cmd :=
  match commands false 0 s with
  | .ok cs _ => cs
  | .halt _ => []
theorem cmdsOf_f (s : Str) : cfit s.length (cmdsOf s) ∧ wcs (cmdsOf s) ≤ 4 * s.length ∧ csum (cmdsOf s) ≤ s.length := by
  unfold cmdsOf
  cases h : commands false 0 s with
  | halt h' => exact ⟨(fun c hc => by cases hc), by simp [wcs], by simp [csum]⟩
  | ok cs r =>
    obtain ⟨a, b, b2⟩ := cmds_f false 0 s cs r h
    refine ⟨a, ?_, ?_⟩
    · show wcs cs ≤ _; omega
    · show csum cs ≤ _; omega
def sVar : Str := [118, 97, 114, 32]
def sIndex : Str := [105, 110, 100, 101, 120, 10]
def sScript : Str := [115, 99, 114, 105, 112, 116, 32]
def sText : Str := [116, 101, 120, 116, 32]
mutual
def Tok.show (pre : Str) : Tok → Str
  | .mk k s hx ix => if k == 2 then pre ++ sVar ++ quote s ++ [10] ++ (if hx then pre ++ sIndex ++ shows (pre ++ [32]) ix else [])
    else if k == 3 then pre ++ sScript ++ quote s ++ [10] else pre ++ sText ++ quote s ++ [10]
def shows (pre : Str) : List Tok → Str
  | [] => []
  | t :: ts => t.show pre ++ shows pre ts
end
def showW (x : Wd) : Str := (if x.spread then [115, 112, 114, 101, 97, 100, 10] else [119, 111, 114, 100, 10]) ++ shows [32] x.toks
def showWs : List Wd → Str
  | [] => []
  | x :: xs => showW x ++ showWs xs
mutual
def Tok.scrR : Tok → List Str
  | .mk k s hx ix => (if k == 3 then [s] else []) ++ (if k == 2 && hx then scrsR ix else [])
def scrsR : List Tok → List Str
  | [] => []
  | t :: ts => t.scrR ++ scrsR ts
end
mutual
theorem Tok.scr_same {n : Nat} : ∀ (t : Tok), t.fit n → t.scrR = t.scr
  | .mk k s hx ix, h => by
    rw [Tok.fit] at h
    rw [Tok.scr, Tok.scrR, ← scrs_same ix h.2.2]
    cases ix with
    | nil => simp [scrsR]
    | cons a b =>
      obtain ⟨rfl, rfl⟩ := h.2.1 (by simp)
      simp
theorem scrs_same {n : Nat} : ∀ (ts : List Tok), fits n ts → scrsR ts = scrs ts
  | [], _ => by rw [scrsR, scrs]
  | t :: ts, h => by
    rw [fits] at h
    rw [scrsR, scrs, Tok.scr_same t h.1, scrs_same ts h.2]
end
mutual
theorem Tok.scr_short {n : Nat} : ∀ (t : Tok), t.fit n → ∀ s ∈ t.scr, s.length < n
  | .mk k s hx ix, h, x, hm => by
    rw [Tok.fit] at h
    rw [Tok.scr, List.mem_append] at hm
    rcases hm with hm | hm
    · by_cases hk : (k == 3) = true
      · rw [if_pos hk] at hm
        obtain rfl : x = s := by simpa using hm
        exact h.1 (by simpa using hk)
      · rw [if_neg hk] at hm; cases hm
    · exact scrs_short ix h.2.2 x hm
theorem scrs_short {n : Nat} : ∀ (ts : List Tok), fits n ts → ∀ s ∈ scrs ts, s.length < n
  | [], _, x, hm => by rw [scrs] at hm; cases hm
  | t :: ts, h, x, hm => by
    rw [fits] at h
    rw [scrs, List.mem_append] at hm
    rcases hm with hm | hm
    · exact Tok.scr_short t h.1 x hm
    · exact scrs_short ts h.2 x hm
end
mutual
theorem Tok.scr_count : ∀ (t : Tok), t.scr.length ≤ t.wt
  | .mk k s hx ix => by
    have := scrs_count ix
    rw [Tok.scr, Tok.wt]
    simp only [List.length_append]
    split <;> simp <;> omega
theorem scrs_count : ∀ (ts : List Tok), (scrs ts).length ≤ wts ts
  | [] => by simp [scrs]
  | t :: ts => by
    have a := Tok.scr_count t
    have b := scrs_count ts
    rw [scrs, wts]
    simp only [List.length_append]
    omega
end
def litOf (x : Wd) : Option Str :=
  match x.spread, x.toks with
  | false, [.mk k s _ _] => if k == 1 then some s else none
  | _, _ => none
def nameOf (c : Cmd) : List Str :=
  match c.words with
  | [] => []
  | x :: _ => (litOf x).toList
def countN : Nat → List Cmd → Nat
  | 0, cs => cs.length
  | n + 1, cs => cs.length + ((scrCs cs).map fun s => countN n (cmdsOf s)).sum
def namesN : Nat → List Cmd → List Str
  | 0, cs => cs.flatMap nameOf
  | n + 1, cs => cs.flatMap fun c => nameOf c ++ (scrWs c.words).flatMap fun s => namesN n (cmdsOf s)
theorem scrCs_short {n : Nat} {cs : List Cmd} (h : cfit n cs) : ∀ s ∈ scrCs cs, s.length < n := by
  intro s hs
  obtain ⟨c, hc, hs⟩ := List.mem_flatMap.1 hs
  obtain ⟨x, hx, hs⟩ := List.mem_flatMap.1 hs
  exact scrs_short _ (h c hc x hx) s hs
theorem csum_eq : ∀ (cs : List Cmd), csum cs = cs.length + lsum (scrCs cs)
  | [] => rfl
  | c :: cs => by
    have := csum_eq cs
    simp only [csum, List.length_cons, scrCs, List.flatMap_cons, lsum_app] at this ⊢
    omega
theorem sum_le_lsum (f : Str → Nat) : ∀ (l : List Str), (∀ s ∈ l, f s ≤ s.length) → (l.map f).sum ≤ lsum l
  | [], _ => by simp [lsum]
  | s :: l, h => by
    have := sum_le_lsum f l fun x hx => h x (List.mem_cons_of_mem _ hx)
    have := h s (by simp)
    simp only [List.map_cons, List.sum_cons, lsum]
    omega
theorem countN_le : ∀ (n : Nat) (cs : List Cmd), countN n cs ≤ csum cs
  | 0, cs => by rw [countN, csum_eq]; omega
  | n + 1, cs => by
    rw [countN, csum_eq]
    have := sum_le_lsum (fun s => countN n (cmdsOf s)) (scrCs cs) fun s _ => Nat.le_trans (countN_le n (cmdsOf s)) (cmdsOf_f s).2.2
    omega
theorem nameOf_le (c : Cmd) : (nameOf c).length ≤ 1 := by
  unfold nameOf
  split
  · simp
  · cases litOf _ <;> simp
theorem flat_le (f : Str → List Str) : ∀ (l : List Str), (∀ s ∈ l, (f s).length ≤ s.length) → (l.flatMap f).length ≤ lsum l
  | [], _ => by simp [lsum]
  | s :: l, h => by
    have := flat_le f l fun x hx => h x (List.mem_cons_of_mem _ hx)
    have := h s (by simp)
    simp only [List.flatMap_cons, List.length_append, lsum]
    omega
theorem namesN_le : ∀ (n : Nat) (cs : List Cmd), (namesN n cs).length ≤ csum cs
  | 0, [] => by simp [namesN]
  | 0, c :: cs => by
    have := namesN_le 0 cs
    have := nameOf_le c
    simp only [namesN, List.flatMap_cons, List.length_append, csum] at *
    omega
  | n + 1, [] => by simp [namesN]
  | n + 1, c :: cs => by
    have h1 := namesN_le (n + 1) cs
    have h2 := nameOf_le c
    have h3 := flat_le (fun s => namesN n (cmdsOf s)) (scrWs c.words) fun s _ => Nat.le_trans (namesN_le n (cmdsOf s)) (cmdsOf_f s).2.2
    simp only [namesN, List.flatMap_cons, List.length_append, csum] at *
    omega
theorem quoteLen (s : Str) : (quote s).length ≤ 2 * s.length + 2 := by
  unfold quote
  have sl : ∀ (s : Str) (b : Bool), (slash b s).length ≤ 2 * s.length := by
    intro s
    induction s with
    | nil => intro b; simp [slash]
    | cons c t ih =>
      intro b
      have := ih false
      rw [slash]
      split <;> simp <;> omega
  split
  · simp
  · split
    · omega
    · split
      · simp; omega
      · have := sl s true; omega
mutual
theorem Tok.show_len : ∀ (t : Tok) (pre : Str), (t.show pre).length ≤ t.wt * (2 * pre.length + 2 * t.wt + 30)
  | .mk k s hx ix, pre => by
    have h1 := quoteLen s
    have h2 := shows_len ix (pre ++ [32])
    obtain ⟨W, hW⟩ : ∃ W, W = wts ix := ⟨_, rfl⟩
    obtain ⟨X, hX⟩ : ∃ X, X = (shows (pre ++ [32]) ix).length := ⟨_, rfl⟩
    rw [← hW, ← hX] at h2
    simp only [List.length_append, List.length_cons, List.length_nil] at h2
    have h3 : X ≤ W * (2 * pre.length + 2 * (1 + s.length + W) + 30) := Nat.le_trans h2 (Nat.mul_le_mul_left _ (by omega))
    have h4 : (1 + s.length) * 30 ≤ (1 + s.length) * (2 * pre.length + 2 * (1 + s.length + W) + 30) := Nat.mul_le_mul_left _ (by omega)
    have h5 : (1 + s.length + W) * (2 * pre.length + 2 * (1 + s.length + W) + 30) = (1 + s.length) * (2 * pre.length + 2 * (1 + s.length + W) + 30) + W * (2 * pre.length + 2 * (1 + s.length + W) + 30) := Nat.add_mul _ _ _
    have h6 : 2 * pre.length + 2 * s.length + 28 ≤ (1 + s.length) * (2 * pre.length + 2 * (1 + s.length + W) + 30) := by
      have : 1 * (2 * pre.length + 2 * (1 + s.length + W) + 30) ≤ (1 + s.length) * (2 * pre.length + 2 * (1 + s.length + W) + 30) := Nat.mul_le_mul_right _ (by omega)
      omega
    rw [Tok.show, Tok.wt, ← hW, h5]
    split
    · split
      · simp only [List.length_append, ← hX, sVar, sIndex, List.length_cons, List.length_nil]
        omega
      · simp only [List.length_append, sVar, List.length_cons, List.length_nil]
        omega
    · split
      · simp only [List.length_append, sScript, List.length_cons, List.length_nil]
        omega
      · simp only [List.length_append, sText, List.length_cons, List.length_nil]
        omega
theorem shows_len : ∀ (ts : List Tok) (pre : Str), (shows pre ts).length ≤ wts ts * (2 * pre.length + 2 * wts ts + 30)
  | [], pre => by simp [shows]
  | t :: ts, pre => by
    have h1 := Tok.show_len t pre
    have h2 := shows_len ts pre
    rw [shows, wts, List.length_append, Nat.add_mul]
    have h3 : t.wt * (2 * pre.length + 2 * t.wt + 30) ≤ t.wt * (2 * pre.length + 2 * (t.wt + wts ts) + 30) := Nat.mul_le_mul_left _ (by omega)
    have h4 : wts ts * (2 * pre.length + 2 * wts ts + 30) ≤ wts ts * (2 * pre.length + 2 * (t.wt + wts ts) + 30) := Nat.mul_le_mul_left _ (by omega)
    omega
end
end Go.Proofs.YtkgpmkkodpjdfaaGreatDoor.Pz
