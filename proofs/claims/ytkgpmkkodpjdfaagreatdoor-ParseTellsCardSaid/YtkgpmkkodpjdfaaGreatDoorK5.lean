/-
  Part K5 of the proofs of this seat: contracts of functions and plain facts, merged from 4 texts.
-/
import Derived.Test.YtkgpmkkodpjdfaaGreatDoorK0
import Derived.Test.YtkgpmkkodpjdfaaGreatDoorK1
import Derived.Test.YtkgpmkkodpjdfaaGreatDoorK2
import Derived.Test.YtkgpmkkodpjdfaaGreatDoorK3
import Derived.Test.YtkgpmkkodpjdfaaGreatDoorK4
/-
  P6.3 of the reading: a script, a line feed and another one have the commands of both.
-/
namespace Go.Proofs.YtkgpmkkodpjdfaaGreatDoor.Pz
theorem digv_lf (b : Nat) : digv b 10 = none := by
  unfold digv
  rw [show hexv 10 = none by decide]
theorem digs_app (b : Nat) (e : Str) : ∀ (n v : Nat) (l : Str), digs b n v (l ++ 10 :: e) = ((digs b n v l).1, (digs b n v l).2 ++ 10 :: e)
  | 0, v, l => by rw [digs, digs]
  | n + 1, v, [] => by
    show digs b (n + 1) v (10 :: e) = _
    rw [digs.eq_3, digv_lf]
    rfl
  | n + 1, v, c :: t => by
    show digs b (n + 1) v (c :: (t ++ 10 :: e)) = _
    rw [digs, digs]
    cases digv b c with
    | none => rfl
    | some x => exact digs_app b e n _ t
theorem blanks0_app (e : Str) : ∀ (l : Str), blanks0 (l ++ 10 :: e) = blanks0 l ++ 10 :: e
  | [] => by
    show blanks0 (10 :: e) = _
    rw [blanks0.eq_2, if_neg (by decide)]
    rfl
  | c :: t => by
    show blanks0 (c :: (t ++ 10 :: e)) = _
    rw [blanks0, blanks0]
    split
    · exact blanks0_app e t
    · rfl
theorem len_app (a b e : Str) : ((a ++ e).length < (b ++ e).length) ↔ a.length < b.length := by
  simp only [List.length_append]
  omega
theorem unesc1_app (c : UInt8) (t e : Str) : unesc1 c (t ++ 10 :: e) = ((unesc1 c t).1, (unesc1 c t).2 ++ 10 :: e) := by
  unfold unesc1
  cases named1 c with
  | some x => rfl
  | none =>
    dsimp only
    by_cases h1 : (c == 10) = true
    · rw [if_pos h1, if_pos h1, blanks0_app]
    rw [if_neg h1, if_neg h1]
    by_cases h2 : (c == 120) = true
    · rw [if_pos h2, if_pos h2, digs_app]
      by_cases h3 : (digs 16 2 0 t).2.length < t.length
      · rw [if_pos ((len_app _ _ _).2 h3), if_pos h3]
      · rw [if_neg (fun h => h3 ((len_app _ _ _).1 h)), if_neg h3]
    rw [if_neg h2, if_neg h2]
    have hd := digs_app 8 e 3 0 (c :: t)
    rw [List.cons_append] at hd
    rw [hd]
    by_cases h3 : (digs 8 3 0 (c :: t)).2.length < (c :: t).length
    · have h4 : ((digs 8 3 0 (c :: t)).2 ++ 10 :: e).length < (c :: (t ++ 10 :: e)).length := (len_app _ (c :: t) _).2 h3
      rw [if_pos h4, if_pos h3]
    · have h4 : ¬ ((digs 8 3 0 (c :: t)).2 ++ 10 :: e).length < (c :: (t ++ 10 :: e)).length := fun h => h3 ((len_app _ (c :: t) _).1 h)
      rw [if_neg h4, if_neg h3]
theorem unesc_app {l : Str} (hl : l ≠ []) (e : Str) : unesc (l ++ 10 :: e) = ((unesc l).1, (unesc l).2 ++ 10 :: e) := by
  cases l with
  | nil => exact absurd rfl hl
  | cons c t => exact unesc1_app c t e
theorem pre_app {p s r x : Str} {o o' : Option (Str × Str)} (h : pre p o = some (s, r)) (ho : ∀ s', o = some (s', r) → o' = some (s', r ++ x)) : pre p o' = some (s, r ++ x) := by
  obtain ⟨s', h', rfl⟩ := pre_some h
  rw [ho s' h']
  rfl
theorem brace_app (x : Str) : ∀ (n : Nat) (l : Str), l.length ≤ n → ∀ (d : Nat) (s r : Str), brace d l = some (s, r) → brace d (l ++ x) = some (s, r ++ x)
  | n, [], _, d, s, r, h => by simp [brace] at h
  | 0, c :: t, hn, _, _, _, _ => absurd hn (by simp)
  | n + 1, c :: t, hn, d, s, r, h => by
    show brace d (c :: (t ++ x)) = _
    rw [brace.eq_def] at h ⊢
    dsimp only at h ⊢
    have ht : t.length ≤ n := by simpa using hn
    by_cases h1 : (c == 92) = true
    · rw [if_pos h1] at h ⊢
      cases t with
      | nil => simp at h
      | cons e t' => exact pre_app h (fun s' h' => brace_app x n t' (by simp at ht; omega) d s' r h')
    rw [if_neg h1] at h ⊢
    by_cases h2 : (c == 123) = true
    · rw [if_pos h2] at h ⊢
      exact pre_app h (fun s' h' => brace_app x n t ht _ s' r h')
    rw [if_neg h2] at h ⊢
    by_cases h3 : (c == 125) = true
    · rw [if_pos h3] at h ⊢
      cases d with
      | zero =>
        simp only [Option.some.injEq, Prod.mk.injEq] at h ⊢
        obtain ⟨rfl, rfl⟩ := h
        exact ⟨rfl, rfl⟩
      | succ d' => exact pre_app h (fun s' h' => brace_app x n t ht _ s' r h')
    rw [if_neg h3] at h ⊢
    exact pre_app h (fun s' h' => brace_app x n t ht _ s' r h')
theorem upTo_app (x : Str) : ∀ (l s r : Str), upTo l = some (s, r) → upTo (l ++ x) = some (s, r ++ x)
  | [], s, r, h => by simp [upTo] at h
  | c :: t, s, r, h => by
    show upTo (c :: (t ++ x)) = _
    rw [upTo] at h ⊢
    by_cases h3 : (c == 125) = true
    · rw [if_pos h3] at h ⊢
      simp only [Option.some.injEq, Prod.mk.injEq] at h ⊢
      obtain ⟨rfl, rfl⟩ := h
      exact ⟨rfl, rfl⟩
    rw [if_neg h3] at h ⊢
    exact pre_app h (fun s' h' => upTo_app x t s' r h')
theorem name_app (e : Str) : ∀ (l : Str) (o : Bool), name o (l ++ 10 :: e) = ((name o l).1, (name o l).2 ++ 10 :: e)
  | [], o => by
    show name o (10 :: e) = _
    rw [name.eq_2, if_neg (by decide), if_neg (by rw [show ((10 : UInt8) == 58) = false by decide]; simp)]
    rfl
  | c :: t, o => by
    show name o (c :: (t ++ 10 :: e)) = _
    have hh : ((t ++ 10 :: e).head? == some 58) = (t.head? == some 58) := by
      cases t with
      | nil => rfl
      | cons a b => rfl
    rw [name, name, hh]
    by_cases h1 : letter c = true
    · rw [if_pos h1, if_pos h1, name_app e t false]
    rw [if_neg h1, if_neg h1]
    by_cases h2 : (c == 58 && (o || t.head? == some 58)) = true
    · rw [if_pos h2, if_pos h2, name_app e t true]
    · rw [if_neg h2, if_neg h2]
      rfl
/-- a command at a place that lies further from the end -/
def Cmd.far (n : Nat) (c : Cmd) : Cmd := ⟨c.back + n, c.words⟩
section
variable (e : Str)
def CmdsTwo (w : Bool) (d : Nat) (l : Str) : Prop := Shut l → ∀ cs r, commands w d l = .ok cs r →
  (r ≠ [] → commands w d (l ++ 10 :: e) = .ok (cs.map (Cmd.far (e.length + 1))) (r ++ 10 :: e)) ∧
  (r = [] → ∀ cs' r', commands w d (10 :: e) = .ok cs' r' → commands w d (l ++ 10 :: e) = .ok (cs.map (Cmd.far (e.length + 1)) ++ cs') r')
def CmdTwo (w : Bool) (d : Nat) (l : Str) : Prop := Shut l → (parted w l = false → ended w l = false) → ∀ ws r, command w d l = .ok ws r → command w d (l ++ 10 :: e) = .ok ws (r ++ 10 :: e)
def WordTwo (w : Bool) (d : Nat) (l : Str) : Prop := Shut l → ended w l = false → ∀ x r, word w d l = .ok x r → word w d (l ++ 10 :: e) = .ok x (r ++ 10 :: e)
def PartsTwo (f : Upto) (g : Told) (d : Nat) (l : Str) : Prop := Shut l → ∀ ts r, parts f g d l = .ok ts r → (r ≠ [] ∨ ∃ w, f = .bare w) → parts f g d (l ++ 10 :: e) = .ok ts (r ++ 10 :: e)
def ScriptTwo (d : Nat) (l : Str) : Prop := Shut l → ∀ s r, script d l = .ok s r → script d (l ++ 10 :: e) = .ok s (r ++ 10 :: e)
def VarTwo (g : Told) (d : Nat) (l : Str) : Prop := Shut l → ∀ x r, varOf g d l = .ok x r → varOf g d (l ++ 10 :: e) = .ok x (r ++ 10 :: e)
theorem ends_app {f : Upto} {l : Str} (hs : Shut l) (h : l ≠ [] ∨ ∃ w, f = .bare w) : f.ends (l ++ 10 :: e) = f.ends l := by
  cases f with
  | bare w => exact ended_app w hs
  | quote =>
    cases l with
    | nil => rcases h with h | ⟨w, h⟩ <;> simp at h
    | cons c t => rfl
  | paren =>
    cases l with
    | nil => rcases h with h | ⟨w, h⟩ <;> simp at h
    | cons c t => rfl
  | never =>
    cases l with
    | nil => rcases h with h | ⟨w, h⟩ <;> simp at h
    | cons c t => rfl
theorem Res.cons_eq {α : Type} {x : α} {o : Res (List α)} {ts : List α} {r : Str} (h : o = .ok ts r) : o.cons x = .ok (x :: ts) r := by
  rw [h]; rfl
theorem Res.glue_eq {p : Str} {o : Res (List Tok)} {ts : List Tok} {r : Str} (h : o = .ok ts r) : o.glue p = .ok (Pz.glue p ts) r := by
  rw [h]; rfl
variable {e}
theorem parts_two {f : Upto} {g : Told} {d : Nat} {l : Str} (ih1 : ∀ l', l'.length < l.length → PartsTwo e f g d l') (ih2 : ∀ l', l'.length < l.length → VarTwo e g d l') (ih3 : ∀ l', l'.length < l.length → ScriptTwo e d l') : PartsTwo e f g d l := by
  intro hs ts r h hr
  have hnil : l ≠ [] ∨ ∃ w, f = .bare w := by
    rcases hr with hr | hr
    · refine .inl fun h0 => ?_
      obtain ⟨q, _⟩ := parts_ok f g d l ts r h
      rw [h0] at q
      exact hr (List.suffix_nil.1 q)
    · exact .inr hr
  have hends := ends_app e hs hnil
  rw [parts.eq_def] at h ⊢
  by_cases h0 : f.ends l = true
  · rw [if_pos h0] at h
    simp only [Res.ok.injEq] at h
    obtain ⟨rfl, rfl⟩ := h
    rw [if_pos (hends.trans h0)]
  rw [if_neg h0] at h
  rw [if_neg (fun h' => h0 (hends.symm.trans h'))]
  cases l with
  | nil => exact absurd (ends_nil f) h0
  | cons c t =>
    rw [List.cons_append]
    dsimp only at h ⊢
    have hst := hs.suf (suf_tail c t)
    have fin : ∀ {l' : Str} {ts'}, l' <:+ t → parts f g d l' = .ok ts' r → parts f g d (l' ++ 10 :: e) = .ok ts' (r ++ 10 :: e) := by
      intro l' ts' hsf hp
      have hl := suf_len hsf
      exact ih1 l' (by simp only [List.length_cons]; omega) (hst.suf hsf) _ _ hp hr
    by_cases h1 : (c == 92 && g.slashes) = true
    · rw [if_pos h1] at h ⊢
      have hu := unesc_suf t
      have hul := suf_len hu
      have ht : t ≠ [] := by
        simp at h1
        obtain ⟨rfl, _⟩ := h1
        exact hs.one
      rw [dif_pos (by simp only [List.length_cons]; omega)] at h
      obtain ⟨ts', h', rfl⟩ := Res.glue_ok h
      rw [unesc_app ht]
      rw [dif_pos (by simp only [List.length_cons, List.length_append]; omega)]
      exact Res.glue_eq (fin hu h')
    rw [if_neg h1] at h ⊢
    by_cases h2 : (c == 36 && g.vars) = true
    · rw [if_pos h2] at h ⊢
      cases hv : varOf g d t with
      | halt h' => rw [hv] at h; simp at h
      | ok x r1 =>
        obtain ⟨q1, q2⟩ := var_ok g d t x r1 hv
        have hq := suf_len q1
        rw [hv] at h
        rw [ih2 t (by simp) hst x r1 hv]
        cases x with
        | none =>
          obtain ⟨ts', h', rfl⟩ := Res.glue_ok h
          exact Res.glue_eq (fin (List.suffix_refl _) h')
        | some y =>
          dsimp only at h ⊢
          rw [dif_pos (by simp only [List.length_cons]; omega)] at h
          obtain ⟨ts', h', rfl⟩ := Res.cons_ok h
          rw [dif_pos (by simp only [List.length_cons, List.length_append]; omega)]
          exact Res.cons_eq (fin q1 h')
    rw [if_neg h2] at h ⊢
    by_cases h3 : (c == 91 && g.scripts) = true
    · rw [if_pos h3] at h ⊢
      cases hv : script d t with
      | halt h' => rw [hv] at h; simp at h
      | ok x r1 =>
        have hx := script_ok d t x r1 hv
        have hq : r1 <:+ t := ⟨x ++ [93], by rw [hx]; simp⟩
        have hql := suf_len hq
        rw [hv] at h
        rw [ih3 t (by simp) hst x r1 hv]
        dsimp only at h ⊢
        rw [dif_pos (by simp only [List.length_cons]; omega)] at h
        obtain ⟨ts', h', rfl⟩ := Res.cons_ok h
        rw [dif_pos (by simp only [List.length_cons, List.length_append]; omega)]
        exact Res.cons_eq (fin hq h')
    rw [if_neg h3] at h ⊢
    obtain ⟨ts', h', rfl⟩ := Res.glue_ok h
    exact Res.glue_eq (fin (List.suffix_refl _) h')
theorem script_two {d : Nat} {l : Str} (ih : CmdsTwo e true (d + 1) l) : ScriptTwo e d l := by
  intro hs s r h
  have hsc := script_ok d l s r h
  rw [script] at h ⊢
  by_cases h0 : (d == maxDeep) = true
  · rw [if_pos h0] at h; simp at h
  rw [if_neg h0] at h ⊢
  cases hc : commands true (d + 1) l with
  | halt h' => rw [hc] at h; simp at h
  | ok cs r1 =>
    rw [hc] at h
    cases r1 with
    | nil => simp at h
    | cons x r2 =>
      simp only [Res.ok.injEq] at h
      obtain ⟨h1, rfl⟩ := h
      rw [(ih hs cs _ hc).1 (by simp)]
      simp only [List.cons_append, Res.ok.injEq]
      refine ⟨?_, trivial⟩
      rw [← h1]
      simp only [List.length_append, List.length_cons]
      rw [List.take_append_of_le_length (by omega)]
      congr 1
      omega
theorem var_two {g : Told} {d : Nat} {l : Str} (ih : ∀ l', l'.length < l.length → PartsTwo e .paren g (d + 1) l') : VarTwo e g d l := by
  intro hs x r h
  rw [varOf] at h ⊢
  have hh : ((l ++ 10 :: e).head? == some 123) = (l.head? == some 123) := by
    cases l with
    | nil => rfl
    | cons a b => rfl
  by_cases h0 : (l.head? == some 123) = true
  · rw [if_pos h0] at h
    rw [if_pos (hh.trans h0)]
    cases l with
    | nil => simp at h0
    | cons c t =>
      rw [List.cons_append]
      simp only [List.tail_cons] at h ⊢
      cases hu : upTo t with
      | none => rw [hu] at h; simp at h
      | some y =>
        obtain ⟨s, r1⟩ := y
        rw [hu] at h
        simp only [Res.ok.injEq] at h
        obtain ⟨rfl, rfl⟩ := h
        rw [upTo_app _ _ _ _ hu]
  rw [if_neg h0] at h
  rw [if_neg (fun h' => h0 (hh.symm.trans h')), name_app]
  have hn := name_text l false
  cases hnm : name false l with
  | mk s r1 =>
    rw [hnm] at h hn
    dsimp only at h hn ⊢
    have hsf : r1 <:+ l := ⟨s, hn.symm⟩
    by_cases h1 : s.isEmpty = true
    · rw [if_pos h1] at h ⊢
      simp only [Res.ok.injEq] at h
      obtain ⟨rfl, rfl⟩ := h
      rfl
    rw [if_neg h1] at h ⊢
    cases r1 with
    | nil =>
      simp only [Res.ok.injEq] at h
      obtain ⟨rfl, rfl⟩ := h
      rfl
    | cons c t =>
      rw [List.cons_append]
      dsimp only at h ⊢
      by_cases h2 : (c == 40) = true
      · rw [if_pos h2] at h ⊢
        by_cases h3 : (d == maxDeep) = true
        · rw [if_pos h3] at h; simp at h
        have hl := suf_len hsf
        simp only [List.length_cons] at hl
        rw [if_neg h3, dif_pos (by omega)] at h
        rw [if_neg h3, dif_pos (by simp only [List.length_append]; omega)]
        cases hp : parts .paren g (d + 1) t with
        | halt h' => rw [hp] at h; simp at h
        | ok ts r2 =>
          rw [hp] at h
          cases r2 with
          | nil => simp at h
          | cons y r3 =>
            rw [ih t (by omega) (hs.suf ((suf_tail c t).trans hsf)) ts _ hp (.inl (by simp))]
            simp only [Res.ok.injEq] at h
            obtain ⟨rfl, rfl⟩ := h
            rfl
      · rw [if_neg h2] at h ⊢
        simp only [Res.ok.injEq] at h
        obtain ⟨rfl, rfl⟩ := h
        rfl
theorem word_two {w : Bool} {d : Nat} {l : Str} (ih1 : ∀ l', l'.length < l.length → WordTwo e w d l') (ih2 : ∀ l', l'.length ≤ l.length → ∀ f, PartsTwo e f all3 d l') : WordTwo e w d l := by
  intro hs he x r h
  cases l with
  | nil => simp [ended, parted] at he
  | cons c t =>
    rw [List.cons_append]
    rw [word] at h ⊢
    by_cases h1 : (c == 123) = true
    · rw [if_pos h1] at h ⊢
      cases hb : brace 0 t with
      | none => rw [hb] at h; simp at h
      | some y =>
        obtain ⟨s, r1⟩ := y
        rw [hb] at h
        rw [brace_app _ t.length t (Nat.le_refl _) 0 s r1 hb]
        dsimp only at h ⊢
        have ht := brace_text t.length t (Nat.le_refl _) 0 s r1 hb
        have hsf : r1 <:+ c :: t := ⟨c :: (s ++ [125]), by rw [ht]; simp⟩
        have hlt : r1.length < (c :: t).length := by rw [ht]; simp; omega
        have hend := ended_app w (e := e) (hs.suf hsf)
        rw [hend]
        by_cases h2 : (s == [42] && !ended w r1) = true
        · rw [if_pos h2, dif_pos hlt] at h
          rw [if_pos h2, dif_pos (by simp only [List.length_cons, List.length_append] at hlt ⊢; omega)]
          cases hw : word w d r1 with
          | halt h' => rw [hw] at h; simp at h
          | ok x1 r2 =>
            rw [hw] at h
            simp only [Res.ok.injEq] at h
            obtain ⟨rfl, rfl⟩ := h
            have h3 := h2
            simp at h3
            rw [ih1 r1 hlt (hs.suf hsf) h3.2 x1 r2 hw]
        · rw [if_neg h2] at h ⊢
          by_cases h3 : ended w r1 = true
          · rw [if_pos h3] at h ⊢
            simp only [Res.ok.injEq] at h
            obtain ⟨rfl, rfl⟩ := h
            rfl
          · rw [if_neg h3] at h; simp at h
    · rw [if_neg h1] at h ⊢
      by_cases h2 : (c == 34) = true
      · rw [if_pos h2] at h ⊢
        cases hp : parts .quote all3 d t with
        | halt h' => rw [hp] at h; simp at h
        | ok ts r1 =>
          rw [hp] at h
          dsimp only at h
          obtain ⟨q1, q2, q3⟩ := parts_ok _ _ _ t ts r1 hp
          cases r1 with
          | nil => simp at h
          | cons y r2 =>
            rw [ih2 t (by simp) _ (hs.suf (suf_tail c t)) ts _ hp (.inl (by simp))]
            rw [List.cons_append]
            dsimp only at h ⊢
            rw [ended_app w (hs.suf ((suf_tail y r2).trans (q1.trans (suf_tail c t))))]
            by_cases h3 : ended w r2 = true
            · rw [if_pos h3] at h ⊢
              simp only [Res.ok.injEq] at h
              obtain ⟨rfl, rfl⟩ := h
              rfl
            · rw [if_neg h3] at h; simp at h
      · rw [if_neg h2] at h ⊢
        cases hp : parts (.bare w) all3 d (c :: t) with
        | halt h' => rw [hp] at h; simp at h
        | ok ts r1 =>
          rw [hp] at h
          simp only [Res.ok.injEq] at h
          obtain ⟨rfl, rfl⟩ := h
          have h3 := ih2 _ (Nat.le_refl _) _ hs ts r1 hp (.inr ⟨w, rfl⟩)
          rw [List.cons_append] at h3
          rw [h3]
theorem cmd_two {w : Bool} {d : Nat} {l : Str} (ih1 : ∀ l', l'.length < l.length → CmdTwo e w d l') (ih2 : WordTwo e w d l) : CmdTwo e w d l := by
  intro hs he ws r h
  rw [command] at h ⊢
  rw [parted_app]
  by_cases h1 : parted w l = true
  · rw [if_pos h1] at h ⊢
    simp only [Res.ok.injEq] at h
    obtain ⟨rfl, rfl⟩ := h
    rfl
  rw [if_neg h1] at h ⊢
  have hp : parted w l = false := by simpa using h1
  cases hw : word w d l with
  | halt h' => rw [hw] at h; simp at h
  | ok x r1 =>
    rw [hw] at h
    rw [ih2 hs (he hp) x r1 hw]
    dsimp only at h ⊢
    obtain ⟨q1, q2, q3⟩ := word_ok w d l (he hp) x r1 hw
    have hb := blanks_suf r1
    have hlen := suf_len hb
    rw [dif_pos (by omega)] at h
    obtain ⟨ts', h', rfl⟩ := Res.cons_ok h
    rw [blanks_app r1 (hs.suf q1), dif_pos (by simp only [List.length_append]; omega)]
    exact Res.cons_eq (ih1 (blanks r1) (by omega) (hs.suf (hb.trans q1)) (blanks_stop r1 w) _ _ h')
theorem cmds_two {w : Bool} {d : Nat} {l : Str} (ih1 : ∀ l', l'.length < l.length → CmdsTwo e w d l') (ih2 : ∀ l', l'.length ≤ l.length → CmdTwo e w d l') : CmdsTwo e w d l := by
  intro hs cs r h
  have hb := blanks_suf l
  have hst := blanks_stop l w
  have hbs := hs.suf hb
  have hlb := suf_len hb
  have hunf := commands.eq_1 w d (l ++ 10 :: e)
  rw [blanks_app l hs, dif_pos (by simp only [List.length_append]; omega)] at hunf
  rw [commands.eq_1, dif_pos hlb] at h
  cases hl : blanks l with
  | nil =>
    rw [hl] at h
    simp only [Res.ok.injEq] at h
    obtain ⟨rfl, rfl⟩ := h
    refine ⟨fun h' => absurd rfl h', fun _ cs' r' h' => ?_⟩
    rw [commands.eq_1] at h'
    rw [hunf, hl]
    have hb10 : blanks (10 :: e) = 10 :: e := by
      have := blanks_app [] (fun p => by simp) e
      exact this
    rw [hb10, dif_pos (Nat.le_refl _)] at h'
    simp only [List.nil_append, List.map_nil]
    dsimp only at h' ⊢
    have hp10 : parted w (10 :: e) = true := rfl
    by_cases h1 : (w && (10 : UInt8) == 93) = true
    · simp at h1
    rw [if_neg h1, if_pos hp10, dif_pos (by simp)] at h'
    rw [if_neg h1, if_pos hp10, dif_pos (by simp only [List.length_append, List.length_cons]; omega)]
    exact h'
  | cons c t =>
    rw [hl] at h hst hb hbs hlb
    rw [hl] at hunf
    simp only [List.length_cons] at hlb
    rw [List.cons_append] at hunf
    have hpa : parted w (c :: (t ++ 10 :: e)) = parted w (c :: t) := rfl
    dsimp only at h hunf
    rw [hpa] at hunf
    by_cases h1 : (w && c == 93) = true
    · rw [if_pos h1] at h hunf
      simp only [Res.ok.injEq] at h
      obtain ⟨rfl, rfl⟩ := h
      exact ⟨fun _ => hunf, fun h' => by cases h'⟩
    rw [if_neg h1] at h hunf
    by_cases h2 : parted w (c :: t) = true
    · rw [if_pos h2] at h hunf
      rw [dif_pos (by omega)] at h
      rw [dif_pos (by simp only [List.length_append]; omega)] at hunf
      rw [hunf]
      exact ih1 t (by omega) (hbs.suf (suf_tail c t)) cs r h
    rw [if_neg h2] at h hunf
    by_cases h3 : (c == 35) = true
    · rw [if_pos h3] at h hunf
      have hcm := comment_app (c :: t) false hbs (fun h' => by cases h') e
      rw [List.cons_append] at hcm
      rw [hcm] at hunf
      simp at h3
      subst h3
      rw [comment_hash] at h hunf
      have hcs := comment_suf t false
      have hc := suf_len hcs
      rw [dif_pos (by omega)] at h
      rw [dif_pos (by simp only [List.length_append]; omega)] at hunf
      rw [hunf]
      exact ih1 _ (by omega) (hbs.suf (hcs.trans (suf_tail _ t))) cs r h
    rw [if_neg h3] at h hunf
    rw [dif_pos (by simpa using hlb)] at h
    rw [dif_pos (by simp only [List.length_cons, List.length_append]; omega)] at hunf
    have hp : parted w (c :: t) = false := by simpa using h2
    cases hc : command w d (c :: t) with
    | halt h' => rw [hc] at h; simp at h
    | ok ws r1 =>
      rw [hc] at h
      have hc2 := ih2 (c :: t) (by simpa using hlb) hbs hst ws r1 hc
      rw [List.cons_append] at hc2
      rw [hc2] at hunf
      dsimp only at h hunf
      obtain ⟨q1, q2, q3⟩ := cmd_ok w d (c :: t) hst ws r1 hc
      have q4 := (q3 hp).1
      simp only [List.length_cons] at q4
      rw [dif_pos (by omega)] at h
      rw [dif_pos (by simp only [List.length_append, List.length_cons]; omega)] at hunf
      obtain ⟨ts', h', rfl⟩ := Res.cons_ok h
      obtain ⟨a, b⟩ := ih1 r1 (by omega) (hbs.suf q1) _ _ h'
      have hfar : (⟨(c :: (t ++ 10 :: e)).length, ws⟩ : Cmd) = Cmd.far (e.length + 1) ⟨(c :: t).length, ws⟩ := by
        unfold Cmd.far
        simp only [List.length_cons, List.length_append, Cmd.mk.injEq, and_true]
        omega
      rw [hunf, hfar]
      refine ⟨fun hr => ?_, fun hr cs' r' hh => ?_⟩
      · rw [List.map_cons]
        exact Res.cons_eq (a hr)
      · rw [List.map_cons, List.cons_append]
        exact Res.cons_eq (b hr cs' r' hh)
variable (e)
theorem all_two : ∀ (n : Nat), (∀ w d l, l.length * 8 + 5 ≤ n → CmdsTwo e w d l) ∧ (∀ w d l, l.length * 8 + 4 ≤ n → CmdTwo e w d l) ∧ (∀ w d l, l.length * 8 + 3 ≤ n → WordTwo e w d l) ∧
    (∀ f g d l, l.length * 8 + 2 ≤ n → PartsTwo e f g d l) ∧ (∀ d l, l.length * 8 + 6 ≤ n → ScriptTwo e d l) ∧ (∀ g d l, l.length * 8 + 1 ≤ n → VarTwo e g d l) := by
  intro n
  induction n with
  | zero => refine ⟨?_, ?_, ?_, ?_, ?_, ?_⟩ <;> intros <;> omega
  | succ n ih =>
    obtain ⟨i1, i2, i3, i4, i5, i6⟩ := ih
    refine ⟨fun w d l h => cmds_two (fun l' h' => i1 w d l' (by omega)) (fun l' h' => i2 w d l' (by omega)),
      fun w d l h => cmd_two (fun l' h' => i2 w d l' (by omega)) (i3 w d l (by omega)),
      fun w d l h => word_two (fun l' h' => i3 w d l' (by omega)) (fun l' h' f => i4 f all3 d l' (by omega)),
      fun f g d l h => parts_two (fun l' h' => i4 f g d l' (by omega)) (fun l' h' => i6 g d l' (by omega)) (fun l' h' => i5 d l' (by omega)),
      fun d l h => script_two (i1 true (d + 1) l (by omega)), fun g d l h => var_two (fun l' h' => i4 .paren g (d + 1) l' (by omega))⟩
/-- P6.3: a script, a line feed and another one have the commands of both -/
theorem two {s : Str} (hs : Shut s) {a b : List Cmd} {r1 r2 : Str} (ha : commands false 0 s = .ok a r1) (hb : commands false 0 e = .ok b r2) :
    commands false 0 (s ++ 10 :: e) = .ok (a.map (Cmd.far (e.length + 1)) ++ b) r2 := by
  have hr : r1 = [] := by
    rcases (cmds_ok false 0 s a r1 ha).2 with h | ⟨h, _⟩
    · exact h
    · cases h
  have h10 : commands false 0 (10 :: e) = .ok b r2 := by
    rw [commands.eq_1]
    have hb10 : blanks (10 :: e) = 10 :: e := blanks_app [] (fun p => by simp) e
    rw [hb10, dif_pos (Nat.le_refl _)]
    dsimp only
    rw [if_neg (by simp), if_pos (show parted false (10 :: e) = true from rfl), dif_pos (by simp)]
    exact hb
  exact ((all_two e (s.length * 8 + 5)).1 false 0 s (Nat.le_refl _) hs a r1 ha).2 hr b r2 h10
end
end Go.Proofs.YtkgpmkkodpjdfaaGreatDoor.Pz
/-
  Rows that hold one list are the same.
-/
namespace Go.Proofs.YtkgpmkkodpjdfaaGreatDoor.Pz
open Go.RowKit
/-- an element of a row of tokens -/
theorem tok_at {w : World} {ok : Nat → Prop} {v : Value} {ts : List Tok} (h : ToksIs 33 w ok v ts) {i : Nat} (hi : i < ts.length) :
    ∃ g cap k s b ix u, v = .slice (some ⟨g, 0, none⟩) ts.length cap ∧ ts[i] = .mk k s b ix ∧ ToksIs 33 w ok u ix ∧
      w.cell? ⟨g, i * 4, none⟩ = some (.int .i64 (k : Int)) ∧ w.cell? ⟨g, i * 4 + 1, none⟩ = some (.string ⟨s.toArray⟩) ∧ w.cell? ⟨g, i * 4 + 2, none⟩ = some (.bool b) ∧ w.cell? ⟨g, i * 4 + 3, none⟩ = some u := by
  obtain ⟨a, cap, hv, _, hc⟩ := RowIs.cell h
  obtain ⟨g, cs, rfl, he, _, _, hcell⟩ := hc i hi
  obtain ⟨x, hx⟩ : ∃ x, x = ts[i] := ⟨_, rfl⟩
  rw [← hx] at he ⊢
  cases he with
  | mk k s b ix u css hrow hok hl hs =>
    refine ⟨g, cap, k, s, b, ix, u, hv, rfl, ⟨css, hrow, hok, hl, fun j h1 h2 => ⟨hs j h1 h2, (hs j h1 h2).len⟩⟩, hcell 0 _ rfl, hcell 1 _ rfl, hcell 2 _ rfl, hcell 3 _ rfl⟩
theorem RowIs.short {α : Type} {E : TypeId} {sz : Nat} {elt : List Value → α → Prop} {w : World} {ok : Nat → Prop} {v : Value} {xs : List α} (h : RowIs E sz elt w ok v xs) : xs.length ≤ 9223372036854775807 := by
  obtain ⟨css, ⟨_, h1⟩, _⟩ := h
  rcases h1 with ⟨_, h0⟩ | ⟨g, cap, cur, _, _, _, h2, h3, _⟩
  · omega
  · unfold maxLen at h3; omega
set_option maxRecDepth 100000 in
set_option maxHeartbeats 4000000 in
theorem sameTokens_fn : ∀ (n : Nat) (ts : List Tok), SizeOf.sizeOf ts ≤ n → ∀ (w : World) (ok1 ok2 : Nat → Prop) (v1 v2 : Value), ToksIs 33 w ok1 v1 ts → ToksIs 33 w ok2 v2 ts →
    Calls Tryz.prog 10 #[v1, v2] w fun e w' => e = .returned (.bool true) ∧ ∃ m, w' = w.drewN m := by
  intro n
  induction n with
  | zero => intro ts h; cases ts <;> simp at h
  | succ n ih =>
    intro ts hn w ok1 ok2 v1 v2 h1 h2
    have hlen := h1.short
    obtain ⟨a1, c1, rfl⟩ : ∃ a c, v1 = .slice a ts.length c := by
      obtain ⟨a, cap, hv, _⟩ := RowIs.cell h1
      exact ⟨a, cap, hv⟩
    obtain ⟨a2, c2, rfl⟩ : ∃ a c, v2 = .slice a ts.length c := by
      obtain ⟨a, cap, hv, _⟩ := RowIs.cell h2
      exact ⟨a, cap, hv⟩
    have H1 := hid h1
    have H2 := hid h2
    have IH := hid ih
    clear h1 h2 ih
    go_enter Tryz.func10, Tryz.ntmps10
    go_wp2
    go_loopg [13] ts.length (fun k iv wr => ∃ (i m : Nat), iv = .int .i64 (i : Nat) ∧ wr = w.drewN m ∧ i + k = ts.length)
    case atStart => exact ⟨0, 0, rfl, rfl, by simp⟩
    case round =>
      obtain ⟨i, m, rfl, hw, hk⟩ := hrel
      have HW := hid hw
      by_cases hi : i < ts.length
      · have h1 : ToksIs 33 wr ok1 (.slice a1 ts.length c1) ts := by rw [hw]; exact H1.out.keep2 (fun _ h _ => h) (fun _ _ _ h => h)
        have h2 : ToksIs 33 wr ok2 (.slice a2 ts.length c2) ts := by rw [hw]; exact H2.out.keep2 (fun _ h _ => h) (fun _ _ _ h => h)
        clear hw
        obtain ⟨g1, q1, k, s, b, ix, u1, e1, hx, ht1, x0, x1, x2, x3⟩ := tok_at h1 hi
        obtain ⟨g2, q2, k', s', b', ix', u2, e2, hx', ht2, y0, y1, y2, y3⟩ := tok_at h2 hi
        clear h1 h2
        rw [hx] at hx'
        obtain ⟨rfl, rfl, rfl, rfl⟩ := Tok.mk.inj hx'
        simp only [Value.slice.injEq] at e1 e2
        obtain ⟨rfl, _, rfl⟩ := e1
        obtain ⟨rfl, _, rfl⟩ := e2
        have hsz : SizeOf.sizeOf ix ≤ n := by
          have h3 : SizeOf.sizeOf ts[i] < SizeOf.sizeOf ts := List.sizeOf_lt_of_mem (List.getElem_mem hi)
          rw [hx] at h3
          simp at h3
          omega
        have hrc : ∀ m, Calls Tryz.prog 10 #[u1, u2] (wr.drewN m) fun e w' => e = .returned (.bool true) ∧ ∃ m', w' = (wr.drewN m).drewN m' := fun m =>
          IH.out ix hsz (wr.drewN m) ok1 ok2 u1 u2 (ht1.keep2 (fun _ h _ => h) (fun _ _ _ h => h)) (ht2.keep2 (fun _ h _ => h) (fun _ _ _ h => h))
        obtain ⟨a3, c3, n3, rfl⟩ : ∃ a c n, u1 = .slice a n c := by
          obtain ⟨a, cap, hv, _⟩ := RowIs.cell ht1
          exact ⟨a, cap, _, hv⟩
        obtain ⟨a4, c4, n4, rfl⟩ : ∃ a c n, u2 = .slice a n c := by
          obtain ⟨a, cap, hv, _⟩ := RowIs.cell ht2
          exact ⟨a, cap, _, hv⟩
        have HR := hid hrc
        have hbb : (b != b) = false := by cases b <;> rfl
        have hi1 : (0 : Int) ≤ (i : Int) ∧ (i : Int) < (ts.length : Int) := by omega
        have hi2 : (i : Int) < (ts.length : Int) := by omega
        clear hrc ht1 ht2 hx hx'
        go_wp2
        go_quiet ((go_at_call 10; exact Calls.quiet_of (HR.out _)))
        go_wp2
        go_roundg (gk - 1)
        case measure => omega
        case rel => exact ⟨i + 1, _, by simp, by rw [HW.out, World.drewN_drewN], by omega⟩
      · clear hw
        go_wp2
        go_ret
        exact ⟨rfl, _, HW.out⟩
/-- an element of a row of words -/
theorem wd_at {w : World} {ok : Nat → Prop} {v : Value} {ws : List Wd} (h : WdsIs 33 49 w ok v ws) {i : Nat} (hi : i < ws.length) :
    ∃ g cap u, v = .slice (some ⟨g, 0, none⟩) ws.length cap ∧ ToksIs 33 w ok u ws[i].toks ∧ w.cell? ⟨g, i * 2, none⟩ = some (.bool ws[i].spread) ∧ w.cell? ⟨g, i * 2 + 1, none⟩ = some u := by
  obtain ⟨a, cap, hv, _, hc⟩ := RowIs.cell h
  obtain ⟨g, cs, rfl, ⟨u, rfl, hu⟩, _, _, hcell⟩ := hc i hi
  exact ⟨g, cap, u, hv, hu, hcell 0 _ rfl, hcell 1 _ rfl⟩
/-- an element of a row of commands -/
theorem cmd_at {n : Nat} {w : World} {ok : Nat → Prop} {v : Value} {cs : List Cmd} (h : CmdsIs 33 49 47 n w ok v cs) {i : Nat} (hi : i < cs.length) :
    ∃ g cap u, v = .slice (some ⟨g, 0, none⟩) cs.length cap ∧ WdsIs 33 49 w ok u cs[i].words ∧ w.cell? ⟨g, i * 2, none⟩ = some (.int .i64 ((n : Int) - (cs[i].back : Int))) ∧ w.cell? ⟨g, i * 2 + 1, none⟩ = some u := by
  obtain ⟨a, cap, hv, _, hc⟩ := RowIs.cell h
  obtain ⟨g, ds, rfl, ⟨u, rfl, hu⟩, _, _, hcell⟩ := hc i hi
  exact ⟨g, cap, u, hv, hu, hcell 0 _ rfl, hcell 1 _ rfl⟩
end Go.Proofs.YtkgpmkkodpjdfaaGreatDoor.Pz
/-
  Two rows of commands that hold one list are the same.
-/
namespace Go.Proofs.YtkgpmkkodpjdfaaGreatDoor.Pz
open Go.RowKit
theorem ToksIs.ahead {w w' : World} {ok : Nat → Prop} {v : Value} {ts : List Tok} (h : ToksIs 33 w ok v ts) (hb : Below w.heap.size w w') : ToksIs 33 w' ok v ts :=
  h.keep2 (fun _ h _ => h) (fun g _ _ hc => (hb.block g (Array.getElem?_eq_some_iff.1 hc).1).trans hc)
theorem WdsIs.ahead {w w' : World} {ok : Nat → Prop} {v : Value} {ws : List Wd} (h : WdsIs 33 49 w ok v ws) (hb : Below w.heap.size w w') : WdsIs 33 49 w' ok v ws :=
  h.keep2 (fun _ h _ => h) (fun g _ _ hc => (hb.block g (Array.getElem?_eq_some_iff.1 hc).1).trans hc) (fun g _ _ hc => (hb.block g (Array.getElem?_eq_some_iff.1 hc).1).trans hc)
theorem CmdsIs.ahead {n : Nat} {w w' : World} {ok : Nat → Prop} {v : Value} {cs : List Cmd} (h : CmdsIs 33 49 47 n w ok v cs) (hb : Below w.heap.size w w') : CmdsIs 33 49 47 n w' ok v cs :=
  h.keep2 (fun _ h _ => h) (fun g _ _ hc => (hb.block g (Array.getElem?_eq_some_iff.1 hc).1).trans hc) (fun g _ _ hc => (hb.block g (Array.getElem?_eq_some_iff.1 hc).1).trans hc) (fun g _ _ hc => (hb.block g (Array.getElem?_eq_some_iff.1 hc).1).trans hc)
end Go.Proofs.YtkgpmkkodpjdfaaGreatDoor.Pz
/-
  The law's small functions.
-/
namespace Go.Proofs.YtkgpmkkodpjdfaaGreatDoor.Pz
open Go.RowKit
set_option maxRecDepth 100000 in
theorem long_fn (s : Str) (w : World) : Calls Tryz.prog 6 #[.string ⟨s.toArray⟩] w fun e w' => e = .returned (.bool (decide (800 < s.length))) ∧ w' = w := by
  have hsz : (⟨s.toArray⟩ : ByteArray).size = s.length := Lib.size_mk _
  go_enter Tryz.func6, Tryz.ntmps6
  go_wp2
  go_ret
  refine ⟨?_, rfl⟩
  simp
  omega
set_option maxRecDepth 100000 in
set_option maxHeartbeats 1000000 in
theorem awake_fn (w : World) : Calls Tryz.prog 7 #[] w fun e w' => e = .returned (.bool true) ∧ Below w.heap.size w w' := by
  have hc1 : ∀ w, Calls Tryz.prog 27 #[.string ⟨#[115, 101, 116, 32, 120, 32, 91, 102, 32, 34, 36, 97, 32, 98, 34, 93, 59, 32, 35, 32, 110, 111]⟩] w (ScriptQ text1 w) := fun w => script_fn (s := text1) (by decide) w
  have hc2 : ∀ w, Calls Tryz.prog 27 #[.string ⟨#[115, 101, 116, 32, 120, 32, 123, 97]⟩] w (ScriptQ text2 w) := fun w => script_fn (s := text2) (by decide) w
  have hc3 : ∀ w, Calls Tryz.prog 28 #[.string ⟨#[115, 101, 116, 32, 120, 32, 123, 97]⟩] w fun e w' => e = .returned (.bool false) ∧ Below w.heap.size w w' := fun w => by
    have h := complete_fn (s := text2) (by decide) w
    rw [ex2] at h
    exact h
  obtain ⟨c, r, hx1, hw3⟩ := ex1
  have H1 := hid hc1
  have H2 := hid hc2
  have H3 := hid hc3
  clear hc1 hc2 hc3
  go_enter Tryz.func7, Tryz.ntmps7
  go_wp2_with fail
  (with_reducible refine (H1.out _).mono ?_); rintro e w1 ⟨hb1, h1⟩
  rw [hx1] at h1
  obtain ⟨v, rfl, hcs⟩ := h1
  obtain ⟨g, cap, u, rfl, hws, x0, x1⟩ := cmd_at hcs (i := 0) (by simp)
  obtain ⟨a, cp, rfl⟩ : ∃ a cp, u = .slice a 3 cp := by
    obtain ⟨a, cap, hv, _⟩ := RowIs.cell hws
    refine ⟨a, cap, ?_⟩
    rw [hv]
    simp [hw3]
  have hg : g < w1.heap.size := by
    obtain ⟨css, hrow, _⟩ := hcs
    exact (ownsRow_lt hrow g rfl).1
  have HB1 := hid hb1
  have X1 := hid x1
  clear hcs hws x0 x1 hb1
  go_wp2_with fail
  (with_reducible refine (H2.out _).mono ?_); rintro e w2 ⟨hb2, h2⟩
  rw [ex2] at h2
  obtain ⟨a', e', o, hs, _, rfl⟩ := h2
  obtain ⟨rfl, rfl⟩ : a' = 6 ∧ e' = 2 := by
    simp [stopOf, stopAt, text2] at hs
    omega
  have x1 : w2.cell? ⟨g, 1, none⟩ = some (.slice a 3 cp) := by rw [hb2.cell hg]; exact X1.out
  have HB2 := hid hb2
  have hs2 := hb2.size
  have hs1 := HB1.out.size
  clear hb2 hs X1
  go_wp2_with fail
  (with_reducible refine (H3.out _).mono ?_); rintro e w3 ⟨rfl, hb3⟩
  have HB3 := hid hb3
  clear hb3
  go_wp2
  go_ret
  exact ⟨rfl, HB1.out.trans ((HB2.out.mono hs1).trans (HB3.out.mono (by omega)))⟩
end Go.Proofs.YtkgpmkkodpjdfaaGreatDoor.Pz
