/-
  Part K1 of the proofs of this seat: contracts of functions and plain facts, merged from 16 texts.
-/
import Derived.Below
import Derived.Lib.TrimByte
import Derived.Test.YtkgpmkkodpjdfaaGreatDoorProg
import Derived.WalkKit
import Derived.BigQuiet
import Derived.WalkSpells
import Derived.WalkLawsBesides
import Derived.Shelf.Small.Strs
import Derived.Shelf.Strings.BuilderK
import Derived.Shelf.Strings.Prefix
import Derived.Shelf.LaysM
import Derived.Lib.MinMax
import Derived.Lib.Strings
import Derived.Lib.Slices
import Derived.Laws.Strings3
import Derived.Deep.LoopGhost
import Derived.Lib.FrozenHead
import Derived.Lib.OthersKept
import Derived.Lib.MakeNoZero
import Derived.Laws.Externs
import Derived.OrdersHeld
import Derived.Deep.AppendLies
import Derived.Test.YtkgpmkkodpjdfaaGreatDoorK0
/-
  Facts about the reading: what is left is an end of what was read.
-/
namespace Go.Proofs.YtkgpmkkodpjdfaaGreatDoor.Pz
theorem suf_tail (c : UInt8) (t : Str) : t <:+ c :: t := ⟨[c], rfl⟩
theorem blanks_suf : ∀ (l : Str), blanks l <:+ l
  | [] => List.suffix_refl _
  | [c] => by
    unfold blanks
    split
    · exact suf_tail c []
    · exact List.suffix_refl _
  | c :: d :: t => by
    unfold blanks
    split
    · exact (blanks_suf t).trans ((suf_tail d t).trans (suf_tail c _))
    · split
      · exact (blanks_suf (d :: t)).trans (suf_tail c _)
      · exact List.suffix_refl _
theorem comment_suf : ∀ (l : Str) (o : Bool), comment o l <:+ l
  | [], _ => List.suffix_refl _
  | c :: t, o => by
    unfold comment
    split
    · exact (comment_suf t _).trans (suf_tail c t)
    · split
      · exact List.suffix_refl _
      · exact (comment_suf t _).trans (suf_tail c t)
theorem comment_hash (t : Str) : comment false (35 :: t) = comment false t := by
  rw [comment]
  rfl
theorem blanks0_suf : ∀ (l : Str), blanks0 l <:+ l
  | [] => List.suffix_refl _
  | c :: t => by
    unfold blanks0
    split
    · exact (blanks0_suf t).trans (suf_tail c t)
    · exact List.suffix_refl _
theorem digs_suf (b : Nat) : ∀ (n v : Nat) (l : Str), (digs b n v l).2 <:+ l
  | 0, _, _ => List.suffix_refl _
  | _ + 1, _, [] => List.suffix_refl _
  | n + 1, v, c :: t => by
    unfold digs
    split
    · exact (digs_suf b n _ t).trans (suf_tail c t)
    · exact List.suffix_refl _
theorem digs_shorter (b n v : Nat) (c : UInt8) (t : Str) (h : (digs b n v (c :: t)).2.length < (c :: t).length) : (digs b n v (c :: t)).2 <:+ t := by
  cases n with
  | zero => simp [digs] at h
  | succ n =>
    unfold digs at h ⊢
    split at h
    · exact digs_suf ..
    · simp at h
theorem unesc1_suf (c : UInt8) (t : Str) : (unesc1 c t).2 <:+ t := by
  unfold unesc1
  split
  · exact List.suffix_refl _
  · by_cases h1 : (c == 10) = true
    · rw [if_pos h1]; exact blanks0_suf t
    · rw [if_neg h1]
      by_cases h2 : (c == 120) = true
      · rw [if_pos h2]
        by_cases h3 : (digs 16 2 0 t).2.length < t.length
        · rw [if_pos h3]; exact digs_suf ..
        · rw [if_neg h3]; exact List.suffix_refl _
      · rw [if_neg h2]
        by_cases h3 : (digs 8 3 0 (c :: t)).2.length < (c :: t).length
        · rw [if_pos h3]; exact digs_shorter _ _ _ _ _ h3
        · rw [if_neg h3]; exact List.suffix_refl _
theorem unesc_suf : ∀ (l : Str), (unesc l).2 <:+ l
  | [] => List.suffix_refl _
  | c :: t => (unesc1_suf c t).trans (suf_tail c t)
theorem pre_some {p : Str} {o : Option (Str × Str)} {s r : Str} (h : pre p o = some (s, r)) : ∃ s', o = some (s', r) ∧ s = p ++ s' := by
  cases o with
  | none => simp [pre] at h
  | some x =>
    simp only [pre, Option.some.injEq, Prod.mk.injEq] at h
    obtain ⟨rfl, rfl⟩ := h
    exact ⟨x.1, rfl, rfl⟩
theorem brace_text : ∀ (n : Nat) (l : Str), l.length ≤ n → ∀ (d : Nat) (s r : Str), brace d l = some (s, r) → l = s ++ 125 :: r
  | n, [], _, d, s, r, h => by simp [brace] at h
  | 0, c :: t, hn, _, _, _, _ => absurd hn (by simp)
  | n + 1, c :: t, hn, d, s, r, h => by
    rw [brace.eq_def] at h
    dsimp only at h
    have ht : t.length ≤ n := by simpa using hn
    by_cases h1 : (c == 92) = true
    · rw [if_pos h1] at h
      cases t with
      | nil => simp at h
      | cons e t' =>
        obtain ⟨s', h', rfl⟩ := pre_some h
        have hr := brace_text n t' (by simp at ht; omega) d s' r h'
        rw [hr]; rfl
    · rw [if_neg h1] at h
      by_cases h2 : (c == 123) = true
      · rw [if_pos h2] at h
        obtain ⟨s', h', rfl⟩ := pre_some h
        rw [brace_text n t ht _ s' r h']; rfl
      · rw [if_neg h2] at h
        by_cases h3 : (c == 125) = true
        · rw [if_pos h3] at h
          cases d with
          | zero =>
            simp only [Option.some.injEq, Prod.mk.injEq] at h
            obtain ⟨rfl, rfl⟩ := h
            simp at h3
            subst h3
            rfl
          | succ d' =>
            obtain ⟨s', h', rfl⟩ := pre_some h
            rw [brace_text n t ht _ s' r h']; rfl
        · rw [if_neg h3] at h
          obtain ⟨s', h', rfl⟩ := pre_some h
          rw [brace_text n t ht _ s' r h']; rfl
theorem upTo_text : ∀ (l : Str) (s r : Str), upTo l = some (s, r) → l = s ++ 125 :: r
  | [], s, r, h => by simp [upTo] at h
  | c :: t, s, r, h => by
    rw [upTo] at h
    by_cases h3 : (c == 125) = true
    · rw [if_pos h3] at h
      simp only [Option.some.injEq, Prod.mk.injEq] at h
      obtain ⟨rfl, rfl⟩ := h
      simp at h3
      subst h3
      rfl
    · rw [if_neg h3] at h
      obtain ⟨s', h', rfl⟩ := pre_some h
      rw [upTo_text t s' r h']; rfl
theorem name_text : ∀ (l : Str) (o : Bool), l = (name o l).1 ++ (name o l).2
  | [], _ => rfl
  | c :: t, o => by
    rw [name]
    split
    · rw [List.cons_append, ← name_text t]
    · split
      · rw [List.cons_append, ← name_text t]
      · rfl
theorem suf_len {r l : Str} (h : r <:+ l) : r.length ≤ l.length := h.length_le
theorem blanks_stop : ∀ (l : Str) (w : Bool), parted w (blanks l) = false → ended w (blanks l) = false
  | [], w, h => by simp [blanks, parted] at h
  | [c], w, h => by
    unfold blanks at h ⊢
    by_cases h1 : (c != 10 && white c) = true
    · rw [if_pos h1] at h; simp [parted] at h
    · rw [if_neg h1] at h ⊢
      unfold ended
      rw [h]
      simp only [parted] at h
      have h2 : white c = false := by
        cases hw : white c with
        | false => rfl
        | true => rw [hw] at h1; simp at h1; subst h1; simp at h
      have h3 : joins [c] = false := by
        unfold joins
        split
        · rename_i heq
          simp at heq
        · rfl
      show (false || white c || joins [c]) = false
      rw [h2, h3]
      rfl
  | c :: d :: t, w, h => by
    unfold blanks at h ⊢
    by_cases h0 : (c == 92 && d == 10) = true
    · rw [if_pos h0] at h ⊢
      exact blanks_stop t w h
    · rw [if_neg h0] at h ⊢
      by_cases h1 : (c != 10 && white c) = true
      · rw [if_pos h1] at h ⊢
        exact blanks_stop (d :: t) w h
      · rw [if_neg h1] at h ⊢
        unfold ended
        rw [h]
        simp only [parted] at h
        have h2 : white c = false := by
          cases hw : white c with
          | false => rfl
          | true => rw [hw] at h1; simp at h1; subst h1; simp at h
        have h3 : joins (c :: d :: t) = false := by
          unfold joins
          split
          · rename_i heq
            simp only [List.cons.injEq] at heq
            obtain ⟨rfl, rfl, rfl⟩ := heq
            simp at h0
          · rfl
        show (false || white c || joins (c :: d :: t)) = false
        rw [h2, h3]
        rfl
def CmdsOk (w : Bool) (d : Nat) (l : Str) : Prop := ∀ cs r, commands w d l = .ok cs r → r <:+ l ∧ (r = [] ∨ (w = true ∧ ∃ t, r = 93 :: t))
def CmdOk (w : Bool) (d : Nat) (l : Str) : Prop := (parted w l = false → ended w l = false) → ∀ ws r, command w d l = .ok ws r → r <:+ l ∧ parted w r = true ∧ (parted w l = false → r.length < l.length ∧ ws ≠ [])
def WordOk (w : Bool) (d : Nat) (l : Str) : Prop := ended w l = false → ∀ x r, word w d l = .ok x r → r <:+ l ∧ r.length < l.length ∧ ended w r = true
def PartsOk (f : Upto) (g : Told) (d : Nat) (l : Str) : Prop := ∀ ts r, parts f g d l = .ok ts r → r <:+ l ∧ f.ends r = true ∧ (f.ends l = false → r.length < l.length)
def ScriptOk (d : Nat) (l : Str) : Prop := ∀ s r, script d l = .ok s r → l = s ++ 93 :: r
def VarOk (g : Told) (d : Nat) (l : Str) : Prop := ∀ x r, varOf g d l = .ok x r → r <:+ l ∧ (x = none → r = l)
theorem Res.cons_ok {α : Type} {x : α} {o : Res (List α)} {ts : List α} {r : Str} (h : o.cons x = .ok ts r) : ∃ ts', o = .ok ts' r ∧ ts = x :: ts' := by
  cases o with
  | halt h' => simp [Res.cons] at h
  | ok a b =>
    simp only [Res.cons, Res.ok.injEq] at h
    obtain ⟨rfl, rfl⟩ := h
    exact ⟨a, rfl, rfl⟩
theorem Res.glue_ok {p : Str} {o : Res (List Tok)} {ts : List Tok} {r : Str} (h : o.glue p = .ok ts r) : ∃ ts', o = .ok ts' r ∧ ts = Pz.glue p ts' := by
  cases o with
  | halt h' => simp [Res.glue] at h
  | ok a b =>
    simp only [Res.glue, Res.ok.injEq] at h
    obtain ⟨rfl, rfl⟩ := h
    exact ⟨a, rfl, rfl⟩
theorem ends_nil (f : Upto) : f.ends [] = true := by cases f <;> rfl
theorem cmds_step {w : Bool} {d : Nat} {l : Str} (ih1 : ∀ l', l'.length < l.length → CmdsOk w d l') (ih2 : ∀ l', l'.length ≤ l.length → CmdOk w d l') : CmdsOk w d l := by
  intro cs r h
  rw [commands] at h
  have hb := blanks_suf l
  have hs := blanks_stop l w
  rw [dif_pos (suf_len hb)] at h
  cases hl : blanks l with
  | nil =>
    rw [hl] at h hb
    simp only [Res.ok.injEq] at h
    obtain ⟨rfl, rfl⟩ := h
    exact ⟨hb, .inl rfl⟩
  | cons c t =>
    rw [hl] at h hb hs
    have hlen := suf_len hb
    simp only [List.length_cons] at hlen
    dsimp only at h
    by_cases h1 : (w && c == 93) = true
    · rw [if_pos h1] at h
      simp only [Res.ok.injEq] at h
      obtain ⟨rfl, rfl⟩ := h
      simp at h1
      obtain ⟨rfl, rfl⟩ := h1
      exact ⟨hb, .inr ⟨rfl, t, rfl⟩⟩
    · rw [if_neg h1] at h
      by_cases h2 : parted w (c :: t) = true
      · rw [if_pos h2, dif_pos (by omega)] at h
        obtain ⟨a, b⟩ := ih1 t (by omega) cs r h
        exact ⟨a.trans ((suf_tail c t).trans hb), b⟩
      · rw [if_neg h2] at h
        by_cases h3 : (c == 35) = true
        · rw [if_pos h3] at h
          simp at h3
          subst h3
          rw [comment_hash] at h
          have hcs := comment_suf t false
          have hc := suf_len hcs
          rw [dif_pos (by omega)] at h
          obtain ⟨a, b⟩ := ih1 _ (by omega) cs r h
          exact ⟨a.trans (hcs.trans ((suf_tail _ t).trans hb)), b⟩
        · rw [if_neg h3, dif_pos (by simpa using hlen)] at h
          have hp : parted w (c :: t) = false := by simpa using h2
          cases hc : command w d (c :: t) with
          | halt h' => rw [hc] at h; simp at h
          | ok ws r1 =>
            rw [hc] at h
            dsimp only at h
            obtain ⟨q1, q2, q3⟩ := ih2 (c :: t) (by simpa using hlen) hs ws r1 hc
            have q4 := (q3 hp).1
            simp only [List.length_cons] at q4
            rw [dif_pos (by omega)] at h
            obtain ⟨ts', h', rfl⟩ := Res.cons_ok h
            obtain ⟨a, b⟩ := ih1 r1 (by omega) _ _ h'
            exact ⟨a.trans (q1.trans hb), b⟩
theorem cmd_step {w : Bool} {d : Nat} {l : Str} (ih1 : ∀ l', l'.length < l.length → CmdOk w d l') (ih2 : WordOk w d l) : CmdOk w d l := by
  intro he ws r h
  rw [command] at h
  by_cases h1 : parted w l = true
  · rw [if_pos h1] at h
    simp only [Res.ok.injEq] at h
    obtain ⟨rfl, rfl⟩ := h
    exact ⟨List.suffix_refl _, h1, fun h' => by rw [h1] at h'; cases h'⟩
  · rw [if_neg h1] at h
    have hp : parted w l = false := by simpa using h1
    cases hw : word w d l with
    | halt h' => rw [hw] at h; simp at h
    | ok x r1 =>
      rw [hw] at h
      dsimp only at h
      obtain ⟨q1, q2, q3⟩ := ih2 (he hp) x r1 hw
      have hb := blanks_suf r1
      have hlen := suf_len hb
      rw [dif_pos (by omega)] at h
      obtain ⟨ts', h', rfl⟩ := Res.cons_ok h
      obtain ⟨a, b, _⟩ := ih1 (blanks r1) (by omega) (blanks_stop r1 w) _ _ h'
      have := suf_len a
      exact ⟨a.trans (hb.trans q1), b, fun _ => ⟨by omega, by simp⟩⟩
theorem word_step {w : Bool} {d : Nat} {l : Str} (ih1 : ∀ l', l'.length < l.length → WordOk w d l') (ih2 : ∀ l', l'.length ≤ l.length → ∀ f, PartsOk f all3 d l') : WordOk w d l := by
  intro he x r h
  cases l with
  | nil => simp [ended, parted] at he
  | cons c t =>
    rw [word] at h
    by_cases h1 : (c == 123) = true
    · rw [if_pos h1] at h
      cases hb : brace 0 t with
      | none => rw [hb] at h; simp at h
      | some y =>
        obtain ⟨s, r1⟩ := y
        rw [hb] at h
        dsimp only at h
        have ht := brace_text t.length t (Nat.le_refl _) 0 s r1 hb
        have hsf : r1 <:+ c :: t := ⟨c :: (s ++ [125]), by rw [ht]; simp⟩
        have hlt : r1.length < (c :: t).length := by rw [ht]; simp; omega
        by_cases h2 : (s == [42] && !ended w r1) = true
        · rw [if_pos h2, dif_pos hlt] at h
          cases hw : word w d r1 with
          | halt h' => rw [hw] at h; simp at h
          | ok x1 r2 =>
            rw [hw] at h
            simp only [Res.ok.injEq] at h
            obtain ⟨rfl, rfl⟩ := h
            simp at h2
            obtain ⟨q1, q2, q3⟩ := ih1 r1 hlt h2.2 x1 r2 hw
            exact ⟨q1.trans hsf, by omega, q3⟩
        · rw [if_neg h2] at h
          by_cases h3 : ended w r1 = true
          · rw [if_pos h3] at h
            simp only [Res.ok.injEq] at h
            obtain ⟨rfl, rfl⟩ := h
            exact ⟨hsf, hlt, h3⟩
          · rw [if_neg h3] at h; simp at h
    · rw [if_neg h1] at h
      by_cases h2 : (c == 34) = true
      · rw [if_pos h2] at h
        cases hp : parts .quote all3 d t with
        | halt h' => rw [hp] at h; simp at h
        | ok ts r1 =>
          rw [hp] at h
          dsimp only at h
          obtain ⟨q1, q2, q3⟩ := ih2 t (by simp) _ ts r1 hp
          cases r1 with
          | nil => simp at h
          | cons e r2 =>
            dsimp only at h
            have := suf_len q1
            simp only [List.length_cons] at this
            by_cases h3 : ended w r2 = true
            · rw [if_pos h3] at h
              simp only [Res.ok.injEq] at h
              obtain ⟨rfl, rfl⟩ := h
              exact ⟨(suf_tail e r2).trans (q1.trans (suf_tail c t)), by simp only [List.length_cons]; omega, h3⟩
            · rw [if_neg h3] at h; simp at h
      · rw [if_neg h2] at h
        cases hp : parts (.bare w) all3 d (c :: t) with
        | halt h' => rw [hp] at h; simp at h
        | ok ts r1 =>
          rw [hp] at h
          simp only [Res.ok.injEq] at h
          obtain ⟨rfl, rfl⟩ := h
          obtain ⟨q1, q2, q3⟩ := ih2 _ (Nat.le_refl _) _ ts r1 hp
          exact ⟨q1, q3 he, q2⟩
theorem parts_step {f : Upto} {g : Told} {d : Nat} {l : Str} (ih1 : ∀ l', l'.length < l.length → PartsOk f g d l') (ih2 : ∀ l', l'.length < l.length → VarOk g d l') (ih3 : ∀ l', l'.length < l.length → ScriptOk d l') : PartsOk f g d l := by
  intro ts r h
  rw [parts.eq_def] at h
  by_cases h0 : f.ends l = true
  · rw [if_pos h0] at h
    simp only [Res.ok.injEq] at h
    obtain ⟨rfl, rfl⟩ := h
    exact ⟨List.suffix_refl _, h0, fun h' => by rw [h0] at h'; cases h'⟩
  rw [if_neg h0] at h
  cases l with
  | nil => exact absurd (ends_nil f) h0
  | cons c t =>
    dsimp only at h
    have fin : ∀ {l' : Str} {ts'}, l' <:+ t → parts f g d l' = .ok ts' r → r <:+ c :: t ∧ f.ends r = true ∧ (f.ends (c :: t) = false → r.length < (c :: t).length) := by
      intro l' ts' hs hp
      have hl := suf_len hs
      obtain ⟨q1, q2, _⟩ := ih1 l' (by simp only [List.length_cons]; omega) _ _ hp
      have := suf_len q1
      exact ⟨q1.trans (hs.trans (suf_tail c t)), q2, fun _ => by simp only [List.length_cons]; omega⟩
    by_cases h1 : (c == 92 && g.slashes) = true
    · rw [if_pos h1] at h
      have hu := unesc_suf t
      have hul := suf_len hu
      rw [dif_pos (by simp only [List.length_cons]; omega)] at h
      obtain ⟨ts', h', rfl⟩ := Res.glue_ok h
      exact fin hu h'
    rw [if_neg h1] at h
    by_cases h2 : (c == 36 && g.vars) = true
    · rw [if_pos h2] at h
      cases hv : varOf g d t with
      | halt h' => rw [hv] at h; simp at h
      | ok x r1 =>
        obtain ⟨q1, q2⟩ := ih2 t (by simp) x r1 hv
        have hq := suf_len q1
        rw [hv] at h
        cases x with
        | none =>
          obtain ⟨ts', h', rfl⟩ := Res.glue_ok h
          exact fin (List.suffix_refl _) h'
        | some y =>
          dsimp only at h
          rw [dif_pos (by simp only [List.length_cons]; omega)] at h
          obtain ⟨ts', h', rfl⟩ := Res.cons_ok h
          exact fin q1 h'
    rw [if_neg h2] at h
    by_cases h3 : (c == 91 && g.scripts) = true
    · rw [if_pos h3] at h
      cases hv : script d t with
      | halt h' => rw [hv] at h; simp at h
      | ok x r1 =>
        have hx := ih3 t (by simp) x r1 hv
        have hq : r1 <:+ t := ⟨x ++ [93], by rw [hx]; simp⟩
        have hql := suf_len hq
        rw [hv] at h
        dsimp only at h
        rw [dif_pos (by simp only [List.length_cons]; omega)] at h
        obtain ⟨ts', h', rfl⟩ := Res.cons_ok h
        exact fin hq h'
    rw [if_neg h3] at h
    obtain ⟨ts', h', rfl⟩ := Res.glue_ok h
    exact fin (List.suffix_refl _) h'
theorem script_step {d : Nat} {l : Str} (ih : CmdsOk true (d + 1) l) : ScriptOk d l := by
  intro s r h
  rw [script] at h
  by_cases h0 : (d == maxDeep) = true
  · rw [if_pos h0] at h; simp at h
  rw [if_neg h0] at h
  cases hc : commands true (d + 1) l with
  | halt h' => rw [hc] at h; simp at h
  | ok cs r1 =>
    rw [hc] at h
    obtain ⟨⟨p, hp⟩, q2⟩ := ih cs r1 hc
    cases r1 with
    | nil => simp at h
    | cons e r2 =>
      simp only [Res.ok.injEq] at h
      obtain ⟨rfl, rfl⟩ := h
      rcases q2 with q2 | ⟨_, t', q2⟩
      · simp at q2
      · simp only [List.cons.injEq] at q2
        obtain ⟨rfl, rfl⟩ := q2
        rw [← hp]
        simp
theorem var_step {g : Told} {d : Nat} {l : Str} (ih : ∀ l', l'.length < l.length → PartsOk .paren g (d + 1) l') : VarOk g d l := by
  intro x r h
  rw [varOf] at h
  by_cases h0 : (l.head? == some 123) = true
  · rw [if_pos h0] at h
    cases l with
    | nil => simp at h0
    | cons c t =>
      simp only [List.tail_cons] at h
      cases hu : upTo t with
      | none => rw [hu] at h; simp at h
      | some y =>
        obtain ⟨s, r1⟩ := y
        rw [hu] at h
        simp only [Res.ok.injEq] at h
        obtain ⟨rfl, rfl⟩ := h
        have ht := upTo_text t s r1 hu
        exact ⟨⟨c :: (s ++ [125]), by rw [ht]; simp⟩, fun h' => by cases h'⟩
  rw [if_neg h0] at h
  have hn := name_text l false
  cases hnm : name false l with
  | mk s r1 =>
    rw [hnm] at h hn
    dsimp only at h hn
    have hsf : r1 <:+ l := ⟨s, hn.symm⟩
    by_cases h1 : s.isEmpty = true
    · rw [if_pos h1] at h
      simp only [Res.ok.injEq] at h
      obtain ⟨rfl, rfl⟩ := h
      exact ⟨List.suffix_refl _, fun _ => rfl⟩
    rw [if_neg h1] at h
    cases r1 with
    | nil =>
      simp only [Res.ok.injEq] at h
      obtain ⟨rfl, rfl⟩ := h
      exact ⟨hsf, fun h' => by cases h'⟩
    | cons c t =>
      dsimp only at h
      by_cases h2 : (c == 40) = true
      · rw [if_pos h2] at h
        by_cases h3 : (d == maxDeep) = true
        · rw [if_pos h3] at h; simp at h
        have hl := suf_len hsf
        simp only [List.length_cons] at hl
        rw [if_neg h3, dif_pos (by omega)] at h
        cases hp : parts .paren g (d + 1) t with
        | halt h' => rw [hp] at h; simp at h
        | ok ts r2 =>
          rw [hp] at h
          obtain ⟨q1, _, _⟩ := ih t (by omega) ts r2 hp
          cases r2 with
          | nil => simp at h
          | cons e r3 =>
            simp only [Res.ok.injEq] at h
            obtain ⟨rfl, rfl⟩ := h
            exact ⟨(suf_tail e r3).trans (q1.trans ((suf_tail c t).trans hsf)), fun h' => by cases h'⟩
      · rw [if_neg h2] at h
        simp only [Res.ok.injEq] at h
        obtain ⟨rfl, rfl⟩ := h
        exact ⟨hsf, fun h' => by cases h'⟩
theorem all_ok : ∀ (n : Nat), (∀ w d l, l.length * 8 + 5 ≤ n → CmdsOk w d l) ∧ (∀ w d l, l.length * 8 + 4 ≤ n → CmdOk w d l) ∧ (∀ w d l, l.length * 8 + 3 ≤ n → WordOk w d l) ∧
    (∀ f g d l, l.length * 8 + 2 ≤ n → PartsOk f g d l) ∧ (∀ d l, l.length * 8 + 6 ≤ n → ScriptOk d l) ∧ (∀ g d l, l.length * 8 + 1 ≤ n → VarOk g d l) := by
  intro n
  induction n with
  | zero => refine ⟨?_, ?_, ?_, ?_, ?_, ?_⟩ <;> intros <;> omega
  | succ n ih =>
    obtain ⟨i1, i2, i3, i4, i5, i6⟩ := ih
    refine ⟨fun w d l h => cmds_step (fun l' h' => i1 w d l' (by omega)) (fun l' h' => i2 w d l' (by omega)),
      fun w d l h => cmd_step (fun l' h' => i2 w d l' (by omega)) (i3 w d l (by omega)),
      fun w d l h => word_step (fun l' h' => i3 w d l' (by omega)) (fun l' h' f => i4 f all3 d l' (by omega)),
      fun f g d l h => parts_step (fun l' h' => i4 f g d l' (by omega)) (fun l' h' => i6 g d l' (by omega)) (fun l' h' => i5 d l' (by omega)),
      fun d l h => script_step (i1 true (d + 1) l (by omega)), fun g d l h => var_step (fun l' h' => i4 .paren g (d + 1) l' (by omega))⟩
theorem cmds_ok (w : Bool) (d : Nat) (l : Str) : CmdsOk w d l := (all_ok (l.length * 8 + 5)).1 w d l (Nat.le_refl _)
theorem cmd_ok (w : Bool) (d : Nat) (l : Str) : CmdOk w d l := (all_ok (l.length * 8 + 4)).2.1 w d l (Nat.le_refl _)
theorem word_ok (w : Bool) (d : Nat) (l : Str) : WordOk w d l := (all_ok (l.length * 8 + 3)).2.2.1 w d l (Nat.le_refl _)
theorem parts_ok (f : Upto) (g : Told) (d : Nat) (l : Str) : PartsOk f g d l := (all_ok (l.length * 8 + 2)).2.2.2.1 f g d l (Nat.le_refl _)
theorem script_ok (d : Nat) (l : Str) : ScriptOk d l := (all_ok (l.length * 8 + 6)).2.2.2.2.1 d l (Nat.le_refl _)
theorem var_ok (g : Told) (d : Nat) (l : Str) : VarOk g d l := (all_ok (l.length * 8 + 1)).2.2.2.2.2 g d l (Nat.le_refl _)
end Go.Proofs.YtkgpmkkodpjdfaaGreatDoor.Pz
/-
  Where commands stand (P6.4); first laws on a text, a line feed and another text.
-/
namespace Go.Proofs.YtkgpmkkodpjdfaaGreatDoor.Pz
/-- what a reading of commands was: at its end · behind a separator or a comment · behind a command -/
theorem cmds_inv {w : Bool} {d : Nat} {l : Str} {cs : List Cmd} {r : Str} (h : commands w d l = .ok cs r) :
    (blanks l = r ∧ cs = []) ∨ (∃ t, t.length < l.length ∧ t <:+ l ∧ commands w d t = .ok cs r) ∨
    (∃ c t ws r1 cs', blanks l = c :: t ∧ c ≠ 35 ∧ parted w (c :: t) = false ∧ command w d (c :: t) = .ok ws r1 ∧ r1.length < (c :: t).length ∧ r1 <:+ c :: t ∧ commands w d r1 = .ok cs' r ∧ cs = ⟨(c :: t).length, ws⟩ :: cs') := by
  rw [commands] at h
  have hb := blanks_suf l
  have hs := blanks_stop l w
  rw [dif_pos (suf_len hb)] at h
  cases hl : blanks l with
  | nil =>
    rw [hl] at h hb
    simp only [Res.ok.injEq] at h
    obtain ⟨rfl, rfl⟩ := h
    exact .inl ⟨rfl, rfl⟩
  | cons c t =>
    rw [hl] at h hb hs
    have hlen := suf_len hb
    simp only [List.length_cons] at hlen
    dsimp only at h
    by_cases h1 : (w && c == 93) = true
    · rw [if_pos h1] at h
      simp only [Res.ok.injEq] at h
      obtain ⟨rfl, rfl⟩ := h
      exact .inl ⟨rfl, rfl⟩
    rw [if_neg h1] at h
    by_cases h2 : parted w (c :: t) = true
    · rw [if_pos h2, dif_pos (by omega)] at h
      exact .inr (.inl ⟨t, by omega, (suf_tail c t).trans hb, h⟩)
    rw [if_neg h2] at h
    by_cases h3 : (c == 35) = true
    · rw [if_pos h3] at h
      simp at h3
      subst h3
      rw [comment_hash] at h
      have hcs := comment_suf t false
      have hc := suf_len hcs
      rw [dif_pos (by omega)] at h
      exact .inr (.inl ⟨_, by omega, hcs.trans ((suf_tail _ t).trans hb), h⟩)
    rw [if_neg h3, dif_pos (by simpa using hlen)] at h
    have hp : parted w (c :: t) = false := by simpa using h2
    cases hc : command w d (c :: t) with
    | halt h' => rw [hc] at h; simp at h
    | ok ws r1 =>
      rw [hc] at h
      dsimp only at h
      obtain ⟨q1, q2, q3⟩ := cmd_ok w d (c :: t) hs ws r1 hc
      have q4 := (q3 hp).1
      have q5 := q4
      simp only [List.length_cons] at q4
      rw [dif_pos (by omega)] at h
      obtain ⟨ts', h', rfl⟩ := Res.cons_ok h
      exact .inr (.inr ⟨c, t, ws, r1, ts', rfl, by simpa using h3, hp, hc, q5, q1, h', rfl⟩)
/-- where commands stand: each behind the one before it, at no blank, separator or comment, each with a word -/
def Placed : Str → List Cmd → Prop
  | _, [] => True
  | l, c :: cs => ∃ ch t, ch :: t <:+ l ∧ c.back = (ch :: t).length ∧ white ch = false ∧ ch ≠ 59 ∧ ch ≠ 35 ∧ c.words ≠ [] ∧ Placed t cs
theorem Placed.mono {l l' : Str} {cs : List Cmd} (h : Placed l cs) (hs : l <:+ l') : Placed l' cs := by
  cases cs with
  | nil => trivial
  | cons c cs =>
    obtain ⟨ch, t, q, qq⟩ := h
    exact ⟨ch, t, q.trans hs, qq⟩
theorem suf_of_shorter {r t : Str} {c : UInt8} (h : r <:+ c :: t) (hl : r.length < (c :: t).length) : r <:+ t := by
  obtain ⟨p, hp⟩ := h
  cases p with
  | nil =>
    simp only [List.nil_append] at hp
    subst hp
    simp at hl
  | cons x p =>
    simp only [List.cons_append, List.cons.injEq] at hp
    exact ⟨p, hp.2⟩
theorem placed_of : ∀ (n : Nat) (w : Bool) (d : Nat) (l : Str), l.length ≤ n → ∀ cs r, commands w d l = .ok cs r → Placed l cs := by
  intro n
  induction n with
  | zero =>
    intro w d l hn cs r h
    rcases cmds_inv h with ⟨_, rfl⟩ | ⟨t, q1, _⟩ | ⟨c, t, ws, r1, cs', q1, _⟩
    · trivial
    · omega
    · have := suf_len (blanks_suf l)
      rw [q1] at this
      simp only [List.length_cons] at this
      omega
  | succ n ih =>
    intro w d l hn cs r h
    rcases cmds_inv h with ⟨_, rfl⟩ | ⟨t, q1, q2, q3⟩ | ⟨c, t, ws, r1, cs', q1, q2, q3, q4, q5, q6, q7, rfl⟩
    · trivial
    · exact (ih w d t (by omega) cs r q3).mono q2
    · have hsf : c :: t <:+ l := by rw [← q1]; exact blanks_suf l
      have hlen := suf_len hsf
      have hst := blanks_stop l w
      rw [q1] at hst
      have he := hst q3
      obtain ⟨_, _, qw⟩ := cmd_ok w d (c :: t) hst ws r1 q4
      refine ⟨c, t, hsf, rfl, ?_, ?_, q2, (qw q3).2, (ih w d r1 (by omega) cs' r q7).mono (suf_of_shorter q6 q5)⟩
      · unfold ended at he
        cases hw : white c with
        | false => rfl
        | true => simp [hw] at he
      · rintro rfl
        simp [parted] at q3
/-! P6.3: a script, a line feed and another one -/
/-- a text that does not end with a backslash -/
def Shut (l : Str) : Prop := ∀ p, l ≠ p ++ [92]
theorem Shut.suf {l r : Str} (h : Shut l) (hs : r <:+ l) : Shut r := by
  obtain ⟨p, rfl⟩ := hs
  rintro q rfl
  exact h (p ++ q) (by simp)
theorem Shut.one {t : Str} (h : Shut (92 :: t)) : t ≠ [] := by
  rintro rfl
  exact h [] rfl
theorem joins_app {l e : Str} (h : Shut l) (hl : l ≠ []) : joins (l ++ 10 :: e) = joins l := by
  cases l with
  | nil => exact absurd rfl hl
  | cons c t =>
    cases t with
    | nil =>
      have hc : c ≠ 92 := by rintro rfl; exact h.one rfl
      have h1 : joins ([c] ++ 10 :: e) = false := by
        unfold joins
        split
        · rename_i heq
          simp only [List.cons_append, List.cons.injEq] at heq
          exact absurd heq.1 hc
        · rfl
      have h2 : joins [c] = false := by
        unfold joins
        split
        · rename_i heq; simp at heq
        · rfl
      rw [h1, h2]
    | cons b t =>
      by_cases hj : c = 92 ∧ b = 10
      · obtain ⟨rfl, rfl⟩ := hj
        rfl
      · have h1 : ∀ x, joins (c :: b :: x) = false := by
          intro x
          unfold joins
          split
          · rename_i heq
            simp only [List.cons.injEq] at heq
            exact absurd ⟨heq.1, heq.2.1⟩ hj
          · rfl
        show joins (c :: b :: (t ++ 10 :: e)) = _
        rw [h1, h1]
theorem parted_app (w : Bool) (l e : Str) : parted w (l ++ 10 :: e) = parted w l := by
  cases l with
  | nil => rfl
  | cons c t => rfl
theorem ended_app (w : Bool) {l e : Str} (h : Shut l) : ended w (l ++ 10 :: e) = ended w l := by
  cases l with
  | nil => rfl
  | cons c t =>
    unfold ended
    rw [parted_app, joins_app h (by simp)]
    rfl
theorem blanks_app : ∀ (l : Str), Shut l → ∀ (e : Str), blanks (l ++ 10 :: e) = blanks l ++ 10 :: e
  | [], _, e => by
    cases e with
    | nil => rfl
    | cons x e => rfl
  | [c], h, e => by
    have hc : c ≠ 92 := by rintro rfl; exact h.one rfl
    have h1 : (c == 92 && (10 : UInt8) == 10) = false := by simp [hc]
    show blanks (c :: 10 :: e) = _
    rw [blanks.eq_3, if_neg (by rw [h1]; simp)]
    by_cases hw : (c != 10 && white c) = true
    · rw [if_pos hw, blanks, if_pos hw]
      cases e with
      | nil => rfl
      | cons x e => rfl
    · rw [if_neg hw, blanks, if_neg hw]
      rfl
  | c :: d :: t, h, e => by
    show blanks (c :: d :: (t ++ 10 :: e)) = _
    rw [blanks, blanks]
    by_cases h1 : (c == 92 && d == 10) = true
    · rw [if_pos h1, if_pos h1]
      exact blanks_app t (h.suf ((suf_tail d t).trans (suf_tail c _))) e
    · rw [if_neg h1, if_neg h1]
      by_cases h2 : (c != 10 && white c) = true
      · rw [if_pos h2, if_pos h2]
        exact blanks_app (d :: t) (h.suf (suf_tail c _)) e
      · rw [if_neg h2, if_neg h2]
        rfl
theorem comment_app : ∀ (l : Str) (o : Bool), Shut l → (l = [] → o = false) → ∀ (e : Str), comment o (l ++ 10 :: e) = comment o l ++ 10 :: e
  | [], o, _, ho, e => by
    rw [ho rfl]
    rfl
  | c :: t, o, h, _, e => by
    show comment o (c :: (t ++ 10 :: e)) = _
    rw [comment, comment]
    by_cases h1 : (c == 92) = true
    · rw [if_pos h1, if_pos h1]
      simp at h1
      subst h1
      exact comment_app t _ (h.suf (suf_tail _ t)) (fun h' => absurd h' h.one) e
    · rw [if_neg h1, if_neg h1]
      by_cases h2 : (c == 10 && !o) = true
      · rw [if_pos h2, if_pos h2]
        rfl
      · rw [if_neg h2, if_neg h2]
        exact comment_app t _ (h.suf (suf_tail _ t)) (fun _ => rfl) e
end Go.Proofs.YtkgpmkkodpjdfaaGreatDoor.Pz
/-
  The reading's equations without guards; the loop that puts tokens together from the left.
-/
namespace Go.Proofs.YtkgpmkkodpjdfaaGreatDoor.Pz
/-! The reading's equations without the guards of its recursion. -/
theorem parts_end {f : Upto} {l : Str} (h : f.ends l = true) (g : Told) (d : Nat) : parts f g d l = .ok [] l := by
  rw [parts.eq_def, if_pos h]
theorem parts_cons {f : Upto} {c : UInt8} {t : Str} (h : f.ends (c :: t) = false) (g : Told) (d : Nat) : parts f g d (c :: t) =
    if c == 92 && g.slashes then (parts f g d (unesc t).2).glue (unesc t).1
    else if c == 36 && g.vars then
      match varOf g d t with
      | .halt h => .halt h
      | .ok none _ => (parts f g d t).glue [c]
      | .ok (some x) r => (parts f g d r).cons x
    else if c == 91 && g.scripts then
      match script d t with
      | .halt h => .halt h
      | .ok s r => (parts f g d r).cons (.mk 3 s false [])
    else (parts f g d t).glue [c] := by
  rw [parts.eq_def, if_neg (by rw [h]; simp)]
  dsimp only
  have hu := suf_len (unesc_suf t)
  rw [dif_pos (by simp only [List.length_cons]; omega)]
  split
  · rfl
  · split
    · cases hv : varOf g d t with
      | halt h' => rfl
      | ok x r =>
        cases x with
        | none => rfl
        | some y =>
          have := suf_len (var_ok g d t _ r hv).1
          dsimp only
          rw [dif_pos (by simp only [List.length_cons]; omega)]
    · split
      · cases hv : script d t with
        | halt h' => rfl
        | ok x r =>
          have := script_ok d t x r hv
          dsimp only
          rw [dif_pos (by rw [this]; simp; omega)]
      · rfl
theorem command_end {w : Bool} {l : Str} (h : parted w l = true) (d : Nat) : command w d l = .ok [] l := by
  rw [command, if_pos h]
theorem command_cons {w : Bool} {l : Str} (h : parted w l = false) (he : ended w l = false) (d : Nat) : command w d l =
    match word w d l with
    | .halt h => .halt h
    | .ok x r => (command w d (blanks r)).cons x := by
  rw [command, if_neg (by rw [h]; simp)]
  cases hw : word w d l with
  | halt h' => rfl
  | ok x r =>
    have h1 := (word_ok w d l he x r hw).2.1
    have h2 := suf_len (blanks_suf r)
    dsimp only
    rw [dif_pos (by omega)]
theorem commands_eq (w : Bool) (d : Nat) (l : Str) : commands w d l =
    match blanks l with
    | [] => .ok [] []
    | c :: t =>
      if w && c == 93 then .ok [] (c :: t)
      else if parted w (c :: t) then commands w d t
      else if c == 35 then commands w d (comment false (c :: t))
      else
        match command w d (c :: t) with
        | .halt h => .halt h
        | .ok ws r => (commands w d r).cons ⟨(c :: t).length, ws⟩ := by
  rw [commands]
  have hb := blanks_suf l
  have hs := blanks_stop l w
  rw [dif_pos (suf_len hb)]
  cases hl : blanks l with
  | nil => rfl
  | cons c t =>
    rw [hl] at hb hs
    have hlen := suf_len hb
    simp only [List.length_cons] at hlen
    dsimp only
    by_cases h1 : (w && c == 93) = true
    · rw [if_pos h1, if_pos h1]
    rw [if_neg h1, if_neg h1]
    by_cases h2 : parted w (c :: t) = true
    · rw [if_pos h2, if_pos h2, dif_pos (by omega)]
    rw [if_neg h2, if_neg h2]
    by_cases h3 : (c == 35) = true
    · rw [if_pos h3, if_pos h3]
      simp at h3
      subst h3
      rw [comment_hash]
      have hc := suf_len (comment_suf t false)
      rw [dif_pos (by omega)]
    rw [if_neg h3, if_neg h3, dif_pos (by simpa using hlen)]
    cases hc : command w d (c :: t) with
    | halt h' => rfl
    | ok ws r =>
      have hp : parted w (c :: t) = false := by simpa using h2
      have h4 := ((cmd_ok w d (c :: t) hs ws r hc).2.2 hp).1
      simp only [List.length_cons] at h4
      dsimp only
      rw [dif_pos (by omega)]
theorem word_brace {w : Bool} {t : Str} (d : Nat) : word w d (123 :: t) =
    match brace 0 t with
    | none => .halt (.lacks (t.length + 1))
    | some (s, r) =>
      if s == [42] && !ended w r then
        match word w d r with
        | .ok x r' => .ok ⟨true, x.toks⟩ r'
        | .halt h => .halt h
      else if ended w r then .ok ⟨false, [Tok.txt (joined false s)]⟩ r
      else .halt (.wrong r.length) := by
  rw [word, if_pos (by decide)]
  cases hb : brace 0 t with
  | none => rfl
  | some y =>
    obtain ⟨s, r⟩ := y
    have ht := brace_text t.length t (Nat.le_refl _) 0 s r hb
    dsimp only
    rw [dif_pos (by rw [ht]; simp; omega)]
    rfl
theorem word_quote {w : Bool} {t : Str} (d : Nat) : word w d (34 :: t) =
    match parts .quote all3 d t with
    | .halt h => .halt h
    | .ok ts r =>
      match r with
      | [] => .halt (.lacks (t.length + 1))
      | _ :: r' => if ended w r' then .ok ⟨false, filled ts⟩ r' else .halt (.wrong r'.length) := by
  rw [word, if_neg (by decide), if_pos (by decide)]
  rfl
theorem word_bare {w : Bool} {c : UInt8} {t : Str} (h1 : c ≠ 123) (h2 : c ≠ 34) (d : Nat) : word w d (c :: t) =
    match parts (.bare w) all3 d (c :: t) with
    | .halt h => .halt h
    | .ok ts r => .ok ⟨false, filled ts⟩ r := by
  rw [word, if_neg (by simpa using h1), if_neg (by simpa using h2)]
  rfl
theorem varOf_index {g : Told} {d : Nat} {l s t : Str} (h0 : l.head? ≠ some 123) (hn : name false l = (s, 40 :: t)) (hs : s ≠ []) : varOf g d l =
    if d == maxDeep then .halt .deep
    else
      match parts .paren g (d + 1) t with
      | .halt h => .halt h
      | .ok ts r' =>
        match r' with
        | [] => .halt (.lacks (t.length + 1))
        | _ :: r'' => .ok (some (.mk 2 s true (filled ts))) r'' := by
  have ht := name_text l false
  rw [hn] at ht
  rw [varOf, if_neg (by simpa using h0), hn]
  dsimp only
  rw [if_neg (by simpa using hs), if_pos (by decide)]
  split
  · rfl
  · rw [dif_pos (by rw [ht]; simp; omega)]
    rfl
/-! The loop of 'parts' puts tokens together from the left. -/
theorem glue_glue (p q : Str) (ts : List Tok) : glue p (glue q ts) = glue (p ++ q) ts := by
  cases ts with
  | nil => rfl
  | cons x ts =>
    obtain ⟨k, s, h, ix⟩ := x
    by_cases hk : (k == 1) = true
    · have e : ∀ x : Str, glue x (.mk k s h ix :: ts) = .mk 1 (x ++ s) h ix :: ts := fun x => by rw [glue, if_pos hk]
      have e1 : ∀ x y : Str, glue x (.mk 1 y h ix :: ts) = .mk 1 (x ++ y) h ix :: ts := fun x y => by rw [glue, if_pos (by decide)]
      rw [e, e1, e, List.append_assoc]
    · have e : ∀ x : Str, glue x (.mk k s h ix :: ts) = Tok.txt x :: .mk k s h ix :: ts := fun x => by rw [glue, if_neg hk]
      have e1 : ∀ x y : Str, glue x (Tok.txt y :: .mk k s h ix :: ts) = Tok.txt (x ++ y) :: .mk k s h ix :: ts := fun x y => by
        rw [Tok.txt, glue, if_pos (by decide)]
        rfl
      rw [e, e1, e]
def glueE (p : Str) (ts : List Tok) : List Tok := if p.isEmpty then ts else glue p ts
/-- what stands ready is put behind the tokens -/
def flush (p : Str) : List Tok := if p.isEmpty then [] else [Tok.txt p]
def Tok.kind : Tok → Nat | .mk k _ _ _ => k
def acc (out : List Tok) (p : Str) : Res (List Tok) → Res (List Tok)
  | .ok ts r => .ok (out ++ glueE p ts) r
  | .halt h => .halt h
theorem acc_nil (R : Res (List Tok)) : acc [] [] R = R := by cases R <;> rfl
theorem acc_end (out : List Tok) (p l : Str) : acc out p (.ok [] l) = .ok (out ++ flush p) l := by
  cases p with
  | nil => rfl
  | cons c p => rfl
theorem acc_glue (out : List Tok) (p : Str) {q : Str} (hq : q ≠ []) (R : Res (List Tok)) : acc out p (R.glue q) = acc out (p ++ q) R := by
  cases R with
  | halt h => rfl
  | ok ts r =>
    show Res.ok (out ++ glueE p (glue q ts)) r = Res.ok (out ++ glueE (p ++ q) ts) r
    unfold glueE
    rw [if_neg (show ¬ (p ++ q).isEmpty = true by simp [hq])]
    cases p with
    | nil => rfl
    | cons c p =>
      rw [if_neg (by simp), glue_glue]
theorem acc_cons (out : List Tok) (p : Str) {x : Tok} (hx : x.kind ≠ 1) (R : Res (List Tok)) : acc out p (R.cons x) = acc (out ++ flush p ++ [x]) [] R := by
  cases R with
  | halt h => rfl
  | ok ts r =>
    obtain ⟨k, s, h, ix⟩ := x
    have hk : ¬ (k == 1) = true := by simpa [Tok.kind] using hx
    show Res.ok (out ++ glueE p (.mk k s h ix :: ts)) r = Res.ok (out ++ flush p ++ [.mk k s h ix] ++ ts) r
    unfold glueE flush
    cases p with
    | nil => simp
    | cons c p =>
      rw [if_neg (by simp), if_neg (by simp), glue, if_neg hk]
      simp
theorem unesc_ne : ∀ (l : Str), (unesc l).1 ≠ []
  | [] => by simp [unesc]
  | c :: t => by
    show (unesc1 c t).1 ≠ []
    unfold unesc1
    split
    · simp
    · split
      · simp
      · split
        · split <;> simp
        · split <;> simp
theorem var_kind {g : Told} {d : Nat} {l : Str} {x : Tok} {r : Str} (h : varOf g d l = .ok (some x) r) : x.kind = 2 := by
  rw [varOf] at h
  repeat' split at h
  all_goals first
    | (simp only [Res.ok.injEq, Option.some.injEq] at h; obtain ⟨rfl, _⟩ := h; rfl)
    | cases h
end Go.Proofs.YtkgpmkkodpjdfaaGreatDoor.Pz
/-
  What was read, in memory: rows of tokens, of words, of commands.
-/
namespace Go.Proofs.YtkgpmkkodpjdfaaGreatDoor.Pz
open Go Go.RowKit
/-- below block number B all blocks but one stand as they stood -/
structure But (rb B : Nat) (w w' : World) : Prop where
  os : w'.os = w.os
  tape : w'.tape = w.tape
  output : w'.output = w.output
  size : w.heap.size ≤ w'.heap.size
  block : ∀ k, k < B → k ≠ rb → w'.heap[k]? = w.heap[k]?
theorem But.refl (rb B : Nat) (w : World) : But rb B w w := ⟨rfl, rfl, rfl, Nat.le_refl _, fun _ _ _ => rfl⟩
theorem But.trans {rb B : Nat} {a b c : World} (h : But rb B a b) (k : But rb B b c) : But rb B a c :=
  ⟨k.os.trans h.os, k.tape.trans h.tape, k.output.trans h.output, Nat.le_trans h.size k.size, fun i hi hr => (k.block i hi hr).trans (h.block i hi hr)⟩
theorem But.mono {rb B B' : Nat} {w w' : World} (h : But rb B w w') (hB : B' ≤ B) : But rb B' w w' := ⟨h.os, h.tape, h.output, h.size, fun k hk => h.block k (Nat.lt_of_lt_of_le hk hB)⟩
theorem but_of_below {B : Nat} {w w' : World} (h : Below B w w') (rb : Nat) : But rb B w w' := ⟨h.os, h.tape, h.output, h.size, fun k hk _ => h.block k hk⟩
/-- where the one block is new, all old ones stand -/
theorem But.below {rb B : Nat} {w w' : World} (h : But rb B w w') (hr : B ≤ rb) : Below B w w' := ⟨h.os, h.tape, h.output, h.size, fun k hk => h.block k hk (by omega)⟩
theorem But.drew {rb B : Nat} {a w : World} (h : But rb B a w) : But rb B a w.drew := ⟨h.os, h.tape, h.output, h.size, h.block⟩
theorem But.alloc {rb B : Nat} {a w : World} (h : But rb B a w) (hB : B ≤ w.heap.size) (o : Obj) : But rb B a (w.alloc o) :=
  h.trans ⟨rfl, rfl, rfl, by simp, fun k hk _ => Below.heap_alloc _ _ _ (by omega)⟩
theorem But.setCell {rb B : Nat} {a w : World} (h : But rb B a w) {p : Addr} (hp : p.block = rb ∨ B ≤ p.block) (u : Value) : But rb B a (w.setCell p u) :=
  h.trans ⟨rfl, rfl, rfl, by simp [World.setCell], fun k hk hr => Below.heap_setCell _ _ _ _ (by omega)⟩
theorem But.grown {rb B : Nat} {a w w' : World} {row : Option Nat} (h : But rb B a w) (hg : w.grownBy w' row) (hB : B ≤ w.heap.size) (hr : ∀ k, row = some k → B ≤ k) : But rb B a w' :=
  h.trans ⟨hg.os, hg.tape, hg.output, hg.size, fun k hk _ => hg.block k (by omega) (fun e => by have := hr k e.symm; omega)⟩
theorem But.cell {rb B : Nat} {w w' : World} (h : But rb B w w') {p : Addr} (hp : p.block < B) (hr : p.block ≠ rb) : w'.cell? p = w.cell? p := World.cell?_of_block (w := w) (h.block p.block hp hr)
/-- a row stands where its block stands -/
theorem ownsRow_heap {w w' : World} {base : Nat} {e : TypeId} {size : Nat} {v : Value} {n : Nat} {xs : List Value} (h : w.ownsRow base e size v n xs) (hh : ∀ g, v.ownBlock = some g → w'.heap[g]? = w.heap[g]?) : w'.ownsRow base e size v n xs := by
  refine ⟨h.1, ?_⟩
  rcases h.2 with hn | ⟨g, cap, cur, rfl, hb, hgg, rest⟩
  · exact .inl hn
  · exact .inr ⟨g, cap, cur, rfl, hb, (hh g rfl).trans hgg, rest⟩
/-- a slice of elements of several cells: its block is one of those that are allowed -/
def RowIs {α : Type} (E : TypeId) (sz : Nat) (elt : List Value → α → Prop) (w : World) (ok : Nat → Prop) (v : Value) (xs : List α) : Prop :=
  ∃ css : List (List Value), w.ownsRow 0 E sz v xs.length css.flatten ∧ (∀ g, v.ownBlock = some g → ok g) ∧ css.length = xs.length ∧ ∀ i (h1 : i < css.length) (h2 : i < xs.length), elt css[i] xs[i] ∧ css[i].length = sz
/-- the cells of a token, and all that lies below it -/
inductive TokIs (TE : TypeId) (w : World) (ok : Nat → Prop) : List Value → Tok → Prop
  | mk (k : Nat) (s : Str) (h : Bool) (ix : List Tok) (v : Value) (css : List (List Value)) (hrow : w.ownsRow 0 TE 4 v ix.length css.flatten) (hok : ∀ g, v.ownBlock = some g → ok g)
      (hl : css.length = ix.length) (hs : ∀ i (h1 : i < css.length) (h2 : i < ix.length), TokIs TE w ok css[i] ix[i]) :
      TokIs TE w ok [.int .i64 (k : Int), .string ⟨s.toArray⟩, .bool h, v] (.mk k s h ix)
theorem TokIs.keep {TE : TypeId} {w w' : World} {ok ok' : Nat → Prop} {cs : List Value} {t : Tok} (h : TokIs TE w ok cs t) (hk : ∀ g, ok g → ok' g) (hh : ∀ g, ok g → w'.heap[g]? = w.heap[g]?) : TokIs TE w' ok' cs t := by
  induction h with
  | mk k s h ix v css hrow hok hl hs ih => exact .mk k s h ix v css (ownsRow_heap hrow fun g hg => hh g (hok g hg)) (fun g hg => hk g (hok g hg)) hl ih
theorem TokIs.len {TE : TypeId} {w : World} {ok : Nat → Prop} {cs : List Value} {t : Tok} (h : TokIs TE w ok cs t) : cs.length = 4 := by
  cases h; rfl
def ToksIs (TE : TypeId) (w : World) (ok : Nat → Prop) (v : Value) (ts : List Tok) : Prop := RowIs TE 4 (TokIs TE w ok) w ok v ts
theorem TokIs.of {TE : TypeId} {w : World} {ok : Nat → Prop} {v : Value} {ix : List Tok} (h : ToksIs TE w ok v ix) (k : Nat) (s : Str) (b : Bool) : TokIs TE w ok [.int .i64 (k : Int), .string ⟨s.toArray⟩, .bool b, v] (.mk k s b ix) := by
  obtain ⟨css, h1, h2, h3, h4⟩ := h
  exact .mk k s b ix v css h1 h2 h3 fun i a b => (h4 i a b).1
theorem RowIs.keep {α : Type} {E : TypeId} {sz : Nat} {elt elt' : List Value → α → Prop} {w w' : World} {ok ok' : Nat → Prop} {v : Value} {xs : List α} (h : RowIs E sz elt w ok v xs) (hk : ∀ g, ok g → ok' g) (hh : ∀ g, ok g → w'.heap[g]? = w.heap[g]?)
    (he : ∀ cs x, elt cs x → elt' cs x) : RowIs E sz elt' w' ok' v xs := by
  obtain ⟨css, h1, h2, h3, h4⟩ := h
  exact ⟨css, ownsRow_heap h1 fun g hg => hh g (h2 g hg), fun g hg => hk g (h2 g hg), h3, fun i a b => ⟨he _ _ (h4 i a b).1, (h4 i a b).2⟩⟩
theorem RowIs.nil {α : Type} {E : TypeId} {sz : Nat} {elt : List Value → α → Prop} {w : World} {ok : Nat → Prop} : RowIs E sz elt w ok (.slice none 0 0) [] := by
  refine ⟨[], World.ownsRow_nil _ _ _ _, ?_, rfl, ?_⟩
  · intro g hg
    simp [Value.ownBlock] at hg
  · intro i h1
    simp at h1
/-- behind an append of one element -/
theorem RowIs.snoc {α : Type} {E : TypeId} {sz : Nat} {elt : List Value → α → Prop} {w' : World} {ok : Nat → Prop} {v' : Value} {xs : List α} {x : α} {css : List (List Value)} {cs : List Value}
    (hrow : w'.ownsRow 0 E sz v' (xs.length + 1) (css.flatten ++ cs)) (hok : ∀ g, v'.ownBlock = some g → ok g) (hl : css.length = xs.length)
    (hold : ∀ i (h1 : i < css.length) (h2 : i < xs.length), elt css[i] xs[i] ∧ css[i].length = sz) (hx : elt cs x) (hc : cs.length = sz) : RowIs E sz elt w' ok v' (xs ++ [x]) := by
  refine ⟨css ++ [cs], by simpa using hrow, hok, by simp [hl], fun i h1 h2 => ?_⟩
  rcases Nat.lt_or_ge i css.length with hi | hi
  · rw [List.getElem_append_left hi, List.getElem_append_left (by omega)]
    exact hold i hi (by omega)
  · have : i = css.length := by simp at h1; omega
    subst this
    simp only [List.getElem_concat_length]
    have e2 : (xs ++ [x])[css.length]'h2 = x := by
      rw [List.getElem_append_right (by omega)]
      simp [hl]
    rw [e2]
    exact ⟨hx, hc⟩
theorem RowIs.app {α : Type} {E : TypeId} {sz : Nat} {elt : List Value → α → Prop} {w' : World} {ok : Nat → Prop} {v' : Value} {xs ys : List α} {css ds : List (List Value)}
    (hrow : w'.ownsRow 0 E sz v' (xs.length + ys.length) (css.flatten ++ ds.flatten)) (hok : ∀ g, v'.ownBlock = some g → ok g) (hl : css.length = xs.length) (hl2 : ds.length = ys.length)
    (h1 : ∀ i (h1 : i < css.length) (h2 : i < xs.length), elt css[i] xs[i] ∧ css[i].length = sz) (h2 : ∀ i (h1 : i < ds.length) (h2 : i < ys.length), elt ds[i] ys[i] ∧ ds[i].length = sz) : RowIs E sz elt w' ok v' (xs ++ ys) := by
  refine ⟨css ++ ds, by simpa using hrow, hok, by simp [hl, hl2], fun i a b => ?_⟩
  rcases Nat.lt_or_ge i css.length with hi | hi
  · rw [List.getElem_append_left hi, List.getElem_append_left (by omega)]
    exact h1 i hi (by omega)
  · rw [List.getElem_append_right hi]
    have e2 : (xs ++ ys)[i]'b = ys[i - css.length]'(by simp at b; omega) := by
      rw [List.getElem_append_right (by omega)]
      simp [hl]
    rw [e2]
    exact h2 _ _ _
/-- the cells of element i in the flat row -/
theorem flat_get {css : List (List Value)} {sz : Nat} (hs : ∀ i (h : i < css.length), css[i].length = sz) : ∀ (i j : Nat) (h : i < css.length), j < sz → css.flatten[i * sz + j]? = css[i][j]? := by
  induction css with
  | nil => intro i j h; simp at h
  | cons c cs ih =>
    intro i j h hj
    have hc : c.length = sz := hs 0 (by simp)
    rw [List.flatten_cons]
    cases i with
    | zero =>
      rw [List.getElem?_append_left (by omega)]
      simp
    | succ i =>
      rw [List.getElem?_append_right (by rw [hc, Nat.succ_mul]; omega), hc, show (i + 1) * sz + j - sz = i * sz + j by rw [Nat.succ_mul]; omega]
      rw [ih (fun k hk => by have := hs (k + 1) (by simp; omega); simpa using this) i j (by simpa using h) hj]
      simp
/-- a cell of a row -/
theorem RowIs.cell {α : Type} {E : TypeId} {sz : Nat} {elt : List Value → α → Prop} {w : World} {ok : Nat → Prop} {v : Value} {xs : List α} (h : RowIs E sz elt w ok v xs) :
    ∃ a cap, v = .slice a xs.length cap ∧ xs.length ≤ cap ∧ ∀ i (hi : i < xs.length), ∃ g cs, a = some ⟨g, 0, none⟩ ∧ elt cs xs[i] ∧ cs.length = sz ∧ g < w.heap.size ∧ ∀ j u, cs[j]? = some u → w.cell? ⟨g, i * sz + j, none⟩ = some u := by
  obtain ⟨css, h1, h2, h3, h4⟩ := h
  obtain ⟨hl, ⟨rfl, h0⟩ | ⟨g, cap, cur, rfl, hb, hh, hc, hm, hs, ht⟩⟩ := h1
  · obtain rfl : xs = [] := List.length_eq_zero_iff.1 h0
    exact ⟨none, 0, rfl, Nat.le_refl _, fun i hi => absurd hi (by simp)⟩
  · refine ⟨some ⟨g, 0, none⟩, cap, rfl, hc, fun i hi => ?_⟩
    obtain ⟨q1, q2⟩ := h4 i (by omega) hi
    refine ⟨g, css[i]'(by omega), rfl, q1, q2, (Array.getElem?_eq_some_iff.1 hh).1, fun j u hu => ?_⟩
    have hj : j < sz := by
      rcases Nat.lt_or_ge j sz with h' | h'
      · exact h'
      · rw [List.getElem?_eq_none (by omega)] at hu; cases hu
    have hf := flat_get (css := css) (sz := sz) (fun i h => (h4 i h (by omega)).2) i j (by omega) hj
    rw [hu, ← ht, List.getElem?_take] at hf
    split at hf
    · rw [cell_of_row w g (i * sz + j) cur E (0, 0) hh]
      simpa using hf
    · cases hf
theorem ToksIs.keep {TE : TypeId} {w w' : World} {ok ok' : Nat → Prop} {v : Value} {ts : List Tok} (h : ToksIs TE w ok v ts) (hk : ∀ g, ok g → ok' g) (hh : ∀ g, ok g → w'.heap[g]? = w.heap[g]?) : ToksIs TE w' ok' v ts :=
  RowIs.keep h hk hh fun _ _ he => he.keep hk hh
/-- the cells of a word -/
def WdIs (TE : TypeId) (w : World) (ok : Nat → Prop) (cs : List Value) (x : Wd) : Prop := ∃ v, cs = [.bool x.spread, v] ∧ ToksIs TE w ok v x.toks
theorem WdIs.keep {TE : TypeId} {w w' : World} {ok ok' : Nat → Prop} {cs : List Value} {x : Wd} (h : WdIs TE w ok cs x) (hk : ∀ g, ok g → ok' g) (hh : ∀ g, ok g → w'.heap[g]? = w.heap[g]?) : WdIs TE w' ok' cs x := by
  obtain ⟨v, rfl, h⟩ := h
  exact ⟨v, rfl, h.keep hk hh⟩
def WdsIs (TE WE : TypeId) (w : World) (ok : Nat → Prop) (v : Value) (ws : List Wd) : Prop := RowIs WE 2 (WdIs TE w ok) w ok v ws
theorem WdsIs.keep {TE WE : TypeId} {w w' : World} {ok ok' : Nat → Prop} {v : Value} {ws : List Wd} (h : WdsIs TE WE w ok v ws) (hk : ∀ g, ok g → ok' g) (hh : ∀ g, ok g → w'.heap[g]? = w.heap[g]?) : WdsIs TE WE w' ok' v ws :=
  RowIs.keep h hk hh fun _ _ he => he.keep hk hh
/-- the cells of a command of a text of n bytes -/
def CmdIs (TE WE : TypeId) (n : Nat) (w : World) (ok : Nat → Prop) (cs : List Value) (c : Cmd) : Prop := ∃ v, cs = [.int .i64 ((n : Int) - (c.back : Int)), v] ∧ WdsIs TE WE w ok v c.words
theorem CmdIs.keep {TE WE : TypeId} {n : Nat} {w w' : World} {ok ok' : Nat → Prop} {cs : List Value} {c : Cmd} (h : CmdIs TE WE n w ok cs c) (hk : ∀ g, ok g → ok' g) (hh : ∀ g, ok g → w'.heap[g]? = w.heap[g]?) : CmdIs TE WE n w' ok' cs c := by
  obtain ⟨v, rfl, h⟩ := h
  exact ⟨v, rfl, h.keep hk hh⟩
def CmdsIs (TE WE CE : TypeId) (n : Nat) (w : World) (ok : Nat → Prop) (v : Value) (cs : List Cmd) : Prop := RowIs CE 2 (CmdIs TE WE n w ok) w ok v cs
theorem CmdsIs.keep {TE WE CE : TypeId} {n : Nat} {w w' : World} {ok ok' : Nat → Prop} {v : Value} {cs : List Cmd} (h : CmdsIs TE WE CE n w ok v cs) (hk : ∀ g, ok g → ok' g) (hh : ∀ g, ok g → w'.heap[g]? = w.heap[g]?) : CmdsIs TE WE CE n w' ok' v cs :=
  RowIs.keep h hk hh fun _ _ he => he.keep hk hh
end Go.Proofs.YtkgpmkkodpjdfaaGreatDoor.Pz
/-
  What is left of a text at a place.
-/
namespace Go.Proofs.YtkgpmkkodpjdfaaGreatDoor.Pz
open Go
/-- what is left of a text at a place -/
structure At (s l : Str) (i : Nat) : Prop where
  len : i + l.length = s.length
  rest : s.drop i = l
theorem At.start (s : Str) : At s s 0 := ⟨by simp, rfl⟩
theorem At.of_suf {s l : Str} (h : l <:+ s) : At s l (s.length - l.length) := by
  obtain ⟨p, rfl⟩ := h
  refine ⟨by simp, ?_⟩
  simp
theorem At.is_suf {s l : Str} {i : Nat} (h : At s l i) : l <:+ s := ⟨s.take i, by rw [← h.rest]; exact List.take_append_drop i s⟩
theorem At.eq {s l : Str} {i : Nat} (h : At s l i) : i = s.length - l.length := by have := h.len; omega
theorem At.suf {s l r : Str} {i : Nat} (h : At s l i) (hr : r <:+ l) : At s r (s.length - r.length) := At.of_suf (hr.trans h.is_suf)
theorem At.app {s x r : Str} {i : Nat} (h : At s (x ++ r) i) : At s r (i + x.length) := by
  refine ⟨by have := h.len; simp at this; omega, ?_⟩
  rw [← List.drop_drop, h.rest]
  simp
theorem At.tail {s t : Str} {c : UInt8} {i : Nat} (h : At s (c :: t) i) : At s t (i + 1) := At.app (x := [c]) h
theorem At.lt {s t : Str} {c : UInt8} {i : Nat} (h : At s (c :: t) i) : i < s.length := by have := h.len; simp at this; omega
theorem At.head {s t : Str} {c : UInt8} {i : Nat} (h : At s (c :: t) i) : s[i]? = some c := by
  have h1 := h.rest
  have h2 : (s.drop i)[0]? = some c := by rw [h1]; rfl
  rw [List.getElem?_drop] at h2
  simpa using h2
theorem At.get {s t : Str} {c : UInt8} {i : Nat} (h : At s (c :: t) i) : s.toArray[i]? = some c := by
  rw [List.getElem?_toArray]
  exact h.head
theorem At.nil_iff {s l : Str} {i : Nat} (h : At s l i) : l = [] ↔ s.length ≤ i := by
  have := h.len
  constructor
  · rintro rfl; simp at this; omega
  · intro h'
    exact List.eq_nil_of_length_eq_zero (by omega)
theorem At.text {s x r : Str} {i : Nat} (h : At s (x ++ r) i) : (⟨s.toArray⟩ : ByteArray).extract i (i + x.length) = ⟨x.toArray⟩ := by
  rw [Lib.extract_mk]
  have h1 : (s.drop i).take x.length = x := by rw [h.rest]; simp
  have h2 : (s.take (i + x.length)).drop i = x := by
    rw [List.drop_take]
    rw [show i + x.length - i = x.length by omega]
    exact h1
  first
    | rw [h2]
    | (rw [show i + x.length - i = x.length by omega]; rw [h1])
theorem At.all {s l : Str} {i : Nat} (h : At s l i) : (⟨s.toArray⟩ : ByteArray).extract i s.length = ⟨l.toArray⟩ := by
  have h0 : At s (l ++ []) i := by rw [List.append_nil]; exact h
  rw [← h.len]
  exact h0.text
end Go.Proofs.YtkgpmkkodpjdfaaGreatDoor.Pz
/-
  The reader in memory; its small questions.
-/
namespace Go.Proofs.YtkgpmkkodpjdfaaGreatDoor.Pz
open Go.RowKit
/-- a reader of a text at a place -/
def RdAt (w : World) (rb : Nat) (s : Str) (i d : Nat) (g : Told) : Prop :=
  w.heap[rb]? = some (.cells #[.string ⟨s.toArray⟩, .int .i64 (i : Int), .int .i64 (d : Int), .bool g.slashes, .bool g.vars, .bool g.scripts] 54 (0, 0))
theorem RdAt.cells {w : World} {rb : Nat} {s : Str} {i d : Nat} {g : Told} (h : RdAt w rb s i d g) :
    w.cell? ⟨rb, 0, none⟩ = some (.string ⟨s.toArray⟩) ∧ w.cell? ⟨rb, 1, none⟩ = some (.int .i64 (i : Int)) ∧ w.cell? ⟨rb, 2, none⟩ = some (.int .i64 (d : Int)) ∧
    w.cell? ⟨rb, 3, none⟩ = some (.bool g.slashes) ∧ w.cell? ⟨rb, 4, none⟩ = some (.bool g.vars) ∧ w.cell? ⟨rb, 5, none⟩ = some (.bool g.scripts) := by
  unfold RdAt at h
  simp [World.cell?, h]
set_option maxRecDepth 100000 in
theorem end_fn {w : World} {rb : Nat} {s : Str} {i d : Nat} {g : Told} (h : RdAt w rb s i d g) :
    Calls Tryz.prog 32 #[.pointer (some ⟨rb, 0, none⟩)] w fun e w' => e = .returned (.bool (decide (s.length ≤ i))) ∧ ∃ n, w' = w.drewN n := by
  obtain ⟨c0, c1, _⟩ := h.cells
  go_enter Tryz.func32, Tryz.ntmps32
  go_wp2
  go_quiet (fail)
  go_wp2
  go_ret
  exact ⟨rfl, _, rfl⟩
end Go.Proofs.YtkgpmkkodpjdfaaGreatDoor.Pz
/-
  Contracts of the library, laid at this program by the kit's shelf tools.
-/
namespace Go.Proofs.YtkgpmkkodpjdfaaGreatDoor.Pz
open Go.Shelf
def Tryz.lays169_ren : Go.Shelf.Ren := ⟨fun | 169 => 43 | n => n, fun | 70 => 74 | 9 => 9 | 0 => 0 | 72 => 77 | 37 => 75 | 127 => 114 | 3 => 3 | 5 => 5 | n => n, fun | n => n⟩
theorem Tryz.lays169 : Go.Proofs.Lays.n169 Tryz.prog Tryz.lays169_ren := {
  mixed := by kernel_rfl
  f169 := Tryz.func43.trans (congrArg some (by kernel_rfl))
  t0 := Tryz.underlying0
  a0 := Tryz.isAgg0
  z0 := Tryz.sizeOf0
  v0 := Tryz.zeroValue0
  t3 := Tryz.underlying3
  a3 := Tryz.isAgg3
  z3 := Tryz.sizeOf3
  v3 := Tryz.zeroValue3
  t9 := Tryz.underlying9
  a9 := Tryz.isAgg9
  z9 := Tryz.sizeOf9
  v9 := Tryz.zeroValue9
  t37 := Tryz.underlying75
  a37 := Tryz.isAgg75
  z37 := Tryz.sizeOf75
  v37 := Tryz.zeroValue75
  t70 := Tryz.underlying74
  a70 := Tryz.isAgg74
  z70 := Tryz.sizeOf74
  v70 := Tryz.zeroValue74
  t72 := Tryz.underlying77
  a72 := Tryz.isAgg77
  z72 := Tryz.sizeOf77
  v72 := Tryz.zeroValue77
  t127 := Tryz.underlying114
  a127 := Tryz.isAgg114
  z127 := Tryz.sizeOf114
  v127 := Tryz.zeroValue114 }
theorem Tryz.Builder_Extra_169 : Builder.Extra Tryz.prog Tryz.lays169_ren := {
  sizeBuilder := by kernel_rfl
  liesBuilder := by kernel_rfl
  t5 := Tryz.underlying5
  a5 := Tryz.isAgg5
  z5 := Tryz.sizeOf5
  v5 := Tryz.zeroValue5
  infoByte := by kernel_rfl
  cellsByte := by kernel_rfl
  sizeByte := by kernel_rfl
  neB5 := by decide }
open Go.RowKit in
theorem Tryz.Builder_String_any_k (B b : Nat) (l : List UInt8) (w : World) (h : Lib.IsBuilderF 77 5 B b (Lib.byteCells l) w) (hBw : B ≤ w.heap.size) :
    Calls Tryz.prog 43 #[.pointer (some ⟨b, 0, none⟩)] w fun e w' => e = .returned (.string ⟨l.toArray⟩) ∧ (Lib.IsBuilderF 77 5 B b (Lib.byteCells l) w' ∧ Below B w w' ∧ Lib.OthersKept 5 (some b) w w') := Any.Builder_String_any_k Tryz.lays169 Tryz.Builder_Extra_169 B b l w h hBw
def Tryz.lays137_ren : Go.Shelf.Ren := ⟨fun | 137 => 67 | 217 => 91 | 266 => 113 | n => n, fun | 9 => 9 | 5 => 5 | 3 => 3 | n => n, fun | n => n⟩
theorem Tryz.lays137 : Go.Proofs.Lays.n137 Tryz.prog Tryz.lays137_ren := {
  mixed := by kernel_rfl
  f137 := Tryz.func67.trans (congrArg some (by kernel_rfl))
  f217 := Tryz.func91.trans (congrArg some (by kernel_rfl))
  f266 := Tryz.func113.trans (congrArg some (by kernel_rfl))
  t3 := Tryz.underlying3
  a3 := Tryz.isAgg3
  z3 := Tryz.sizeOf3
  v3 := Tryz.zeroValue3
  t5 := Tryz.underlying5
  a5 := Tryz.isAgg5
  z5 := Tryz.sizeOf5
  v5 := Tryz.zeroValue5
  t9 := Tryz.underlying9
  a9 := Tryz.isAgg9
  z9 := Tryz.sizeOf9
  v9 := Tryz.zeroValue9 }
open Go.RowKit in
theorem Tryz.strings_IndexByte (s : ByteArray) (c : Int) (w : World) :
    Calls Tryz.prog 67 #[.string s, .int .u8 c] w fun e w' => e = .returned (.int .i64 (Lib.indexByte s.data.toList c.toNat.toUInt8)) ∧ w' = w := Any.strings_IndexByte Tryz.lays137 s c w
def Tryz.lays99_ren : Go.Shelf.Ren := ⟨fun | 99 => 66 | 206 => 90 | n => n, fun | 9 => 9 | 4 => 4 | 3 => 3 | n => n, fun | n => n⟩
theorem Tryz.lays99 : Go.Proofs.Lays.n99 Tryz.prog Tryz.lays99_ren := {
  mixed := by kernel_rfl
  f99 := Tryz.func66.trans (congrArg some (by kernel_rfl))
  f206 := Tryz.func90.trans (congrArg some (by kernel_rfl))
  t3 := Tryz.underlying3
  a3 := Tryz.isAgg3
  z3 := Tryz.sizeOf3
  v3 := Tryz.zeroValue3
  t4 := Tryz.underlying4
  a4 := Tryz.isAgg4
  z4 := Tryz.sizeOf4
  v4 := Tryz.zeroValue4
  t9 := Tryz.underlying9
  a9 := Tryz.isAgg9
  z9 := Tryz.sizeOf9
  v9 := Tryz.zeroValue9 }
open Go.RowKit Go.Lib in
theorem Tryz.strings_HasPrefix (s p : ByteArray) (w : World) :
    Calls Tryz.prog 66 #[.string s, .string p] w fun e w' => e = .returned (.bool (Lib.hasPrefix s.data.toList p.data.toList)) ∧ w' = w := Any.strings_HasPrefix Tryz.lays99 s p w
end Go.Proofs.YtkgpmkkodpjdfaaGreatDoor.Pz
/-
  The text package's small functions.
-/
namespace Go.Proofs.YtkgpmkkodpjdfaaGreatDoor.Pz
open Go.RowKit
theorem hid {p : Prop} (h : p) : Hid p := h
theorem white_nat (c : UInt8) : white c = ((decide (9 ≤ c.toNat) && decide (c.toNat ≤ 13)) || decide (c.toNat = 32)) := by
  unfold white
  rw [Bool.eq_iff_iff]
  simp [UInt8.le_iff_toNat_le, ← UInt8.toNat_inj]
theorem white_fn (c : UInt8) (w : World) : Calls Tryz.prog 108 #[.int .u8 c.toNat] w fun e w' => e = .returned (.bool (white c)) ∧ w' = w := by
  have hW := hid (white_nat c)
  have hl : c.toNat < 256 := c.toNat_lt
  generalize white c = W at hW ⊢
  generalize c.toNat = x at hl hW ⊢
  go_enter Tryz.func108, Tryz.ntmps108
  by_cases h1 : 9 ≤ x
  · by_cases h2 : x ≤ 13
    · go_wp2
      go_ret
      exact ⟨by rw [hW.out, decide_eq_true h1, decide_eq_true h2]; rfl, rfl⟩
    · have h2' : ¬ (x : Int) ≤ 13 := by omega
      by_cases h3 : x = 32
      · subst h3
        go_wp2
        go_ret
        exact ⟨by rw [hW.out]; rfl, rfl⟩
      · have h4 : ((x : Int) == 32) = false := by simp; omega
        go_wp2
        go_ret
        refine ⟨?_, rfl⟩
        rw [hW.out, decide_eq_false h2, decide_eq_false h3]
        simp
  · go_wp2
    go_ret
    refine ⟨?_, rfl⟩
    rw [hW.out, decide_eq_false h1]
    have h3 : ¬ x = 32 := by omega
    have : ¬ (x : Int) = 32 := by omega
    simp [this, h3]
/-! 'digit' -/
def lower (c : UInt8) : UInt8 := if 65 ≤ c.toNat ∧ c.toNat ≤ 90 then c + 32 else c
def dig16 (c : UInt8) : Nat := match hexv c with | some v => v | none => 16
theorem hexv_nat (c : UInt8) : dig16 c = if 48 ≤ c.toNat ∧ c.toNat ≤ 57 then c.toNat - 48 else if 97 ≤ c.toNat ∧ c.toNat ≤ 102 then c.toNat - 87 else if 65 ≤ c.toNat ∧ c.toNat ≤ 70 then c.toNat - 55 else 16 := by
  unfold dig16 hexv
  simp only [Bool.and_eq_true, decide_eq_true_eq, UInt8.le_iff_toNat_le, UInt8.reduceToNat]
  by_cases h1 : 48 ≤ c.toNat ∧ c.toNat ≤ 57
  · rw [if_pos h1, if_pos h1]
  · rw [if_neg h1, if_neg h1]
    by_cases h2 : 97 ≤ c.toNat ∧ c.toNat ≤ 102
    · rw [if_pos h2, if_pos h2]
    · rw [if_neg h2, if_neg h2]
      by_cases h3 : 65 ≤ c.toNat ∧ c.toNat ≤ 70
      · rw [if_pos h3, if_pos h3]
      · rw [if_neg h3, if_neg h3]
theorem dig16_le (c : UInt8) : dig16 c ≤ 16 := by
  rw [hexv_nat]
  split
  · omega
  · split
    · omega
    · split <;> omega
theorem ret_i {k : IntKind} {a b : Int} (h : a = b) : Ending.returned (.int k a) = .returned (.int k b) := by rw [h]
theorem ret_ii {k k' : IntKind} {a b c d : Int} (h : a = b) (h' : c = d) : Ending.returned (.tuple #[.int k a, .int k' c]) = .returned (.tuple #[.int k b, .int k' d]) := by rw [h, h']
theorem ret_si {s s' : ByteArray} {k' : IntKind} {c d : Int} (h : s = s') (h' : c = d) : Ending.returned (.tuple #[.string s, .int k' c]) = .returned (.tuple #[.string s', .int k' d]) := by rw [h, h']
theorem ret_b {a b : Bool} (h : a = b) : Ending.returned (.bool a) = .returned (.bool b) := by rw [h]
theorem u8_wrap (n : Nat) (h : n < 256) : IntKind.u8.wrap (n : Int) = n := by
  have h1 : IntKind.u8.wrap (n : Int) = (n : Int) % 256 := by rfl
  rw [h1]; omega
theorem lower_fn (x r : Nat) (hl : x < 256) (hr : Hid (r = if 65 ≤ x ∧ x ≤ 90 then x + 32 else x)) (w : World) : Calls Tryz.prog 129 #[.int .u8 (x : Nat)] w fun e w' => e = .returned (.int .u8 (r : Nat)) ∧ w' = w := by
  go_enter Tryz.func129, Tryz.ntmps129
  by_cases h1 : 65 ≤ x
  · by_cases h2 : x ≤ 90
    · go_wp2
      go_ret
      exact ⟨ret_i (by rw [hr.out, if_pos ⟨h1, h2⟩]; omega), rfl⟩
    · have h2' : decide ((x : Int) ≤ 90) = false := by simp; omega
      go_wp2
      go_ret
      exact ⟨ret_i (by rw [hr.out, if_neg (by omega)]), rfl⟩
  · go_wp2
    go_ret
    exact ⟨ret_i (by rw [hr.out, if_neg (by omega)]), rfl⟩
theorem decimal_fn (x : Nat) (b : Bool) (hl : x < 256) (hb : Hid (b = (decide (48 ≤ x) && decide (x ≤ 57)))) (w : World) : Calls Tryz.prog 130 #[.int .u8 (x : Nat)] w fun e w' => e = .returned (.bool b) ∧ w' = w := by
  go_enter Tryz.func130, Tryz.ntmps130
  by_cases h1 : 48 ≤ x
  · by_cases h2 : x ≤ 57
    · go_wp2
      go_ret
      refine ⟨?_, rfl⟩
      rw [hb.out, decide_eq_true h1, decide_eq_true h2]
      simp; omega
    · have h2' : ¬ (x : Int) ≤ 57 := by omega
      go_wp2
      go_ret
      refine ⟨?_, rfl⟩
      rw [hb.out, decide_eq_false h2]
      simp
  · go_wp2
    go_ret
    refine ⟨?_, rfl⟩
    rw [hb.out, decide_eq_false h1]
    simp
theorem digit_fn (c : UInt8) (w : World) : Calls Tryz.prog 110 #[.int .u8 c.toNat] w fun e w' => e = .returned (.int .i64 (dig16 c : Nat)) ∧ w' = w := by
  have hW := hid (hexv_nat c)
  have hl : c.toNat < 256 := c.toNat_lt
  generalize dig16 c = W at hW ⊢
  generalize c.toNat = x at hl hW ⊢
  obtain ⟨y, hy⟩ : ∃ y, y = if 65 ≤ x ∧ x ≤ 90 then x + 32 else x := ⟨_, rfl⟩
  have hy2 : y < 256 := by rw [hy]; split <;> omega
  have hY := hid hy
  have h1 := hid (lower_fn x y hl hY w)
  obtain ⟨b, hb⟩ : ∃ b, b = (decide (48 ≤ y) && decide (y ≤ 57)) := ⟨_, rfl⟩
  have hB := hid hb
  have h2 := hid (decimal_fn y b hy2 hB w)
  clear hy hb
  go_enter Tryz.func110, Tryz.ntmps110
  go_wp2_with fail
  (with_reducible refine h1.out.mono ?_); rintro e w' ⟨rfl, rfl⟩
  go_wp2_with fail
  (with_reducible refine h2.out.mono ?_); rintro e w' ⟨rfl, rfl⟩
  cases b with
  | true =>
    have h5 := hB.out
    have h6 : 48 ≤ y ∧ y ≤ 57 := by simpa using h5.symm
    obtain ⟨h7, h8⟩ := h6
    clear h5
    have hz : IntKind.u8.wrap ((y : Int) - 48) = ((y - 48 : Nat) : Int) := by rw [← u8_wrap (y - 48) (by omega)]; congr 1; omega
    go_wp2
    go_ret
    exact ⟨ret_i (by rw [hW.out]; have := hY.out; split at this <;> (repeat' split) <;> omega), rfl⟩
  | false =>
    have h5 := hB.out
    have h6 : ¬ (48 ≤ y ∧ y ≤ 57) := by
      rintro ⟨q1, q2⟩
      rw [decide_eq_true q1, decide_eq_true q2] at h5
      cases h5
    clear h5
    by_cases h7 : 97 ≤ y
    · have hz : IntKind.u8.wrap ((y : Int) - 97) = ((y - 97 : Nat) : Int) := by rw [← u8_wrap (y - 97) (by omega)]; congr 1; omega
      by_cases h8 : y ≤ 102
      · go_wp2
        go_ret
        exact ⟨ret_i (by rw [hW.out]; have := hY.out; split at this <;> (repeat' split) <;> omega), rfl⟩
      · have h6' : decide ((y : Int) ≤ 102) = false := by simp; omega
        go_wp2
        go_ret
        exact ⟨ret_i (by rw [hW.out]; have := hY.out; split at this <;> (repeat' split) <;> omega), rfl⟩
    · go_wp2
      go_ret
      exact ⟨ret_i (by rw [hW.out]; have := hY.out; split at this <;> (repeat' split) <;> omega), rfl⟩
theorem digv_of (b : Nat) (hb : b ≤ 16) (c : UInt8) : digv b c = if dig16 c < b then some (dig16 c) else none := by
  unfold digv dig16
  cases hexv c with
  | none => simp; omega
  | some v => rfl
/-- the rounds of 'digits' -/
theorem digs_step (b n v : Nat) (hb : b ≤ 16) (c : UInt8) (t : Str) : digs b (n + 1) v (c :: t) = if dig16 c < b then digs b n (v * b + dig16 c) t else (v, c :: t) := by
  show (match digv b c with | some d => digs b n (v * b + d) t | none => (v, c :: t)) = _
  rw [digv_of b hb c]
  by_cases h : dig16 c < b
  · rw [if_pos h, if_pos h]
  · rw [if_neg h, if_neg h]
theorem digs_nil (b n v : Nat) : digs b n v [] = (v, []) := by cases n <;> rfl
set_option maxRecDepth 100000 in
set_option maxHeartbeats 2000000 in
theorem digits_fn (l : Str) (_hl : l.length ≤ 1000000000) (b m : Nat) (hb : b ≤ 16) (hm : m ≤ 3) (w : World) :
    Calls Tryz.prog 85 #[.string ⟨l.toArray⟩, .int .i64 (b : Nat), .int .i64 (m : Nat)] w fun e w' => e = .returned (.tuple #[.int .u8 (((digs b m 0 l).1 % 256 : Nat) : Int), .int .i64 ((l.length - (digs b m 0 l).2.length : Nat) : Int)]) ∧ w' = w := by
  have hsz : (⟨l.toArray⟩ : ByteArray).size = l.length := Lib.size_mk _
  obtain ⟨V, hV⟩ : ∃ V, V = (digs b m 0 l).1 % 256 := ⟨_, rfl⟩
  obtain ⟨N, hN⟩ : ∃ N, N = l.length - (digs b m 0 l).2.length := ⟨_, rfl⟩
  rw [← hV, ← hN]
  have HV := hid hV
  have HN := hid hN
  clear hV hN
  go_enter Tryz.func85, Tryz.ntmps85
  go_wp2
  go_loop [8, 9] (fun vv nv => ∃ v n : Nat, vv = .int .i64 v ∧ nv = .int .i64 n ∧ n ≤ m ∧ n ≤ l.length ∧ v < 16 ^ n ∧ digs b (m - n) v (l.drop n) = digs b m 0 l) (fun _ nv => m - (intOf nv).toNat)
  case atStart => exact ⟨0, 0, rfl, rfl, Nat.zero_le _, Nat.zero_le _, (by simp), rfl⟩
  case round =>
    obtain ⟨v, n, rfl, rfl, hnm, hnl, hv, hd⟩ := hrel
    have hD := hid hd
    have hV2 := hid hv
    have hv4 : v < 4096 := Nat.lt_of_lt_of_le hv (show 16 ^ n ≤ 16 ^ 3 from Nat.pow_le_pow_right (by decide) (by omega))
    clear hd hv
    by_cases hlt : n < m ∧ n < l.length
    · obtain ⟨h1, h2⟩ := hlt
      have hx : ∀ h, (⟨l.toArray⟩ : ByteArray)[n]'h = l[n]'h2 := fun h => rfl
      have hc := hid (digit_fn (l[n]'h2) w)
      have hle := dig16_le (l[n]'h2)
      have hdr : l.drop n = l[n]'h2 :: l.drop (n + 1) := List.drop_eq_getElem_cons h2
      have hE : digs b (m - n) v (l.drop n) = if dig16 (l[n]'h2) < b then digs b (m - (n + 1)) (v * b + dig16 (l[n]'h2)) (l.drop (n + 1)) else (v, l.drop n) := by
        rw [hdr, show m - n = (m - (n + 1)) + 1 by omega, digs_step b _ v hb]
      have HE := hid hE
      clear hE hdr
      generalize dig16 (l[n]'h2) = d at *
      have hmul : v * b ≤ v * 16 := Nat.mul_le_mul_left v hb
      have hmin : min (m : Int) (l.length : Int) = min m l.length := by omega
      by_cases hdb : d < b
      · have hpow : v * b + d < 16 ^ (n + 1) := by
          have := hV2.out
          rw [Nat.pow_succ]
          omega
        have HP := hid hpow
        clear hpow
        obtain ⟨vb, hvb⟩ : ∃ vb, vb = v * b := ⟨_, rfl⟩
        have hvbI : (v : Int) * (b : Int) = (vb : Int) := by rw [hvb]; simp
        rw [← hvb] at hmul HP HE
        clear hvb
        go_wp2_with (go_at_call 110; (with_reducible refine hc.out.mono ?_); rintro e w' ⟨rfl, rfl⟩)
        go_round
        case rel => exact ⟨vb + d, n + 1, by go_num, by go_num, by omega, by omega, HP.out, by rw [← hD.out, HE.out, if_pos hdb]⟩
        case measure => simp [intOf]; omega
      · have hres : digs b m 0 l = (v, l.drop n) := by rw [← hD.out, HE.out, if_neg hdb]
        have hV3 := HV.out
        have hN3 := HN.out
        rw [hres] at hV3 hN3
        have HV3 := hid hV3
        have HN3 := hid hN3
        clear hV3 hN3 hres
        have hvw : IntKind.u8.wrap (v : Int) = ((v % 256 : Nat) : Int) := by show (v : Int) % 256 = _; omega
        go_wp2_with (go_at_call 110; (with_reducible refine hc.out.mono ?_); rintro e w' ⟨rfl, rfl⟩)
        go_ret2
        exact ⟨ret_ii (by rw [HV3.out]; omega) (by rw [HN3.out, List.length_drop]; omega), rfl⟩
    · have hres : digs b m 0 l = (v, l.drop n) := by
        rw [← hD.out]
        rcases Nat.lt_or_ge n m with h | h
        · have : l.length ≤ n := by omega
          rw [List.drop_eq_nil_of_le this, digs_nil]
        · rw [show m - n = 0 by omega]; rfl
      have hV3 := HV.out
      have hN3 := HN.out
      rw [hres] at hV3 hN3
      have HV3 := hid hV3
      have HN3 := hid hN3
      clear hV3 hN3 hres
      have hvw : IntKind.u8.wrap (v : Int) = ((v % 256 : Nat) : Int) := by show (v : Int) % 256 = _; omega
      have hmin : min (m : Int) (l.length : Int) = n := by omega
      go_wp2
      go_ret2
      exact ⟨ret_ii (by rw [HV3.out]; omega) (by rw [HN3.out, List.length_drop]; omega), rfl⟩
/-! 'Unescape' -/
theorem byte_ne {d k : UInt8} (n : Int) (h : d ≠ k) (hn : n = (k.toNat : Int)) : ((d.toNat : Int) == n) = false := by
  subst hn
  rw [beq_eq_false_iff_ne]
  intro e
  exact h (UInt8.toNat_inj.1 (by omega))
theorem byte_ne' {d k : UInt8} (n : Int) (h : d ≠ k) (hn : n = (k.toNat : Int)) : ((d.toNat : Int) != n) = true := by
  rw [bne, byte_ne n h hn]
  rfl
theorem blanks0_cons (c : UInt8) (t : Str) : blanks0 (c :: t) = if c == 32 || c == 9 then blanks0 t else c :: t := rfl
theorem named1_idx : ∀ (c : UInt8), Lib.indexByte [97, 98, 116, 110, 118, 102, 114] c = match named1 c with | some x => ((x.toNat : Int) - 7) | none => -1 := by
  intro c
  unfold named1
  by_cases h1 : c = 97
  · subst h1; rfl
  by_cases h2 : c = 98
  · subst h2; rfl
  by_cases h3 : c = 116
  · subst h3; rfl
  by_cases h4 : c = 110
  · subst h4; rfl
  by_cases h5 : c = 118
  · subst h5; rfl
  by_cases h6 : c = 102
  · subst h6; rfl
  by_cases h7 : c = 114
  · subst h7; rfl
  have e : ∀ x : UInt8, ¬ c = x → (x == c) = false := fun x h => by simpa using fun h' => h h'.symm
  have e' : ∀ x : UInt8, ¬ c = x → (c == x) = false := fun x h => by simpa using h
  simp [Lib.indexByte, e _ h1, e _ h2, e _ h3, e _ h4, e _ h5, e _ h6, e _ h7, e' _ h1, e' _ h2, e' _ h3, e' _ h4, e' _ h5, e' _ h6, e' _ h7]
theorem named1_le {c x : UInt8} (h : named1 c = some x) : 7 ≤ x.toNat ∧ x.toNat ≤ 13 := by
  unfold named1 at h
  repeat' split at h
  all_goals first
    | (simp only [Option.some.injEq] at h; subst h; decide)
    | cases h
theorem one_back (b : UInt8) (w : World) : (convert 75 9 (.slice (some ⟨w.heap.size, 0, none⟩) 1 1)).run Tryz.prog (w.alloc (.cells #[.int .u8 b.toNat] 5)) = .ok (.string ⟨[b].toArray⟩) (w.alloc (.cells #[.int .u8 b.toNat] 5)) := by
  refine run_convert_bytes_back (P := Tryz.prog) _ 75 9 5 ⟨w.heap.size, 0, none⟩ 1 [b] Tryz.underlying75 Tryz.underlying5 Tryz.underlying9 ?_
  intro j hj
  match j, hj with
  | 0, _ => exact World.cell?_alloc_mark w #[.int .u8 b.toNat] 5 (0, 0) 0
set_option maxRecDepth 100000 in
set_option maxHeartbeats 2000000 in
theorem unescape_fn (t : Str) (ht : t.length ≤ 1000000) (w : World) :
    Calls Tryz.prog 58 #[.string ⟨(92 :: t).toArray⟩] w fun e w' => e = .returned (.tuple #[.string ⟨(unesc t).1.toArray⟩, .int .i64 (((t.length + 1 - (unesc t).2.length : Nat) : Nat) : Int)]) ∧ Below w.heap.size w w' := by
  cases t with
  | nil =>
    have hsz : (⟨[(92 : UInt8)].toArray⟩ : ByteArray).size = 1 := rfl
    have hx : ∀ h, (⟨[(92 : UInt8)].toArray⟩ : ByteArray)[0]'h = 92 := fun h => rfl
    go_enter Tryz.func58, Tryz.ntmps58
    go_wp2
    go_ret2
    exact ⟨rfl, Below.refl _ _⟩
  | cons c t =>
    have hsz : (⟨(92 :: c :: t).toArray⟩ : ByteArray).size = t.length + 2 := by rw [Lib.size_mk]; simp
    have hx : ∀ h, (⟨(92 :: c :: t).toArray⟩ : ByteArray)[0]'h = 92 := fun h => rfl
    have hx1 : ∀ h, (⟨(92 :: c :: t).toArray⟩ : ByteArray)[1]'h = c := fun h => rfl
    have hs2 : (⟨(92 :: c :: t).toArray⟩ : ByteArray).extract 2 (t.length + 2) = ⟨t.toArray⟩ := by rw [Lib.extract_mk]; simp
    have hs1 : (⟨(92 :: c :: t).toArray⟩ : ByteArray).extract 1 (t.length + 2) = ⟨(c :: t).toArray⟩ := by rw [Lib.extract_mk]; simp
    have hs12 : (⟨(92 :: c :: t).toArray⟩ : ByteArray).extract 1 2 = ⟨[c].toArray⟩ := by rw [Lib.extract_mk]; simp
    have ht' : t.length ≤ 999999 := by simpa using ht
    have hc256 := c.toNat_lt
    obtain ⟨I, hI⟩ : ∃ I, I = Lib.indexByte [97, 98, 116, 110, 118, 102, 114] c := ⟨_, rfl⟩
    have hc : Calls Tryz.prog 67 #[.string ⟨#[97, 98, 116, 110, 118, 102, 114]⟩, .int .u8 c.toNat] w fun e w' => e = .returned (.int .i64 I) ∧ w' = w := by
      have h := Tryz.strings_IndexByte ⟨#[97, 98, 116, 110, 118, 102, 114]⟩ (c.toNat : Int) w
      have e1 : ((c.toNat : Int)).toNat.toUInt8 = c := by simp
      rw [e1] at h
      rw [hI]
      exact h
    have hC := hid hc
    rw [named1_idx] at hI
    clear hc ht
    show Calls _ _ _ _ fun e w' => e = .returned (.tuple #[.string ⟨(unesc1 c t).1.toArray⟩, .int .i64 (((t.length + 1 + 1 - (unesc1 c t).2.length : Nat) : Nat) : Int)]) ∧ Below w.heap.size w w'
    obtain ⟨r, hr⟩ : ∃ r, r = unesc1 c t := ⟨_, rfl⟩
    rw [← hr]
    unfold unesc1 at hr
    cases hn : named1 c with
    | some x =>
      rw [hn] at hI hr
      dsimp only at hI hr
      subst hr
      obtain ⟨q1, q2⟩ := named1_le hn
      have hw : IntKind.u8.wrap (x.toNat : Int) = x.toNat := u8_wrap _ x.toNat_lt
      have hw2 : (7 : Int) + ((x.toNat : Int) - 7) = x.toNat := by omega
      have hcv := fun w => one_back x w
      subst hI
      clear hn
      go_enter Tryz.func58, Tryz.ntmps58
      go_wp2_with fail
      (with_reducible refine hC.out.mono ?_); rintro e w' ⟨rfl, rfl⟩
      go_wp2
      go_ret2
      exact ⟨ret_si rfl (by omega), (Below.refl _ _).alloc (Nat.le_refl _) _⟩
    | none =>
      rw [hn] at hI hr
      dsimp only at hI hr
      subst hI
      clear hn
      obtain ⟨v8, hv8⟩ : ∃ v8, v8 = digs 8 3 0 (c :: t) := ⟨_, rfl⟩
      have h8 : Calls Tryz.prog 85 #[.string ⟨(c :: t).toArray⟩, .int .i64 8, .int .i64 3] w fun e w' => e = .returned (.tuple #[.int .u8 ((UInt8.ofNat v8.1).toNat : Int), .int .i64 (((t.length + 1 - v8.2.length : Nat) : Nat) : Int)]) ∧ w' = w := by
        have h := digits_fn (c :: t) (by simp; omega) 8 3 (by decide) (by decide) w
        rw [← hv8] at h
        rw [UInt8.toNat_ofNat']
        exact h
      have hl8 := (digs_suf 8 3 0 (c :: t)).length_le
      rw [← hv8] at hl8 hr
      simp only [List.length_cons] at hl8
      by_cases h10 : c = 10
      · subst h10
        replace hC : Hid (Calls Tryz.prog 67 #[.string ⟨#[97, 98, 116, 110, 118, 102, 114]⟩, .int .u8 10] w fun e w' => e = .returned (.int .i64 (-1)) ∧ w' = w) := hC
        have hv8' : v8 = (0, 10 :: t) := by rw [hv8]; rfl
        rw [if_pos (by decide)] at hr
        subst hv8'
        subst hr
        clear hv8
        have H8 := hid h8
        clear h8 hl8
        go_enter Tryz.func58, Tryz.ntmps58
        go_wp2_with fail
        (with_reducible refine hC.out.mono ?_); rintro e w' ⟨rfl, rfl⟩
        go_wp2_with fail
        (with_reducible refine H8.out.mono ?_); rintro e w' ⟨rfl, rfl⟩
        go_wp2
        go_loop [9] (fun nv => ∃ n : Nat, nv = .int .i64 n ∧ 2 ≤ n ∧ n ≤ t.length + 2 ∧ blanks0 (t.drop (n - 2)) = blanks0 t) (fun nv => t.length + 2 - (intOf nv).toNat)
        case atStart => exact ⟨2, rfl, by omega, by omega, rfl⟩
        case round =>
          obtain ⟨n, rfl, hn2, hnl, hb⟩ := hrel
          have hB := hid hb
          clear hb
          by_cases hlt : n < t.length + 2
          · have hlt2 : n - 2 < t.length := by omega
            have hx : ∀ h, (⟨(92 :: 10 :: t).toArray⟩ : ByteArray)[n]'h = t[n - 2]'hlt2 := by
              intro h
              show (92 :: 10 :: t)[n]'_ = _
              obtain ⟨k, rfl⟩ : ∃ k, n = k + 2 := ⟨n - 2, by omega⟩
              rfl
            have hdr : t.drop (n - 2) = t[n - 2]'hlt2 :: t.drop (n + 1 - 2) := by
              rw [show n + 1 - 2 = (n - 2) + 1 by omega]
              exact List.drop_eq_getElem_cons hlt2
            have hB2 := hB.out
            rw [hdr, blanks0_cons] at hB2
            have HB2 := hid hB2
            have HD := hid hdr
            clear hB2 hdr
            generalize t[n - 2]'hlt2 = d at *
            by_cases hd : d = 32
            · subst hd
              go_wp2
              go_round
              case rel => exact ⟨n + 1, by go_num, by omega, by omega, by rw [← HB2.out]; rfl⟩
              case measure => simp [intOf]; omega
            · have e1 := byte_ne 32 hd rfl
              by_cases hd9 : d = 9
              · subst hd9
                go_wp2
                go_round
                case rel => exact ⟨n + 1, by go_num, by omega, by omega, by rw [← HB2.out]; rfl⟩
                case measure => simp [intOf]; omega
              · have e2 := byte_ne 9 hd9 rfl
                have hres : blanks0 t = t.drop (n - 2) := by
                  rw [HD.out, ← HB2.out, if_neg (by simp [hd, hd9])]
                have HR := hid hres
                clear hres
                go_wp2
                go_ret2
                exact ⟨ret_si rfl (by rw [HR.out, List.length_drop]; omega), Below.refl _ _⟩
          · have hres : blanks0 t = [] := by
              rw [← hB.out, List.drop_eq_nil_of_le (by omega)]; rfl
            have HR := hid hres
            clear hres
            go_wp2
            go_ret2
            exact ⟨ret_si rfl (by rw [HR.out]; simp; omega), Below.refl _ _⟩
      · rw [if_neg (by simpa using h10)] at hr
        have n10 := byte_ne 10 h10 rfl
        by_cases h120 : c = 120
        · subst h120
          replace hC : Hid (Calls Tryz.prog 67 #[.string ⟨#[97, 98, 116, 110, 118, 102, 114]⟩, .int .u8 120] w fun e w' => e = .returned (.int .i64 (-1)) ∧ w' = w) := hC
          rw [if_pos (by decide)] at hr
          have hv8' : v8 = (0, 120 :: t) := by rw [hv8]; rfl
          subst hv8'
          clear hv8 hl8
          obtain ⟨v6, hv6⟩ : ∃ v6, v6 = digs 16 2 0 t := ⟨_, rfl⟩
          have h6 : Calls Tryz.prog 85 #[.string ⟨t.toArray⟩, .int .i64 16, .int .i64 2] w fun e w' => e = .returned (.tuple #[.int .u8 ((UInt8.ofNat v6.1).toNat : Int), .int .i64 (((t.length - v6.2.length : Nat) : Nat) : Int)]) ∧ w' = w := by
            have h := digits_fn t (by omega) 16 2 (by decide) (by decide) w
            rw [← hv6] at h
            rw [UInt8.toNat_ofNat']
            exact h
          have hl6 := (digs_suf 16 2 0 t).length_le
          rw [← hv6] at hl6 hr
          have H8 := hid h8
          have H6 := hid h6
          clear h8 h6 hv6
          obtain ⟨v61, v62⟩ := v6
          dsimp only at *
          generalize UInt8.ofNat v61 = b at *
          obtain ⟨k, hk⟩ : ∃ k, k = t.length - v62.length := ⟨_, rfl⟩
          rw [← hk] at H6
          have hcv := fun w => one_back b w
          by_cases hlt : v62.length < t.length
          · rw [if_pos hlt] at hr
            subst hr
            have hk0 : 0 < k := by omega
            have HK := hid hk
            clear hk
            have hkl : k ≤ t.length := by rw [HK.out]; omega
            go_enter Tryz.func58, Tryz.ntmps58
            go_wp2_with fail
            (with_reducible refine hC.out.mono ?_); rintro e w' ⟨rfl, rfl⟩
            go_wp2_with fail
            (with_reducible refine H6.out.mono ?_); rintro e w' ⟨rfl, rfl⟩
            go_wp2
            go_ret2
            exact ⟨ret_si rfl (by have := HK.out; omega), (Below.refl _ _).alloc (Nat.le_refl _) _⟩
          · rw [if_neg hlt] at hr
            subst hr
            obtain rfl : k = 0 := by omega
            clear hk
            go_enter Tryz.func58, Tryz.ntmps58
            go_wp2_with fail
            (with_reducible refine hC.out.mono ?_); rintro e w' ⟨rfl, rfl⟩
            go_wp2_with fail
            (with_reducible refine H6.out.mono ?_); rintro e w' ⟨rfl, rfl⟩
            go_wp2_with fail
            (with_reducible refine H8.out.mono ?_); rintro e w' ⟨rfl, rfl⟩
            go_wp2
            go_ret2
            exact ⟨ret_si rfl (by omega), Below.refl _ _⟩
        · have n120 := byte_ne 120 h120 rfl
          rw [if_neg (by simpa using h120)] at hr
          clear hv8
          obtain ⟨v81, v82⟩ := v8
          dsimp only at *
          have H8 := hid h8
          clear h8
          generalize UInt8.ofNat v81 = b at *
          obtain ⟨k, hk⟩ : ∃ k, k = t.length + 1 - v82.length := ⟨_, rfl⟩
          rw [← hk] at H8
          have hcv := fun w => one_back b w
          by_cases hlt : v82.length < t.length + 1
          · rw [if_pos (by simpa using hlt)] at hr
            subst hr
            have hk0 : 0 < k := by omega
            have HK := hid hk
            clear hk
            have hkl : k ≤ t.length + 1 := by rw [HK.out]; omega
            go_enter Tryz.func58, Tryz.ntmps58
            go_wp2_with fail
            (with_reducible refine hC.out.mono ?_); rintro e w' ⟨rfl, rfl⟩
            go_wp2_with fail
            (with_reducible refine H8.out.mono ?_); rintro e w' ⟨rfl, rfl⟩
            go_wp2
            go_ret2
            exact ⟨ret_si rfl (by have := HK.out; omega), (Below.refl _ _).alloc (Nat.le_refl _) _⟩
          · rw [if_neg (by simpa using hlt)] at hr
            subst hr
            obtain rfl : k = 0 := by omega
            clear hk
            go_enter Tryz.func58, Tryz.ntmps58
            go_wp2_with fail
            (with_reducible refine hC.out.mono ?_); rintro e w' ⟨rfl, rfl⟩
            go_wp2_with fail
            (with_reducible refine H8.out.mono ?_); rintro e w' ⟨rfl, rfl⟩
            go_wp2
            go_ret2
            exact ⟨ret_si rfl (by omega), Below.refl _ _⟩
end Go.Proofs.YtkgpmkkodpjdfaaGreatDoor.Pz
/-
  The reader's small questions: an escaped line feed, the end of a command, of a word; names.
-/
namespace Go.Proofs.YtkgpmkkodpjdfaaGreatDoor.Pz
open Go.RowKit
theorem RdAt.drewN {w : World} {rb : Nat} {s : Str} {i d : Nat} {g : Told} (h : RdAt w rb s i d g) (n : Nat) : RdAt (w.drewN n) rb s i d g := h
theorem quiet_add {P : Program} {f : FuncId} {args : Array Value} {w : World} {a n : Nat} {v : Value}
    (h : Calls P f args (w.drewN (a + n)) fun e w' => e = .returned v ∧ ∃ m, w' = (w.drewN (a + n)).drewN m) :
    Calls P f args (w.drewN (a + n)) fun e w'' => e = .returned v ∧ ∃ m, w'' = w.drewN (a + m) :=
  h.mono fun _ _ ⟨he, m, hm⟩ => ⟨he, n + m, by rw [hm, World.drewN_drewN, Nat.add_assoc]⟩
/-- a byte of the text at the place -/
theorem At.byte {s t : Str} {c : UInt8} {i : Nat} (h : At s (c :: t) i) : ∀ h', (⟨s.toArray⟩ : ByteArray)[i]'h' = c := by
  intro h'
  have h1 := h.head
  have h2 := h.lt
  rw [List.getElem?_eq_getElem h2] at h1
  exact Option.some.inj h1
theorem hasPrefix_joins (l : Str) : Lib.hasPrefix l [92, 10] = joins l := by
  cases l with
  | nil => rfl
  | cons c t =>
    cases t with
    | nil =>
      have e1 : joins [c] = false := by
        unfold joins
        split
        · rename_i heq; simp at heq
        · rfl
      rw [e1]
      simp [Lib.hasPrefix, List.isPrefixOf]
    | cons b t =>
      by_cases hj : c = 92 ∧ b = 10
      · obtain ⟨rfl, rfl⟩ := hj
        rfl
      · have h1 : joins (c :: b :: t) = false := by
          unfold joins
          split
          · rename_i heq
            simp only [List.cons.injEq] at heq
            exact absurd ⟨heq.1, heq.2.1⟩ hj
          · rfl
        rw [h1]
        simp [Lib.hasPrefix, List.isPrefixOf]
        exact fun a b => hj ⟨a.symm, b.symm⟩
set_option maxRecDepth 100000 in
theorem joins_fn {w : World} {rb : Nat} {s l : Str} {i d : Nat} {g : Told} (h : RdAt w rb s i d g) (hat : At s l i) (_hs : s.length ≤ 1000000) :
    Calls Tryz.prog 107 #[.pointer (some ⟨rb, 0, none⟩)] w fun e w' => e = .returned (.bool (joins l)) ∧ ∃ n, w' = w.drewN n := by
  obtain ⟨c0, c1, _⟩ := h.cells
  have hsz : (⟨s.toArray⟩ : ByteArray).size = s.length := Lib.size_mk _
  have hex := hat.all
  have hle : i ≤ s.length := by have := hat.len; omega
  have hc : ∀ W, Calls Tryz.prog 66 #[.string ⟨l.toArray⟩, .string ⟨#[92, 10]⟩] W fun e w' => e = .returned (.bool (joins l)) ∧ w' = W := by
    intro W
    rw [← hasPrefix_joins]
    exact Tryz.strings_HasPrefix ⟨l.toArray⟩ ⟨#[92, 10]⟩ W
  have HC := hid hc
  clear hc
  go_enter Tryz.func107, Tryz.ntmps107
  go_wp2
  go_quiet ((go_at_call 66; exact Calls.quiet_of_same (HC.out _)))
  go_wp2
  go_ret
  exact ⟨rfl, _, rfl⟩
set_option maxRecDepth 100000 in
set_option maxHeartbeats 1000000 in
theorem parted_fn {w : World} {rb : Nat} {s l : Str} {i d : Nat} {g : Told} (h : RdAt w rb s i d g) (hat : At s l i) (_hs : s.length ≤ 1000000) (wi : Bool) :
    Calls Tryz.prog 82 #[.pointer (some ⟨rb, 0, none⟩), .bool wi] w fun e w' => e = .returned (.bool (parted wi l)) ∧ ∃ n, w' = w.drewN n := by
  obtain ⟨c0, c1, _⟩ := h.cells
  have hsz : (⟨s.toArray⟩ : ByteArray).size = s.length := Lib.size_mk _
  have hle : i ≤ s.length := by have := hat.len; omega
  have he : ∀ n, Calls Tryz.prog 32 #[.pointer (some ⟨rb, 0, none⟩)] (w.drewN n) fun e w' => e = .returned (.bool (decide (s.length ≤ i))) ∧ ∃ m, w' = (w.drewN n).drewN m := fun n => end_fn (h.drewN n)
  cases l with
  | nil =>
    have hge : s.length ≤ i := hat.nil_iff.1 rfl
    rw [decide_eq_true hge] at he
    have HE := hid he
    clear he
    go_enter Tryz.func82, Tryz.ntmps82
    go_wp2
    go_quiet ((go_at_call 32; exact Calls.quiet_of (HE.out _)))
    go_wp2
    go_ret
    exact ⟨rfl, _, rfl⟩
  | cons c t =>
    have hlt := hat.lt
    have hx := hat.byte
    rw [decide_eq_false (by omega)] at he
    have HE := hid he
    have hP : parted wi (c :: t) = (c == 10 || c == 59 || (wi && c == 93)) := rfl
    obtain ⟨r, hr⟩ : ∃ r, r = parted wi (c :: t) := ⟨_, rfl⟩
    rw [← hr]
    rw [hP] at hr
    have HR := hid hr
    clear he hP hr hat
    by_cases h10 : c = 10
    · subst h10
      go_enter Tryz.func82, Tryz.ntmps82
      go_wp2
      go_quiet ((go_at_call 32; exact Calls.quiet_of (HE.out _)))
      go_wp2
      go_ret
      exact ⟨by rw [HR.out]; rfl, _, rfl⟩
    have n10 := byte_ne 10 h10 rfl
    by_cases h59 : c = 59
    · subst h59
      go_enter Tryz.func82, Tryz.ntmps82
      go_wp2
      go_quiet ((go_at_call 32; exact Calls.quiet_of (HE.out _)))
      go_wp2
      go_ret
      exact ⟨by rw [HR.out]; rfl, _, rfl⟩
    have n59 := byte_ne 59 h59 rfl
    cases wi with
    | false =>
      go_enter Tryz.func82, Tryz.ntmps82
      go_wp2
      go_quiet ((go_at_call 32; exact Calls.quiet_of (HE.out _)))
      go_wp2
      go_ret
      exact ⟨by rw [HR.out]; simp [h10, h59], _, rfl⟩
    | true =>
      by_cases h93 : c = 93
      · subst h93
        go_enter Tryz.func82, Tryz.ntmps82
        go_wp2
        go_quiet ((go_at_call 32; exact Calls.quiet_of (HE.out _)))
        go_wp2
        go_ret
        exact ⟨by rw [HR.out]; rfl, _, rfl⟩
      have n93 := byte_ne 93 h93 rfl
      go_enter Tryz.func82, Tryz.ntmps82
      go_wp2
      go_quiet ((go_at_call 32; exact Calls.quiet_of (HE.out _)))
      go_wp2
      go_ret
      exact ⟨by rw [HR.out]; simp [h10, h59, h93], _, rfl⟩
set_option maxRecDepth 100000 in
set_option maxHeartbeats 1000000 in
theorem ended_fn {w : World} {rb : Nat} {s l : Str} {i d : Nat} {g : Told} (h : RdAt w rb s i d g) (hat : At s l i) (hs : s.length ≤ 1000000) (wi : Bool) :
    Calls Tryz.prog 128 #[.pointer (some ⟨rb, 0, none⟩), .bool wi] w fun e w' => e = .returned (.bool (ended wi l)) ∧ ∃ n, w' = w.drewN n := by
  obtain ⟨c0, c1, _⟩ := h.cells
  have hsz : (⟨s.toArray⟩ : ByteArray).size = s.length := Lib.size_mk _
  have hle : i ≤ s.length := by have := hat.len; omega
  have hp : ∀ n, Calls Tryz.prog 82 #[.pointer (some ⟨rb, 0, none⟩), .bool wi] (w.drewN n) fun e w' => e = .returned (.bool (parted wi l)) ∧ ∃ m, w' = (w.drewN n).drewN m := fun n => parted_fn (h.drewN n) hat hs wi
  have hj : ∀ n, Calls Tryz.prog 107 #[.pointer (some ⟨rb, 0, none⟩)] (w.drewN n) fun e w' => e = .returned (.bool (joins l)) ∧ ∃ m, w' = (w.drewN n).drewN m := fun n => joins_fn (h.drewN n) hat hs
  have HJ := hid hj
  clear hj
  obtain ⟨r, hr⟩ : ∃ r, r = ended wi l := ⟨_, rfl⟩
  rw [← hr]
  unfold ended at hr
  cases hpl : parted wi l with
  | true =>
    rw [hpl] at hr hp
    have HP := hid hp
    obtain rfl : r = true := by rw [hr]; rfl
    clear hp hr hpl
    go_enter Tryz.func128, Tryz.ntmps128
    go_wp2
    go_quiet ((go_at_call 82; exact Calls.quiet_of (HP.out _)))
    go_wp2
    go_ret
    exact ⟨rfl, _, rfl⟩
  | false =>
    rw [hpl] at hr hp
    have HP := hid hp
    clear hp
    cases l with
    | nil => cases hpl
    | cons c t =>
      clear hpl
      have hlt := hat.lt
      have hx := hat.byte
      dsimp only at hr
      have hw : ∀ W, Calls Tryz.prog 108 #[.int .u8 c.toNat] W fun e w' => e = .returned (.bool (white c)) ∧ w' = W := fun W => white_fn c W
      have HR := hid hr
      clear hr hat
      cases hwc : white c with
      | true =>
        rw [hwc] at hw HR
        have HW := hid hw
        clear hw hwc
        go_enter Tryz.func128, Tryz.ntmps128
        go_wp2
        go_quiet (first | (go_at_call 82; exact Calls.quiet_of (HP.out _)) | (go_at_call 108; exact Calls.quiet_of_same (HW.out _)))
        go_wp2
        go_ret
        exact ⟨by rw [HR.out]; rfl, _, rfl⟩
      | false =>
        rw [hwc] at hw HR
        have HW := hid hw
        clear hw hwc
        generalize joins (c :: t) = jb at HJ HR
        go_enter Tryz.func128, Tryz.ntmps128
        go_wp2
        go_quiet (first | (go_at_call 82; exact Calls.quiet_of (HP.out _)) | (go_at_call 108; exact Calls.quiet_of_same (HW.out _)) | (go_at_call 107; exact Calls.quiet_of (HJ.out _)))
        go_wp2
        go_ret
        exact ⟨by rw [HR.out]; simp, _, rfl⟩
end Go.Proofs.YtkgpmkkodpjdfaaGreatDoor.Pz
/-
  The reader goes over blanks, over a comment.
-/
namespace Go.Proofs.YtkgpmkkodpjdfaaGreatDoor.Pz
open Go.RowKit
theorem RdAt.lt {w : World} {rb : Nat} {s : Str} {i d : Nat} {g : Told} (h : RdAt w rb s i d g) : rb < w.heap.size := (Array.getElem?_eq_some_iff.1 h).1
theorem RdAt.free {w : World} {rb : Nat} {s : Str} {i d : Nat} {g : Told} (h : RdAt w rb s i d g) (o : Nat) : w.frozen? ⟨rb, o, none⟩ = false := by
  unfold RdAt at h
  simp [World.frozen?, h]
theorem RdAt.go {w : World} {rb : Nat} {s : Str} {i d : Nat} {g : Told} (h : RdAt w rb s i d g) {v : Value} {j : Nat} (hv : v = .int .i64 (j : Int)) : RdAt (w.setCell ⟨rb, 1, none⟩ v) rb s j d g := by
  unfold RdAt at *
  subst hv
  simp [World.setCell, Array.getElem?_modify, h]
theorem RdAt.deep {w : World} {rb : Nat} {s : Str} {i d : Nat} {g : Told} (h : RdAt w rb s i d g) {v : Value} {j : Nat} (hv : v = .int .i64 (j : Int)) : RdAt (w.setCell ⟨rb, 2, none⟩ v) rb s i j g := by
  unfold RdAt at *
  subst hv
  simp [World.setCell, Array.getElem?_modify, h]
theorem RdAt.of {w w' : World} {rb : Nat} {s : Str} {i d : Nat} {g : Told} (h : RdAt w rb s i d g) (hk : w'.heap[rb]? = w.heap[rb]?) : RdAt w' rb s i d g := hk.trans h
theorem But.drewN {rb B : Nat} {a w : World} (h : But rb B a w) (n : Nat) : But rb B a (w.drewN n) := ⟨h.os, h.tape, h.output, h.size, h.block⟩
/-- all but the reader's block stands, and nothing is new -/
structure Still (rb : Nat) (w w' : World) : Prop where
  os : w'.os = w.os
  tape : w'.tape = w.tape
  output : w'.output = w.output
  size : w'.heap.size = w.heap.size
  block : ∀ k, k ≠ rb → w'.heap[k]? = w.heap[k]?
theorem Still.refl (rb : Nat) (w : World) : Still rb w w := ⟨rfl, rfl, rfl, rfl, fun _ _ => rfl⟩
theorem Still.trans {rb : Nat} {a b c : World} (h : Still rb a b) (k : Still rb b c) : Still rb a c :=
  ⟨k.os.trans h.os, k.tape.trans h.tape, k.output.trans h.output, k.size.trans h.size, fun i hr => (k.block i hr).trans (h.block i hr)⟩
theorem Still.but {rb : Nat} {w w' : World} (h : Still rb w w') (B : Nat) : But rb B w w' := ⟨h.os, h.tape, h.output, Nat.le_of_eq h.size.symm, fun k _ hr => h.block k hr⟩
theorem Still.drewN {rb : Nat} {a w : World} (h : Still rb a w) (n : Nat) : Still rb a (w.drewN n) := ⟨h.os, h.tape, h.output, h.size, h.block⟩
theorem Still.set {rb : Nat} {a w : World} (h : Still rb a w) (o : Nat) (u : Value) : Still rb a (w.setCell ⟨rb, o, none⟩ u) :=
  h.trans ⟨rfl, rfl, rfl, by simp [World.setCell], fun k hr => Below.heap_setCell _ _ _ _ (fun e => hr e)⟩
theorem blanks_join {l : Str} (h : joins l = true) : ∃ t, l = 92 :: 10 :: t ∧ blanks l = blanks t := by
  unfold joins at h
  split at h
  · rename_i t
    exact ⟨t, rfl, by rw [blanks, if_pos (by decide)]⟩
  · cases h
theorem blanks_step {c : UInt8} {t : Str} (hj : joins (c :: t) = false) : blanks (c :: t) = if c != 10 && white c then blanks t else c :: t := by
  cases t with
  | nil =>
    rw [blanks.eq_2, blanks.eq_1]
  | cons e t =>
    rw [blanks]
    have : ¬ (c == 92 && e == 10) = true := by
      intro h
      simp only [Bool.and_eq_true, beq_iff_eq] at h
      obtain ⟨rfl, rfl⟩ := h
      cases hj
    rw [if_neg this]
set_option maxRecDepth 100000 in
set_option maxHeartbeats 2000000 in
theorem blanks_fn {w : World} {rb : Nat} {s l : Str} {i d : Nat} {g : Told} (h : RdAt w rb s i d g) (hat : At s l i) (hs : s.length ≤ 1000000) :
    Calls Tryz.prog 81 #[.pointer (some ⟨rb, 0, none⟩)] w fun e w' => e = .returned (.tuple #[]) ∧ RdAt w' rb s (s.length - (blanks l).length) d g ∧ Still rb w w' := by
  have hsz : (⟨s.toArray⟩ : ByteArray).size = s.length := Lib.size_mk _
  go_enter Tryz.func81, Tryz.ntmps81
  go_wp2_with fail
  go_loopg [] l.length (fun k wr => ∃ l' i', RdAt wr rb s i' d g ∧ At s l' i' ∧ k = l'.length ∧ blanks l' = blanks l ∧ Still rb w wr)
  case atStart => exact ⟨l, i, h, hat, rfl, rfl, Still.refl _ _⟩
  case round =>
    obtain ⟨l', i', hr, ha, rfl, hb, hst⟩ := hrel
    have HB := hid hb
    clear hb h hat
    obtain ⟨c0, c1, _⟩ := hr.cells
    have z1 := hr.free 1
    have hle : i' ≤ s.length := by have := ha.len; omega
    have he := hid (end_fn hr)
    cases l' with
    | nil =>
      have hge : s.length ≤ i' := ha.nil_iff.1 rfl
      rw [decide_eq_true hge] at he
      go_wp2_with fail
      (with_reducible refine he.out.mono ?_); rintro e w1 ⟨rfl, n, rfl⟩
      go_wp2_with fail
      go_end0
      refine ⟨rfl, ?_, hst.drewN _⟩
      have h1 : blanks l = [] := by rw [← HB.out]; rfl
      rw [h1, show s.length - ([] : Str).length = i' by simp; omega]
      exact hr.drewN _
    | cons c t =>
      have hlt := ha.lt
      rw [decide_eq_false (by omega)] at he
      have hx := ha.byte
      go_wp2_with fail
      (with_reducible refine he.out.mono ?_); rintro e w1 ⟨rfl, n, rfl⟩
      have hr1 := hr.drewN n
      have hst1 := hst.drewN n
      generalize wr.drewN n = w1 at *
      have hj := hid (joins_fn hr1 ha hs)
      obtain ⟨d0, d1, _⟩ := hr1.cells
      have zd1 := hr1.free 1
      cases hjc : joins (c :: t) with
      | true =>
        rw [hjc] at hj
        obtain ⟨t', ht', hbl⟩ := blanks_join hjc
        have HT := hid (And.intro ht' hbl)
        clear ht' hbl hjc
        go_wp2_with fail
        (with_reducible refine hj.out.mono ?_); rintro e w2 ⟨rfl, n2, rfl⟩
        have hr2 := hr1.drewN n2
        have hst2 := hst1.drewN n2
        generalize w1.drewN n2 = w2 at *
        obtain ⟨e0, e1, _⟩ := hr2.cells
        have ze1 := hr2.free 1
        clear c0 c1 z1 d0 d1 zd1
        have hlt2 : i' + 2 ≤ s.length := by have := ha.len; rw [HT.out.1] at this; simp at this; omega
        go_wp2
        go_roundg t'.length
        case measure =>
          have := congrArg List.length HT.out.1
          simp at this ⊢
          omega
        case rel =>
          refine ⟨t', i' + 2, hr2.go rfl, ?_, rfl, by rw [← HB.out, HT.out.2], hst2.set _ _⟩
          rw [HT.out.1] at ha
          exact ha.tail.tail
      | false =>
        rw [hjc] at hj
        have hbs := blanks_step hjc
        rw [HB.out] at hbs
        have HS := hid hbs
        clear hbs hjc
        go_wp2_with fail
        (with_reducible refine hj.out.mono ?_); rintro e w2 ⟨rfl, n2, rfl⟩
        have hr2 := hr1.drewN n2
        have hst2 := hst1.drewN n2
        generalize w1.drewN n2 = w2 at *
        obtain ⟨e0, e1, _⟩ := hr2.cells
        have ze1 := hr2.free 1
        clear c0 c1 z1 d0 d1 zd1
        have hw : ∀ W, Calls Tryz.prog 108 #[.int .u8 c.toNat] W fun e w' => e = .returned (.bool (white c)) ∧ w' = W := fun W => white_fn c W
        by_cases h10 : c = 10
        · subst h10
          go_wp2
          go_quiet (fail)
          go_wp2
          refine bodyPost_ret (results_none rfl _ _ _) rfl ?_
          refine ⟨rfl, ?_, hst2.drewN _⟩
          have h1 : blanks l = 10 :: t := HS.out
          rw [h1, ← ha.eq]
          exact hr2.drewN _
        · have n10 := byte_ne' 10 h10 rfl
          cases hwc : white c with
          | true =>
            rw [hwc] at hw
            have HW := hid hw
            have h1 : blanks l = blanks t := by rw [HS.out, hwc]; simp [h10]
            have H1 := hid h1
            clear hw h1 hwc
            go_wp2
            go_quiet ((go_at_call 108; exact Calls.quiet_of_same (HW.out _)))
            go_wp2
            go_roundg t.length
            case measure => simp
            case rel => exact ⟨t, i' + 1, (hr2.drewN _).go rfl, ha.tail, rfl, H1.out.symm, (hst2.drewN _).set _ _⟩
          | false =>
            rw [hwc] at hw
            have HW := hid hw
            have h1 : blanks l = c :: t := by rw [HS.out, hwc]; simp
            have H1 := hid h1
            clear hw h1 hwc
            go_wp2
            go_quiet ((go_at_call 108; exact Calls.quiet_of_same (HW.out _)))
            go_wp2
            refine bodyPost_ret (results_none rfl _ _ _) rfl ?_
            refine ⟨rfl, ?_, hst2.drewN _⟩
            rw [H1.out, ← ha.eq]
            exact hr2.drewN _
set_option maxRecDepth 100000 in
set_option maxHeartbeats 2000000 in
theorem comment_fn {w : World} {rb : Nat} {s l : Str} {i d : Nat} {g : Told} (h : RdAt w rb s i d g) (hat : At s l i) (hs : s.length ≤ 1000000) :
    Calls Tryz.prog 83 #[.pointer (some ⟨rb, 0, none⟩)] w fun e w' => e = .returned (.tuple #[]) ∧ RdAt w' rb s (s.length - (comment false l).length) d g ∧ Still rb w w' := by
  have hsz : (⟨s.toArray⟩ : ByteArray).size = s.length := Lib.size_mk _
  go_enter Tryz.func83, Tryz.ntmps83
  go_wp2_with fail
  go_loopg [2] l.length (fun k sv wr => ∃ l' i' n, sv = .int .i64 (n : Nat) ∧ n + l'.length ≤ s.length ∧ RdAt wr rb s i' d g ∧ At s l' i' ∧ k = l'.length ∧ comment (decide (n % 2 = 1)) l' = comment false l ∧ Still rb w wr)
  case atStart => exact ⟨l, i, 0, rfl, by have := hat.len; omega, h, hat, rfl, rfl, Still.refl _ _⟩
  case round =>
    obtain ⟨l', i', n, rfl, hn, hr, ha, rfl, hb, hst⟩ := hrel
    have HB := hid hb
    clear hb h hat
    obtain ⟨c0, c1, _⟩ := hr.cells
    have z1 := hr.free 1
    have hle : i' ≤ s.length := by have := ha.len; omega
    have he := hid (end_fn hr)
    cases l' with
    | nil =>
      have hge : s.length ≤ i' := ha.nil_iff.1 rfl
      rw [decide_eq_true hge] at he
      go_wp2_with fail
      (with_reducible refine he.out.mono ?_); rintro e w1 ⟨rfl, m, rfl⟩
      go_wp2_with fail
      go_end0
      refine ⟨rfl, ?_, hst.drewN _⟩
      have h1 : comment false l = [] := by rw [← HB.out]; rfl
      rw [h1, show s.length - ([] : Str).length = i' by simp; omega]
      exact hr.drewN _
    | cons c t =>
      have hlt := ha.lt
      rw [decide_eq_false (by omega)] at he
      have hx := ha.byte
      simp only [List.length_cons] at hn
      have hcc : comment (decide (n % 2 = 1)) (c :: t) = if c == 92 then comment (!decide (n % 2 = 1)) t else if c == 10 && !decide (n % 2 = 1) then c :: t else comment false t := by rw [comment]
      rw [HB.out] at hcc
      have HC := hid hcc
      clear hcc
      go_wp2_with fail
      (with_reducible refine he.out.mono ?_); rintro e w1 ⟨rfl, m, rfl⟩
      have hr1 := hr.drewN m
      have hst1 := hst.drewN m
      generalize wr.drewN m = w1 at *
      clear c0 c1 z1 hr
      obtain ⟨c0, c1, _⟩ := hr1.cells
      have z1 := hr1.free 1
      by_cases h92 : c = 92
      · subst h92
        go_wp2
        go_quiet (fail)
        go_wp2
        go_roundg t.length
        case measure => simp
        case rel =>
          refine ⟨t, i' + 1, n + 1, by go_num, by omega, (hr1.drewN _).go rfl, ha.tail, rfl, ?_, (hst1.drewN _).set _ _⟩
          rw [HC.out, if_pos (by decide)]
          congr 1
          by_cases hp : n % 2 = 1
          · rw [decide_eq_true hp, decide_eq_false (by omega)]; rfl
          · rw [decide_eq_false hp, decide_eq_true (by omega)]; rfl
      have n92 := byte_ne 92 h92 rfl
      by_cases h10 : c = 10
      · subst h10
        by_cases hp : n % 2 = 1
        · have hp' : ((n : Int) % 2 == 0) = false := by rw [beq_eq_false_iff_ne]; omega
          have hC2 := HC.out
          rw [if_neg (by decide), decide_eq_true hp, if_neg (by decide)] at hC2
          have HC2 := hid hC2
          clear hC2 hp
          go_wp2
          go_quiet (fail)
          have hr2 := hr1.drewN nq
          have hst2 := hst1.drewN nq
          generalize w1.drewN nq = w2 at *
          clear c0 c1 z1 hr1
          obtain ⟨c0, c1, _⟩ := hr2.cells
          have z1 := hr2.free 1
          go_wp2
          go_quiet (fail)
          go_wp2
          go_roundg t.length
          case measure => simp
          case rel => exact ⟨t, i' + 1, 0, rfl, by omega, (hr2.drewN _).go rfl, ha.tail, rfl, HC2.out.symm, (hst2.drewN _).set _ _⟩
        · have hp' : ((n : Int) % 2 == 0) = true := by rw [beq_iff_eq]; omega
          have hC2 := HC.out
          rw [if_neg (by decide), decide_eq_false hp, if_pos (by decide)] at hC2
          have HC2 := hid hC2
          clear hC2 hp
          go_wp2
          go_quiet (fail)
          have hr2 := hr1.drewN nq
          have hst2 := hst1.drewN nq
          generalize w1.drewN nq = w2 at *
          clear c0 c1 z1 hr1
          obtain ⟨c0, c1, _⟩ := hr2.cells
          have z1 := hr2.free 1
          go_wp2
          go_quiet (fail)
          go_wp2
          refine bodyPost_ret (results_none rfl _ _ _) rfl ?_
          refine ⟨rfl, ?_, hst2.drewN _⟩
          rw [HC2.out, ← ha.eq]
          exact hr2.drewN _
      · have n10 := byte_ne 10 h10 rfl
        have hC2 := HC.out
        rw [if_neg (by simpa using h92), if_neg (by simp [h10])] at hC2
        have HC2 := hid hC2
        clear hC2
        go_wp2
        go_quiet (fail)
        have hr2 := hr1.drewN nq
        have hst2 := hst1.drewN nq
        generalize w1.drewN nq = w2 at *
        clear c0 c1 z1 hr1
        obtain ⟨c0, c1, _⟩ := hr2.cells
        have z1 := hr2.free 1
        go_wp2
        go_quiet (fail)
        go_wp2
        go_roundg t.length
        case measure => simp
        case rel => exact ⟨t, i' + 1, 0, rfl, by omega, (hr2.drewN _).go rfl, ha.tail, rfl, HC2.out.symm, (hst2.drewN _).set _ _⟩
end Go.Proofs.YtkgpmkkodpjdfaaGreatDoor.Pz
/-
  The reader stops; what stands between braces; a name.
-/
namespace Go.Proofs.YtkgpmkkodpjdfaaGreatDoor.Pz
open Go.RowKit
/-- what a reading stops with -/
def stopAt (a : Int) (e : Int) (o : Bool) : List PanicEntry := [{ v := .iface 56 (.agg #[.int .i64 a, .int .i64 e, .bool o]), recovered := false }]
theorem open_fn (a : Int) (w : World) : Calls Tryz.prog 68 #[.int .i64 a] w fun e w' => e = .panicked (stopAt a 2 true) ∧ w' = w := by
  go_enter Tryz.func68, Tryz.ntmps68
  go_wp2
  exact ⟨rfl, rfl, rfl⟩
theorem closed_yes {w : World} {rb : Nat} {s l : Str} {i d : Nat} {g : Told} (h : RdAt w rb s i d g) (hat : At s l i) (hs : s.length ≤ 1000000) {wi : Bool} (he : ended wi l = true) :
    Calls Tryz.prog 149 #[.pointer (some ⟨rb, 0, none⟩), .bool wi] w fun e w' => e = .returned (.tuple #[]) ∧ ∃ n, w' = w.drewN n := by
  have hc := ended_fn h hat hs wi
  rw [he] at hc
  have HC := hid hc
  clear hc he
  go_enter Tryz.func149, Tryz.ntmps149
  go_wp2_with fail
  (with_reducible refine HC.out.mono ?_); rintro e w1 ⟨rfl, n, rfl⟩
  go_wp2
  go_end0
  exact ⟨rfl, _, rfl⟩
theorem closed_no {w : World} {rb : Nat} {s l : Str} {i d : Nat} {g : Told} (h : RdAt w rb s i d g) (hat : At s l i) (hs : s.length ≤ 1000000) {wi : Bool} (he : ended wi l = false) :
    Calls Tryz.prog 149 #[.pointer (some ⟨rb, 0, none⟩), .bool wi] w fun e w' => e = .panicked (stopAt (i : Nat) 2 false) ∧ ∃ n, w' = w.drewN n := by
  have hc := ended_fn h hat hs wi
  rw [he] at hc
  have HC := hid hc
  clear hc he
  obtain ⟨c0, c1, _⟩ := h.cells
  go_enter Tryz.func149, Tryz.ntmps149
  go_wp2_with fail
  (with_reducible refine HC.out.mono ?_); rintro e w1 ⟨rfl, n, rfl⟩
  go_wp2
  exact ⟨rfl, rfl, _, rfl⟩
/-- what 'brace' does, from the opening brace on -/
def BraceP (rb : Nat) (s : Str) (i d : Nat) (g : Told) (w : World) (o : Option (Str × Str)) (e : Ending) (w' : World) : Prop :=
  match o with
  | some (q, r) => e = .returned (.string ⟨q.toArray⟩) ∧ RdAt w' rb s (s.length - r.length) d g ∧ Still rb w w'
  | none => e = .panicked (stopAt (i : Nat) 2 true) ∧ Still rb w w'
theorem pre_pre (p q : Str) (o : Option (Str × Str)) : pre p (pre q o) = pre (p ++ q) o := by
  cases o with
  | none => rfl
  | some x => obtain ⟨a, r⟩ := x; simp [pre]
theorem brace_cons (D : Nat) (c : UInt8) (l' : Str) : brace D (c :: l') = if c == 92 then (match l' with | [] => none | e :: t' => pre [c, e] (brace D t')) else if c == 123 then pre [c] (brace (D + 1) l') else if c == 125 then (match D with | 0 => some ([], l') | d' + 1 => pre [c] (brace d' l')) else pre [c] (brace D l') := brace.eq_def ..
theorem pre_nil (o : Option (Str × Str)) : pre [] o = o := by
  cases o with
  | none => rfl
  | some x => obtain ⟨a, r⟩ := x; simp [pre]
set_option maxRecDepth 100000 in
set_option maxHeartbeats 4000000 in
theorem brace_fn {w : World} {rb : Nat} {s t : Str} {i d : Nat} {g : Told} (h : RdAt w rb s i d g) (hat : At s (123 :: t) i) (hs : s.length ≤ 1000000) :
    Calls Tryz.prog 148 #[.pointer (some ⟨rb, 0, none⟩)] w (BraceP rb s i d g w (brace 0 t)) := by
  have hsz : (⟨s.toArray⟩ : ByteArray).size = s.length := Lib.size_mk _
  have hlen := hat.len
  obtain ⟨o, ho⟩ : ∃ o, o = brace 0 t := ⟨_, rfl⟩
  rw [← ho]
  have HO := hid ho
  have HAT := hid hat
  clear ho hat
  obtain ⟨c0, c1, _⟩ := h.cells
  go_enter Tryz.func148, Tryz.ntmps148
  go_wp2_with fail
  clear c0 c1
  go_loopg [4] (t.length + 2) (fun k dv wr => ∃ i' : Nat, RdAt wr rb s i' d g ∧ Still rb w wr ∧ ((dv = .int .i64 0 ∧ i' = i ∧ k = t.length + 2) ∨
    (∃ (D : Nat) (p l' : Str), dv = .int .i64 ((D + 1 : Nat) : Int) ∧ D + 1 + l'.length ≤ 1000000 ∧ t = p ++ l' ∧ i' = i + 1 + p.length ∧ k = l'.length + 1 ∧ o = pre p (brace D l')) ∨ ((∃ D : Int, dv = .int .i64 D) ∧ s.length ≤ i' ∧ o = none ∧ k = 0)))
  case atStart => exact ⟨i, h, Still.refl _ _, .inl ⟨rfl, rfl, rfl⟩⟩
  case round =>
    obtain ⟨i', hr, hst, hcase⟩ := hrel
    have he := end_fn hr
    rcases hcase with ⟨rfl, rfl, rfl⟩ | ⟨D, p, l', rfl, hD, ht, hi', rfl, ho⟩ | ⟨⟨D, rfl⟩, hge, ho, rfl⟩
    · have hlt := HAT.out.lt
      have hx := HAT.out.byte
      rw [decide_eq_false (by omega)] at he
      have he := hid he
      go_wp2_with fail
      (with_reducible refine he.out.mono ?_); rintro e w1 ⟨rfl, m, rfl⟩
      have hr1 := hr.drewN m
      have hst1 := hst.drewN m
      generalize wr.drewN m = w1 at *
      clear hr hst
      obtain ⟨c0, c1, _⟩ := hr1.cells
      have z1 := hr1.free 1
      go_wp2
      go_quiet (fail)
      have hr2 := hr1.drewN nq
      have hst2 := hst1.drewN nq
      generalize w1.drewN nq = w2 at *
      clear hr1 hst1 c0 c1 z1
      obtain ⟨c0, c1, _⟩ := hr2.cells
      have z1 := hr2.free 1
      go_wp2
      go_roundg (t.length + 1)
      case measure => omega
      case rel => exact ⟨i' + 1, hr2.go rfl, hst2.set _ _, .inr (.inl ⟨0, [], t, rfl, by simp at hlen; omega, rfl, rfl, rfl, by rw [pre_nil]; exact HO.out⟩)⟩
    · have HT := hid ht
      have HP := hid ho
      have HI := hid hi'
      have ha : At s l' i' := by
        have h1 := HAT.out.tail
        rw [ht] at h1
        rw [hi']
        exact h1.app
      have hlen2 := ha.len
      clear ht ho hi'
      cases l' with
      | nil =>
        have HN : Hid (o = none) := hid (by rw [HP.out]; rfl)
        have hge : s.length ≤ i' := ha.nil_iff.1 rfl
        rw [decide_eq_true hge] at he
        have he := hid he
        go_wp2_with fail
        (with_reducible refine he.out.mono ?_); rintro e w1 ⟨rfl, m, rfl⟩
        have hst1 := hst.drewN m
        generalize wr.drewN m = w1 at *
        have ho := hid (open_fn (i : Nat) w1)
        go_wp2_with fail
        (with_reducible refine ho.out.mono ?_); rintro e w2 ⟨rfl, rfl⟩
        refine ⟨rfl, ?_⟩
        rw [HN.out]
        exact ⟨rfl, hst1⟩
      | cons c l' =>
        have hlt := ha.lt
        have hx := ha.byte
        rw [decide_eq_false (by omega)] at he
        have he := hid he
        have hB := brace_cons D c l'
        rw [hB] at HP
        clear hB
        simp only [List.length_cons] at hD hlen2
        go_wp2_with fail
        (with_reducible refine he.out.mono ?_); rintro e w1 ⟨rfl, m, rfl⟩
        have hr1 := hr.drewN m
        have hst1 := hst.drewN m
        generalize wr.drewN m = w1 at *
        clear hr hst
        obtain ⟨c0, c1, _⟩ := hr1.cells
        have z1 := hr1.free 1
        by_cases h92 : c = 92
        · subst h92
          go_wp2
          go_quiet (fail)
          have hr2 := hr1.drewN nq
          have hst2 := hst1.drewN nq
          generalize w1.drewN nq = w2 at *
          clear hr1 hst1 c0 c1 z1
          obtain ⟨c0, c1, _⟩ := hr2.cells
          have z1 := hr2.free 1
          go_wp2
          cases l' with
          | nil =>
            go_roundg 0
            case measure => simp
            case rel => exact ⟨i' + 1 + 1, (hr2.go rfl).go rfl, (hst2.set _ _).set _ _, .inr (.inr ⟨⟨_, rfl⟩, by simp at hlen2; omega, by rw [HP.out]; rfl, rfl⟩)⟩
          | cons e t' =>
            go_roundg (t'.length + 1)
            case measure => (simp <;> omega)
            case rel => exact ⟨i' + 1 + 1, (hr2.go rfl).go rfl, (hst2.set _ _).set _ _, .inr (.inl ⟨D, p ++ [92, e], t', rfl, by simp at hD; omega, by rw [HT.out]; simp, by rw [HI.out]; simp; omega, rfl, by rw [HP.out, if_pos (by decide)]; exact pre_pre _ _ _⟩)⟩
        have n92 := byte_ne 92 h92 rfl
        have hP2 := HP.out
        rw [if_neg (by simpa using h92)] at hP2
        have HP2 := hid hP2
        clear hP2 HP
        by_cases h123 : c = 123
        · subst h123
          go_wp2
          go_quiet (fail)
          have hr2 := hr1.drewN nq
          have hst2 := hst1.drewN nq
          generalize w1.drewN nq = w2 at *
          clear hr1 hst1 c0 c1 z1
          obtain ⟨c0, c1, _⟩ := hr2.cells
          have z1 := hr2.free 1
          go_wp2
          go_roundg (l'.length + 1)
          case measure => simp
          case rel => exact ⟨i' + 1, hr2.go rfl, hst2.set _ _, .inr (.inl ⟨D + 1, p ++ [123], l', by go_num, by omega, by rw [HT.out]; simp, by rw [HI.out]; simp; omega, rfl, by rw [HP2.out, if_pos (by decide)]; exact pre_pre _ _ _⟩)⟩
        have n123 := byte_ne 123 h123 rfl
        have hP2 := HP2.out
        rw [if_neg (by simpa using h123)] at hP2
        have HP3 := hid hP2
        clear hP2 HP2
        by_cases h125 : c = 125
        · subst h125
          cases D with
          | zero =>
            have hres : o = some (p, l') := by rw [HP3.out, if_pos (by decide)]; simp [pre]
            have hex : (⟨s.toArray⟩ : ByteArray).extract (i + 1) i' = ⟨p.toArray⟩ := by
              have h1 := HAT.out.tail
              rw [HT.out] at h1
              rw [HI.out]
              exact h1.text
            have HR := hid hres
            have hii : i + 1 ≤ i' := by rw [HI.out]; omega
            clear hres HP3
            go_wp2
            go_quiet (fail)
            have hr2 := hr1.drewN nq
            have hst2 := hst1.drewN nq
            generalize w1.drewN nq = w2 at *
            clear hr1 hst1 c0 c1 z1
            obtain ⟨c0, c1, _⟩ := hr2.cells
            have z1 := hr2.free 1
            go_wp2
            have hr3 := hr2.go (v := .int .i64 ((i' : Int) + 1)) (j := i' + 1) rfl
            have hst3 := hst2.set 1 (.int .i64 ((i' : Int) + 1))
            generalize w2.setCell ⟨rb, 1, none⟩ (.int .i64 ((i' : Int) + 1)) = w3 at *
            clear hr2 hst2 c0 c1 z1
            obtain ⟨c0, c1, _⟩ := hr3.cells
            go_quiet (fail)
            go_wp2
            go_ret
            rw [HR.out]
            refine ⟨rfl, ?_, hst3.drewN _⟩
            rw [show s.length - l'.length = i' + 1 by omega]
            exact hr3.drewN _
          | succ D =>
            go_wp2
            go_quiet (fail)
            have hr2 := hr1.drewN nq
            have hst2 := hst1.drewN nq
            generalize w1.drewN nq = w2 at *
            clear hr1 hst1 c0 c1 z1
            obtain ⟨c0, c1, _⟩ := hr2.cells
            have z1 := hr2.free 1
            go_wp2
            go_roundg (l'.length + 1)
            case measure => simp
            case rel => exact ⟨i' + 1, hr2.go rfl, hst2.set _ _, .inr (.inl ⟨D, p ++ [125], l', by go_num, by omega, by rw [HT.out]; simp, by rw [HI.out]; simp; omega, rfl, by rw [HP3.out, if_pos (by decide)]; exact pre_pre _ _ _⟩)⟩
        have n125 := byte_ne 125 h125 rfl
        have hP2 := HP3.out
        rw [if_neg (by simpa using h125)] at hP2
        have HP4 := hid hP2
        clear hP2 HP3
        go_wp2
        go_quiet (fail)
        have hr2 := hr1.drewN nq
        have hst2 := hst1.drewN nq
        generalize w1.drewN nq = w2 at *
        clear hr1 hst1 c0 c1 z1
        obtain ⟨c0, c1, _⟩ := hr2.cells
        have z1 := hr2.free 1
        go_wp2
        go_roundg (l'.length + 1)
        case measure => simp
        case rel => exact ⟨i' + 1, hr2.go rfl, hst2.set _ _, .inr (.inl ⟨D, p ++ [c], l', rfl, by omega, by rw [HT.out]; simp, by rw [HI.out]; simp; omega, rfl, by rw [HP4.out]; exact pre_pre _ _ _⟩)⟩
    · have HN := hid ho
      clear ho
      rw [decide_eq_true hge] at he
      have he := hid he
      go_wp2_with fail
      (with_reducible refine he.out.mono ?_); rintro e w1 ⟨rfl, m, rfl⟩
      have hst1 := hst.drewN m
      generalize wr.drewN m = w1 at *
      have ho := hid (open_fn (i : Nat) w1)
      go_wp2_with fail
      (with_reducible refine ho.out.mono ?_); rintro e w2 ⟨rfl, rfl⟩
      refine ⟨rfl, ?_⟩
      rw [HN.out]
      exact ⟨rfl, hst1⟩
end Go.Proofs.YtkgpmkkodpjdfaaGreatDoor.Pz
/-
  Names of variables.
-/
namespace Go.Proofs.YtkgpmkkodpjdfaaGreatDoor.Pz
open Go.RowKit
theorem letter_nat (c : UInt8) : letter c = (decide (c.toNat = 95) || (decide (48 ≤ c.toNat) && decide (c.toNat ≤ 57)) || (decide (97 ≤ c.toNat) && decide (c.toNat ≤ 122)) || (decide (65 ≤ c.toNat) && decide (c.toNat ≤ 90))) := by
  unfold letter
  rw [Bool.eq_iff_iff]
  simp [UInt8.le_iff_toNat_le, ← UInt8.toNat_inj]
theorem named_fn (c : UInt8) (w : World) : Calls Tryz.prog 93 #[.int .u8 c.toNat] w fun e w' => e = .returned (.bool (letter c)) ∧ w' = w := by
  have hW := hid (letter_nat c)
  have hl : c.toNat < 256 := c.toNat_lt
  generalize letter c = W at hW ⊢
  generalize c.toNat = x at hl hW ⊢
  go_enter Tryz.func93, Tryz.ntmps93
  by_cases h95 : x = 95
  · subst h95
    go_wp2
    go_ret
    exact ⟨by rw [hW.out]; rfl, rfl⟩
  have e95 : ((x : Int) == 95) = false := by rw [beq_eq_false_iff_ne]; omega
  by_cases h1 : 48 ≤ x
  · by_cases h2 : x ≤ 57
    · go_wp2
      go_ret
      exact ⟨ret_b (by rw [hW.out]; simp [h1, h2]), rfl⟩
    · have h2' : decide ((x : Int) ≤ 57) = false := by simp; omega
      by_cases h3 : 97 ≤ x
      · by_cases h4 : x ≤ 122
        · go_wp2
          go_ret
          exact ⟨ret_b (by rw [hW.out]; simp [h3, h4]), rfl⟩
        · have h4' : decide ((x : Int) ≤ 122) = false := by simp; omega
          have h5' : decide ((x : Int) ≤ 90) = false := by simp; omega
          go_wp2
          go_ret
          exact ⟨ret_b (by rw [hW.out]; simp; omega), rfl⟩
      · by_cases h4 : 65 ≤ x
        · by_cases h5 : x ≤ 90
          · go_wp2
            go_ret
            exact ⟨ret_b (by rw [hW.out]; simp [h4, h5] <;> omega), rfl⟩
          · have h5' : decide ((x : Int) ≤ 90) = false := by simp; omega
            go_wp2
            go_ret
            exact ⟨ret_b (by rw [hW.out]; simp; omega), rfl⟩
        · go_wp2
          go_ret
          exact ⟨ret_b (by rw [hW.out]; simp; omega), rfl⟩
  · go_wp2
    go_ret
    exact ⟨ret_b (by rw [hW.out]; simp; omega), rfl⟩
theorem trimLeft1 (s : List UInt8) (hs : s.length ≤ 1000000000) (c : UInt8) (w : World) : Calls Tryz.prog 114 #[.string ⟨s.toArray⟩, .int .u8 c.toNat] w fun e w' => e = .returned (.string ⟨(s.dropWhile (· == c)).toArray⟩) ∧ w' = w := by
  go_enter Tryz.func114, Tryz.ntmps114
  go_wp2
  go_loop [0] (fun v => ∃ l : List UInt8, l.length ≤ 1000000000 ∧ v = .string ⟨l.toArray⟩ ∧ l.dropWhile (· == c) = s.dropWhile (· == c)) (fun v => Lib.strSize v)
  case atStart => exact ⟨s, hs, rfl, rfl⟩
  case round =>
    obtain ⟨l, hl, rfl, he⟩ := hrel
    have hE := hid he
    clear he
    cases l with
    | nil =>
      have h1 : (⟨([] : List UInt8).toArray⟩ : ByteArray).size = 0 := rfl
      go_wp2
      go_ret
      exact ⟨by rw [← hE.out]; rfl, rfl⟩
    | cons x l =>
      have h1 : (⟨(x :: l).toArray⟩ : ByteArray).size = l.length + 1 := by rw [Lib.size_mk]; simp
      have h2 : (⟨(x :: l).toArray⟩ : ByteArray).extract 1 (l.length + 1) = ⟨l.toArray⟩ := by
        rw [Lib.extract_mk]; simp
      have hx : ∀ h, (⟨(x :: l).toArray⟩ : ByteArray)[0]'h = x := fun h => rfl
      have hl' : l.length ≤ 999999999 := by simpa using hl
      clear hl
      by_cases hc : x = c
      · subst hc
        have hd : (x :: l).dropWhile (· == x) = l.dropWhile (· == x) := by simp
        go_wp2
        refine ⟨⟨l, by omega, rfl, by rw [← hE.out, hd]⟩, ?_⟩
        rw [Lib.strSize_string, Lib.strSize_string, h1, Lib.size_mk]
        omega
      · have hne : (((x.toNat : Nat) : Int) == ((c.toNat : Nat) : Int)) = false := by
          have : x.toNat ≠ c.toNat := fun e => hc (UInt8.toNat_inj.1 e)
          rw [beq_eq_false_iff_ne]
          omega
        have hd : (x :: l).dropWhile (· == c) = x :: l := by
          rw [List.dropWhile_cons, if_neg (by simpa using hc)]
        go_wp2
        go_ret
        exact ⟨by rw [← hE.out, hd]; rfl, rfl⟩
theorem trimLeft58 (s : List UInt8) (hs : s.length ≤ 1000000000) (w : World) : Calls Tryz.prog 92 #[.string ⟨s.toArray⟩, .string ⟨#[58]⟩] w fun e w' => e = .returned (.string ⟨(s.dropWhile (· == 58)).toArray⟩) ∧ w' = w := by
  have hc : Calls Tryz.prog 114 #[.string ⟨s.toArray⟩, .int .u8 58] w fun e w' => e = .returned (.string ⟨(s.dropWhile (· == 58)).toArray⟩) ∧ w' = w := trimLeft1 s hs 58 w
  have hc := hid hc
  go_enter Tryz.func92, Tryz.ntmps92
  cases s with
  | nil =>
    go_wp2
    go_ret
    exact ⟨rfl, rfl⟩
  | cons x l =>
    have hne : (x :: l == ([] : List UInt8)) = false := rfl
    have hx : ∀ h, (⟨#[58]⟩ : ByteArray)[0]'h = 58 := fun h => rfl
    go_wp2_with fail
    (with_reducible refine hc.out.mono ?_); rintro e w' ⟨rfl, rfl⟩
    go_wp2
    go_ret
    exact ⟨rfl, rfl⟩
/-- only draws lie between two worlds -/
def Drew (w w' : World) : Prop := ∃ n, w' = w.drewN n
theorem Drew.refl (w : World) : Drew w w := ⟨0, rfl⟩
theorem Drew.drewN {a w : World} (h : Drew a w) (n : Nat) : Drew a (w.drewN n) := by
  obtain ⟨m, rfl⟩ := h
  exact ⟨m + n, by rw [World.drewN_drewN]⟩
theorem Drew.trans {a b c : World} (h : Drew a b) (k : Drew b c) : Drew a c := by
  obtain ⟨m, rfl⟩ := k
  exact h.drewN m
theorem Drew.heap {w w' : World} (h : Drew w w') : w'.heap = w.heap := by
  obtain ⟨n, rfl⟩ := h
  rfl
/-! colons -/
theorem name_true : ∀ (l : Str), name true l = (l.takeWhile (· == 58) ++ (name false (l.dropWhile (· == 58))).1, (name false (l.dropWhile (· == 58))).2)
  | [] => rfl
  | c :: t => by
    by_cases h58 : c = 58
    · subst h58
      rw [name, if_neg (by decide), if_pos (by simp), name_true t]
      simp
    · have h1 : (c :: t).takeWhile (· == 58) = [] := by rw [List.takeWhile_cons, if_neg (by simpa using h58)]
      have h2 : (c :: t).dropWhile (· == 58) = c :: t := by rw [List.dropWhile_cons, if_neg (by simpa using h58)]
      rw [h1, h2, name, name]
      simp [h58]
theorem name_letter {c : UInt8} (t : Str) (h : letter c = true) : (name false (c :: t)).2 = (name false t).2 := by
  rw [name, if_pos h]
/-- what is left behind a name's end -/
theorem name_colons {c : UInt8} (t : Str) (h : letter c = false) : (name false (c :: t)).2 = if 2 ≤ (c :: t).length - ((c :: t).dropWhile (· == 58)).length then (name false ((c :: t).dropWhile (· == 58))).2 else c :: t := by
  rw [name, if_neg (by rw [h]; simp)]
  by_cases h58 : c = 58
  · subst h58
    cases t with
    | nil => simp
    | cons b t =>
      by_cases hb : b = 58
      · subst hb
        rw [if_pos (by simp), name_true]
        have hl := (List.dropWhile_sublist (l := t) (· == (58 : UInt8))).length_le
        rw [if_pos (by simp; omega)]
        simp
      · rw [if_neg (by simp [hb]), if_neg (by simp [hb])]
  · rw [if_neg (by simp [h58]), if_neg (by simp [h58])]
theorem At.fall {s l t : Str} {i : Nat} (h : At s l i) (ht : t <:+ l) : At s t (i + (l.length - t.length)) := by
  obtain ⟨p, rfl⟩ := ht
  have := h.app
  rw [show i + ((p ++ t).length - t.length) = i + p.length by simp]
  exact this
set_option maxRecDepth 100000 in
set_option maxHeartbeats 2000000 in
theorem name_fn {w : World} {rb : Nat} {s l : Str} {i j d : Nat} {g : Told} (h : RdAt w rb s i d g) (hat : At s l j) (hs : s.length ≤ 1000000) :
    Calls Tryz.prog 69 #[.pointer (some ⟨rb, 0, none⟩), .int .i64 (j : Nat)] w fun e w' => e = .returned (.int .i64 ((s.length - (name false l).2.length : Nat) : Int)) ∧ Drew w w' := by
  have hsz : (⟨s.toArray⟩ : ByteArray).size = s.length := Lib.size_mk _
  have hjl : j ≤ s.length := by have := hat.len; omega
  go_enter Tryz.func69, Tryz.ntmps69
  go_wp2_with fail
  go_loopg [1] l.length (fun k jv wr => ∃ (l' : Str) (j' : Nat), jv = .int .i64 (j' : Nat) ∧ RdAt wr rb s i d g ∧ At s l' j' ∧ k = l'.length ∧ (name false l').2 = (name false l).2 ∧ Drew w wr)
  case atStart => exact ⟨l, j, rfl, h, hat, rfl, rfl, Drew.refl _⟩
  case round =>
    obtain ⟨l', j', rfl, hr, ha, rfl, hn, hd⟩ := hrel
    have HN := hid hn
    clear hn h hat hjl
    obtain ⟨c0, c1, _⟩ := hr.cells
    have hle : j' ≤ s.length := by have := ha.len; omega
    cases l' with
    | nil =>
      have hge : s.length ≤ j' := ha.nil_iff.1 rfl
      go_wp2
      go_ret
      refine ⟨ret_i ?_, hd⟩
      rw [← HN.out, show (name false []).2 = [] from rfl]
      have := ha.len
      simp at this ⊢
      omega
    | cons c t =>
      have hlt := ha.lt
      have hx := ha.byte
      have hex := ha.all
      have hlen := ha.len
      have htr : ∀ W, Calls Tryz.prog 92 #[.string ⟨(c :: t).toArray⟩, .string ⟨#[58]⟩] W fun e w' => e = .returned (.string ⟨((c :: t).dropWhile (· == 58)).toArray⟩) ∧ w' = W := fun W => trimLeft58 (c :: t) (by omega) W
      have hszl : (⟨(c :: t).toArray⟩ : ByteArray).size = t.length + 1 := by rw [Lib.size_mk]; simp
      have hsuf := List.dropWhile_suffix (l := c :: t) (· == (58 : UInt8))
      have HSU := hid hsuf
      have hdl := hsuf.length_le
      clear hsuf
      have hnl := @name_letter c t
      have hnc := @name_colons c t
      have hnm : ∀ W, Calls Tryz.prog 93 #[.int .u8 c.toNat] W fun e w' => e = .returned (.bool (letter c)) ∧ w' = W := fun W => named_fn c W
      obtain ⟨q, hq⟩ : ∃ q, q = (c :: t).dropWhile (· == 58) := ⟨_, rfl⟩
      rw [← hq] at htr HSU hdl hnc
      clear hq
      simp only [List.length_cons] at hdl hlen
      have hszq : (⟨q.toArray⟩ : ByteArray).size = q.length := Lib.size_mk _
      have HT := hid htr
      clear htr
      cases hlc : letter c with
      | true =>
        rw [hlc] at hnm
        have HM := hid hnm
        have H1 := hid (hnl hlc)
        clear hnm hnl hnc hlc
        go_wp2
        go_quiet ((go_at_call 92; exact Calls.quiet_of_same (HT.out _)))
        have hr2 := hr.drewN nq
        have hd2 := hd.drewN nq
        generalize wr.drewN nq = w2 at *
        clear hr hd c0 c1
        obtain ⟨c0, c1, _⟩ := hr2.cells
        go_wp2_with fail
        (with_reducible refine (HM.out _).mono ?_); rintro e w3 ⟨rfl, rfl⟩
        go_wp2
        go_roundg t.length
        case measure => simp
        case rel => exact ⟨t, j' + 1, by go_num, hr2, ha.tail, rfl, by rw [← HN.out, H1.out], hd2⟩
      | false =>
        rw [hlc] at hnm
        have HM := hid hnm
        have h1 := hnc hlc
        clear hnm hnl hnc hlc
        by_cases h2 : q.length + 2 ≤ t.length + 1
        · rw [if_pos (by simp; omega)] at h1
          have H1 := hid h1
          clear h1
          go_wp2
          go_quiet ((go_at_call 92; exact Calls.quiet_of_same (HT.out _)))
          have hr2 := hr.drewN nq
          have hd2 := hd.drewN nq
          generalize wr.drewN nq = w2 at *
          clear hr hd c0 c1
          obtain ⟨c0, c1, _⟩ := hr2.cells
          go_wp2_with fail
          (with_reducible refine (HM.out _).mono ?_); rintro e w3 ⟨rfl, rfl⟩
          go_wp2
          go_roundg q.length
          case measure => simp; omega
          case rel =>
            refine ⟨q, j' + (t.length + 1 - q.length), ?_, hr2, ha.fall HSU.out, rfl, by rw [← HN.out, H1.out], hd2⟩
            rw [Value.int.injEq]
            refine ⟨rfl, ?_⟩
            omega
        · rw [if_neg (by simp; omega)] at h1
          have H1 := hid h1
          clear h1
          go_wp2
          go_quiet ((go_at_call 92; exact Calls.quiet_of_same (HT.out _)))
          have hr2 := hr.drewN nq
          have hd2 := hd.drewN nq
          generalize wr.drewN nq = w2 at *
          clear hr hd c0 c1
          obtain ⟨c0, c1, _⟩ := hr2.cells
          go_wp2_with fail
          (with_reducible refine (HM.out _).mono ?_); rintro e w3 ⟨rfl, rfl⟩
          go_wp2
          go_ret
          refine ⟨ret_i ?_, hd2⟩
          rw [← HN.out, H1.out]
          simp
          omega
end Go.Proofs.YtkgpmkkodpjdfaaGreatDoor.Pz
/-
  strings.Builder: what its methods do to one that this program has made.
-/
namespace Go.Proofs.YtkgpmkkodpjdfaaGreatDoor.Pz
open Go.RowKit
/-- a builder in block b that holds l -/
def Bld (w : World) (b : Nat) (l : Str) : Prop := Lib.IsBuilderF 77 5 b b (Lib.byteCells l) w
/-- what stands behind a step of the builder in block b: all that lies below it, and every other block that is no row of bytes -/
def Kept (b : Nat) (w w' : World) : Prop := Below b w w' ∧ Lib.OthersKept 5 (some b) w w'
theorem Kept.refl (b : Nat) (w : World) : Kept b w w := ⟨Below.refl _ _, Lib.OthersKept.refl _ _ _⟩
theorem Kept.trans {b : Nat} {x y z : World} (h : Kept b x y) (k : Kept b y z) : Kept b x z := ⟨h.1.trans k.1, h.2.trans k.2⟩
theorem Bld.at {w : World} {b : Nat} {l : Str} (h : Bld w b l) : ∃ p, (p = .pointer none ∨ p = .pointer (some ⟨b, 0, none⟩)) ∧ Lib.BuilderAtF 77 5 b b p (Lib.byteCells l) w := by
  rcases h with h | h
  · exact ⟨_, .inl rfl, h⟩
  · exact ⟨_, .inr rfl, h⟩
theorem Bld.lt {w : World} {b : Nat} {l : Str} (h : Bld w b l) : b < w.heap.size := by
  obtain ⟨p, _, h⟩ := h.at
  exact h.lt
theorem Bld.new (w : World) : Bld (w.alloc (.cells #[.pointer none, .slice none 0 0] 77)) w.heap.size [] := Lib.IsBuilderF.of (Lib.fresh_isBuilder 77 5 w)
theorem Bld.of {w w' : World} {b : Nat} {l : Str} (h : Bld w b l) (hk : ∀ k, b ≤ k → k < w.heap.size → w'.heap[k]? = w.heap[k]?) : Bld w' b l := by
  have go : ∀ p, Lib.BuilderAtF 77 5 b b p (Lib.byteCells l) w → Lib.BuilderAtF 77 5 b b p (Lib.byteCells l) w' := by
    intro p h
    have hlt := h.lt
    obtain ⟨hB, v, hb, hown, hne⟩ := h
    refine ⟨hB, v, (hk b (Nat.le_refl _) hlt).trans hb, ⟨hown.1, ?_⟩, hne⟩
    rcases hown.2 with hn | ⟨g, cap, cur, fz, hv, hbg, hg, rest⟩
    · exact .inl hn
    · exact .inr ⟨g, cap, cur, fz, hv, hbg, (hk g hbg (Array.getElem?_eq_some_iff.1 hg).1).trans hg, rest⟩
  exact h.elim (fun x => .inl (go _ x)) (fun x => .inr (go _ x))
theorem Tryz.infoB : (Tryz.prog.info? 77).map (·.size) = some 2 := by kernel_rfl
theorem Tryz.liesB : liesAt Tryz.prog Tryz.prog.depth 77 (2 / Tryz.prog.cellsOf 77) 0 77 1 = true := by kernel_rfl
theorem Tryz.info5 : (Tryz.prog.info? 5).map (fun i => (i.zero, i.size, i.bytes)) = some (some (.int .u8 0), 1, 1) := by kernel_rfl
set_option maxRecDepth 100000 in
set_option maxHeartbeats 1000000 in
theorem copyCheck_fn {w : World} {b : Nat} {l : Str} (h : Bld w b l) :
    Calls Tryz.prog 77 #[.pointer (some ⟨b, 0, none⟩)] w fun e w' => e = .returned (.tuple #[]) ∧ Lib.BuilderAtF 77 5 b b (.pointer (some ⟨b, 0, none⟩)) (Lib.byteCells l) w' ∧ Kept b w w' := by
  obtain ⟨j, hj, hjs⟩ := Option.map_eq_some_iff.1 Tryz.infoB
  rcases h with h | h
  · have h0 := h.cell0
    have hsh := h.shape
    have hfz := h.frozen0
    have H := hid h
    clear h
    go_enter Tryz.func77, Tryz.ntmps77
    go_wp2
    rw [Lib.run_to_unsafe w ⟨b, 0, none⟩ Tryz.underlying74 Tryz.underlying128 hj (by rw [hjs]; decide) hsh (Nat.zero_lt_succ 1)]
    simp only [Result.andThen]
    rw [Oper.upon_value]
    go_wp2
    rw [run_callFunc_extern Tryz.func100 (by kernel_rfl) (by kernel_rfl) (by kernel_rfl) (e := Extern.AbiNoEscape.same) (by kernel_rfl)]
    rw [Lib.run_noEscape]
    simp only [Result.andThen]
    rw [Oper.upon_value]
    go_wp2
    rw [Lib.run_from_unsafe w ⟨b, 0, none⟩ Tryz.underlying128 Tryz.underlying74 hj hsh Tryz.liesB]
    simp only [Result.andThen]
    rw [Oper.upon_value]
    go_wp2
    go_end0
    exact ⟨rfl, H.out.used _, (Below.refl b w).setCell (p := ⟨b, 0, none⟩) (Nat.le_refl _) _, (Lib.OthersKept.refl _ _ w).setCell ⟨b, 0, none⟩ rfl _⟩
  · have h0 := h.cell0
    have H := hid h
    clear h
    go_enter Tryz.func77, Tryz.ntmps77
    go_wp2
    rw [Lib.run_neq_ptr_same w _ Tryz.underlying74 hj]
    go_wp2
    go_end0
    exact ⟨rfl, H.out, Kept.refl _ _⟩
theorem len_fn {w : World} {b : Nat} {l : Str} (h : Bld w b l) :
    Calls Tryz.prog 54 #[.pointer (some ⟨b, 0, none⟩)] w fun e w' => e = .returned (.int .i64 (l.length : Nat)) ∧ w' = w := by
  obtain ⟨p, _, hB, v, hbk, hown, hne⟩ := h.at
  rw [Lib.byteCells_length] at hown
  obtain ⟨ao, cap, rfl⟩ : ∃ ao cap, v = .slice ao l.length cap := by
    rcases hown.2 with ⟨hv, h0⟩ | ⟨g, cap, cur, fz, hv, _⟩
    · exact ⟨none, 0, by rw [hv, h0]⟩
    · exact ⟨_, _, hv⟩
  have c1 : w.cell? ⟨b, 1, none⟩ = some (.slice ao l.length cap) := by rw [Lib.cell_of_heap hbk]; rfl
  clear hown hne hbk
  go_enter Tryz.func54, Tryz.ntmps54
  go_wp2
  go_ret
  exact ⟨rfl, rfl⟩
set_option maxRecDepth 100000 in
set_option maxHeartbeats 2000000 in
theorem wbyte_fn {w : World} {b : Nat} {l : Str} (h : Bld w b l) (c : UInt8) (hl : l.length ≤ 1000000000) :
    Calls Tryz.prog 60 #[.pointer (some ⟨b, 0, none⟩), .int .u8 c.toNat] w fun e w' => e = .returned .nilIface ∧ Bld w' b (l ++ [c]) ∧ Kept b w w' := by
  obtain ⟨i0, hi, hz0, hz1, hz2⟩ := info_parts Tryz.info5
  have hc := hid (copyCheck_fn h)
  have hwb := h.lt
  have hcell : Lib.byteCells (l ++ [c]) = Lib.byteCells l ++ [.int .u8 c.toNat] := by simp [Lib.byteCells]
  have HC := hid hcell
  clear h hcell
  generalize hx : (c.toNat : Int) = x at *
  clear hx
  go_enter Tryz.func60, Tryz.ntmps60
  go_wp2_with fail
  (with_reducible refine hc.out.mono ?_)
  rintro e w1 ⟨rfl, ⟨hB, v, hbk, hown, hne⟩, hb1, hk1⟩
  rw [Lib.byteCells_length] at hown
  have c0 : w1.cell? ⟨b, 0, none⟩ = some (.pointer (some ⟨b, 0, none⟩)) := by rw [Lib.cell_of_heap hbk]; rfl
  have c1 : w1.cell? ⟨b, 1, none⟩ = some v := by rw [Lib.cell_of_heap hbk]; rfl
  go_wp2_with (at_builtin; refine wpList_append_ownF _ rfl _ _ 75 rfl b 5 i0 (.int .u8 0) 1 1 Tryz.underlying75 hi hz0 hz1 hz2 rfl (by decide) _ _ _ rfl (hown.alloc _) ⟨w1.heap.size, 0, none⟩ 1 1 [.int .u8 x] rfl rfl ?c1 ?c2 ?c3 ?c4 ?c5 ?_)
  case c1 =>
    intro j u hj
    match j, hj with
    | 0, hj => simp at hj; subst hj; simp [Addr.add]
  case c2 => intro u hu; simp at hu; subst hu; rfl
  case c3 => unfold maxLen; omega
  case c4 => omega
  case c5 => have := hb1.size; simp; omega
  intro v' w2 hown' hgrow _
  have hlt : b < w1.heap.size := by have := hb1.size; omega
  have hb2 : w2.heap[b]? = some (.cells #[.pointer (some ⟨b, 0, none⟩), v] 77 (0, 0)) := by
    rw [hgrow.block b (by simp; omega) (fun e => hne e.symm), Lib.alloc_old w1 _ b hlt]
    exact hbk
  have d0 : w2.cell? ⟨b, 0, none⟩ = some (.pointer (some ⟨b, 0, none⟩)) := by rw [Lib.cell_of_heap hb2]; rfl
  have d1 : w2.cell? ⟨b, 1, none⟩ = some v := by rw [Lib.cell_of_heap hb2]; rfl
  have f1 : w2.frozen? ⟨b, 1, none⟩ = false := Lib.frozen_of_heap hb2 1
  obtain ⟨g, cap, rfl⟩ : ∃ g cap, v' = .slice (some ⟨g, 0, none⟩) (l.length + 1) cap := by
    rcases hown'.2 with ⟨_, h0⟩ | ⟨g, cap, cur, fz, hv, _⟩
    · omega
    · exact ⟨g, cap, hv⟩
  go_wp2
  go_ret
  refine ⟨rfl, ?_, ?_, ((hk1.alloc _).grown hgrow (Lib.ownsRowF_kind (hown.alloc _))).setCell ⟨b, 1, none⟩ rfl _⟩
  · refine .inr ?_
    rw [HC.out]
    exact Lib.BuilderAtF.put (T := 77) (e := 5) hB hb2 (bs' := Lib.byteCells l ++ [.int .u8 x]) (by simpa [Lib.byteCells_length] using hown') (by decide)
  · exact ((hb1.alloc (by have := hb1.size; omega) _).grown hgrow (by have := hb1.size; simp; omega) (fun k hk => (hown.lt k hk).1)).setCell (p := ⟨b, 1, none⟩) hB _
set_option maxRecDepth 100000 in
set_option maxHeartbeats 2000000 in
theorem wstr_fn {w : World} {b : Nat} {l : Str} (h : Bld w b l) (x : Str) (hl : l.length + x.length ≤ 1000000000) :
    Calls Tryz.prog 40 #[.pointer (some ⟨b, 0, none⟩), .string ⟨x.toArray⟩] w fun e w' => e = .returned (.tuple #[.int .i64 (x.length : Nat), .nilIface]) ∧ Bld w' b (l ++ x) ∧ Kept b w w' := by
  obtain ⟨i0, hi, hz0, hz1, hz2⟩ := info_parts Tryz.info5
  have hc := hid (copyCheck_fn h)
  have hwb := h.lt
  have hsz : (⟨x.toArray⟩ : ByteArray).size = x.length := Lib.size_mk _
  clear h
  go_enter Tryz.func40, Tryz.ntmps40
  go_wp2_with fail
  (with_reducible refine hc.out.mono ?_)
  rintro e w1 ⟨rfl, ⟨hB, v, hbk, hown, hne⟩, hb1, hk1⟩
  rw [Lib.byteCells_length] at hown
  have c0 : w1.cell? ⟨b, 0, none⟩ = some (.pointer (some ⟨b, 0, none⟩)) := by rw [Lib.cell_of_heap hbk]; rfl
  have c1 : w1.cell? ⟨b, 1, none⟩ = some v := by rw [Lib.cell_of_heap hbk]; rfl
  go_wp2_with (at_builtin; refine Lib.wpList_append_own_stringF _ rfl _ _ 75 9 rfl b 5 i0 Tryz.underlying75 Tryz.underlying9 hi hz0 hz1 hz2 _ _ _ rfl hown ⟨x.toArray⟩ rfl ?c3 ?c4 ?c5 ?_)
  case c3 => unfold maxLen; omega
  case c4 => omega
  case c5 => have := hb1.size; omega
  intro v' w2 hown' hgrow _
  have hlt : b < w1.heap.size := by have := hb1.size; omega
  have hb2 : w2.heap[b]? = some (.cells #[.pointer (some ⟨b, 0, none⟩), v] 77 (0, 0)) := by
    rw [hgrow.block b hlt (fun e => hne e.symm)]
    exact hbk
  have d0 : w2.cell? ⟨b, 0, none⟩ = some (.pointer (some ⟨b, 0, none⟩)) := by rw [Lib.cell_of_heap hb2]; rfl
  have d1 : w2.cell? ⟨b, 1, none⟩ = some v := by rw [Lib.cell_of_heap hb2]; rfl
  have f1 : w2.frozen? ⟨b, 1, none⟩ = false := Lib.frozen_of_heap hb2 1
  obtain ⟨ao, n', cap, rfl⟩ : ∃ ao n' cap, v' = .slice ao n' cap := by
    rcases hown'.2 with ⟨hv, _⟩ | ⟨g, cap, cur, fz, hv, _⟩
    · exact ⟨_, _, _, hv⟩
    · exact ⟨_, _, _, hv⟩
  go_wp2
  go_ret2
  refine ⟨rfl, ?_, ?_, (hk1.grown hgrow (Lib.ownsRowF_kind hown)).setCell ⟨b, 1, none⟩ rfl _⟩
  · refine .inr ?_
    rw [Lib.byteCells_append]
    refine Lib.BuilderAtF.put (T := 77) (e := 5) hB hb2 (bs' := Lib.byteCells l ++ Lib.byteCells x) ?_ (by decide)
    rw [List.length_append, Lib.byteCells_length, Lib.byteCells_length]
    exact hown'
  · exact (hb1.grown hgrow (by have := hb1.size; omega) (fun k hk => (hown.lt k hk).1)).setCell (p := ⟨b, 1, none⟩) hB _
theorem str_fn {w : World} {b : Nat} {l : Str} (h : Bld w b l) :
    Calls Tryz.prog 43 #[.pointer (some ⟨b, 0, none⟩)] w fun e w' => e = .returned (.string ⟨l.toArray⟩) ∧ Bld w' b l ∧ Kept b w w' :=
  (Tryz.Builder_String_any_k b b l w h (Nat.le_of_lt h.lt)).mono fun _ _ ⟨a, b, c, d⟩ => ⟨a, b, c, d⟩
theorem reset_fn {w : World} {b : Nat} {l : Str} (h : Bld w b l) :
    Calls Tryz.prog 57 #[.pointer (some ⟨b, 0, none⟩)] w fun e w' => e = .returned (.tuple #[]) ∧ Bld w' b [] ∧ Kept b w w' := by
  obtain ⟨p, _, hB, v, hbk, _⟩ := h.at
  have f0 : w.frozen? ⟨b, 0, none⟩ = false := Lib.frozen_of_heap hbk 0
  have f1 : w.frozen? ⟨b, 1, none⟩ = false := Lib.frozen_of_heap hbk 1
  have c0 : w.cell? ⟨b, 0, none⟩ = some p := by rw [Lib.cell_of_heap hbk]; rfl
  have c1 : w.cell? ⟨b, 1, none⟩ = some v := by rw [Lib.cell_of_heap hbk]; rfl
  have H := hid hbk
  clear h hbk
  go_enter Tryz.func57, Tryz.ntmps57
  go_wp2
  go_end0
  refine ⟨rfl, .inl ⟨Nat.le_refl _, .slice none 0 0, ?_, World.ownsRowF_nil _ _ _ _, by simp [Value.ownBlock]⟩, ?_, ?_⟩
  · have := H.out
    simp [World.setCell, Array.getElem?_modify, this]
  · exact ((Below.refl b w).setCell (p := ⟨b, 0, none⟩) (Nat.le_refl _) _).setCell (p := ⟨b, 1, none⟩) (Nat.le_refl _) _
  · exact ((Lib.OthersKept.refl _ _ w).setCell ⟨b, 0, none⟩ rfl _).setCell ⟨b, 1, none⟩ rfl _
end Go.Proofs.YtkgpmkkodpjdfaaGreatDoor.Pz
/-
  A braced text; the token of a text.
-/
namespace Go.Proofs.YtkgpmkkodpjdfaaGreatDoor.Pz
open Go.RowKit
theorem joined_cons (skip : Bool) (c : UInt8) (t : Str) : joined skip (c :: t) = if skip && (c == 32 || c == 9) then joined true t else if c == 92 then (match t with | [] => [92] | e :: t' => if e == 10 then 32 :: joined true t' else 92 :: e :: joined false t') else c :: joined false t := joined.eq_def ..
theorem joined_true : ∀ (l : Str), joined true l = joined false (blanks0 l)
  | [] => rfl
  | c :: t => by
    rw [blanks0_cons]
    by_cases h : (c == 32 || c == 9) = true
    · rw [if_pos h, joined_cons, if_pos (by rw [h]; rfl)]
      exact joined_true t
    · rw [if_neg h, joined_cons, if_neg (by simpa using h), joined_cons false, if_neg (show ¬ (false && (c == 32 || c == 9)) = true by simp)]
theorem joined_plain {c : UInt8} (t : Str) (h : c ≠ 92) : joined false (c :: t) = c :: joined false t := by
  rw [joined_cons, if_neg (by simp), if_neg (by simpa using h)]
theorem literal_fn (s : Str) (w : World) : Calls Tryz.prog 56 #[.string ⟨s.toArray⟩] w fun e w' => e = .returned (.slice (some ⟨w.heap.size, 0, none⟩) 1 1) ∧ w' = w.alloc (.cells #[.int .i64 1, .string ⟨s.toArray⟩, .bool false, .slice none 0 0] 33) := by
  go_enter Tryz.func56, Tryz.ntmps56
  go_wp2
  go_ret
  exact ⟨rfl, rfl⟩
theorem Bld.below {w w' : World} {b : Nat} {l : Str} (h : Bld w b l) (hb : Below w.heap.size w w') : Bld w' b l := h.of fun k _ hk => hb.block k hk
set_option maxRecDepth 100000 in
set_option maxHeartbeats 2000000 in
theorem joined_fn (q : Str) (hq : q.length ≤ 1000000) (w : World) :
    Calls Tryz.prog 150 #[.string ⟨q.toArray⟩] w fun e w' => e = .returned (.string ⟨(joined false q).toArray⟩) ∧ Below w.heap.size w w' := by
  have hsz : (⟨q.toArray⟩ : ByteArray).size = q.length := Lib.size_mk _
  obtain ⟨J, hJ⟩ : ∃ J, J = joined false q := ⟨_, rfl⟩
  rw [← hJ]
  have HJ := hid hJ
  clear hJ
  have hB0 := Bld.new w
  have hW0 : Below w.heap.size w (w.alloc (.cells #[.pointer none, .slice none 0 0] 77)) := (Below.refl _ _).alloc (Nat.le_refl _) _
  go_enter Tryz.func150, Tryz.ntmps150
  go_wp2_with fail
  generalize w.alloc (.cells #[.pointer none, .slice none 0 0] 77) = w0 at *
  go_loopg [4] q.length (fun k iv wr => ∃ (i : Nat) (done rest : Str), iv = .int .i64 (i : Nat) ∧ At q rest i ∧ Bld wr w.heap.size done ∧ J = done ++ joined false rest ∧ Below w.heap.size w wr ∧ k = rest.length ∧ done.length + rest.length ≤ q.length)
  case atStart => exact ⟨0, [], q, rfl, At.start q, hB0, by rw [HJ.out]; rfl, hW0, rfl, by simp⟩
  case round =>
    obtain ⟨i, done, rest, rfl, ha, hB, hj, hbl, rfl, hl⟩ := hrel
    have HD := hid hj
    clear hj hB0 hW0 w0
    have hle : i ≤ q.length := by have := ha.len; omega
    have hbs := hB.lt
    cases rest with
    | nil =>
      have hge : q.length ≤ i := ha.nil_iff.1 rfl
      have hc := hid (str_fn hB)
      go_wp2_with fail
      (with_reducible refine hc.out.mono ?_); rintro e w1 ⟨rfl, hB1, hk1⟩
      go_wp2
      go_ret
      exact ⟨by rw [HD.out]; simp [joined], hbl.trans hk1.1⟩
    | cons c t =>
      have hlt := ha.lt
      have hx := ha.byte
      have hlen := ha.len
      simp only [List.length_cons] at hl hlen
      by_cases h92 : c = 92
      · subst h92
        cases t with
        | nil =>
          have hend : i + 1 = q.length := by simp at hlen; omega
          have hc : Calls Tryz.prog 60 #[.pointer (some ⟨w.heap.size, 0, none⟩), .int .u8 92] wr fun e w' => e = .returned .nilIface ∧ Bld w' w.heap.size (done ++ [92]) ∧ Kept w.heap.size wr w' := wbyte_fn hB 92 (by omega)
          have HC := hid hc
          clear hc
          have he : ((i : Int) + 1 == (q.length : Int)) = true := by rw [beq_iff_eq]; omega
          go_wp2_with fail
          (with_reducible refine HC.out.mono ?_); rintro e w1 ⟨rfl, hB1, hk1⟩
          go_wp2
          go_roundg 0
          case measure => simp
          case rel => exact ⟨i + 1, done ++ [92], [], by go_num, ha.tail, hB1, by rw [HD.out]; simp [joined], hbl.trans hk1.1, rfl, by simp at hl ⊢; omega⟩
        | cons e t =>
          simp only [List.length_cons] at hl hlen
          have hx1 : ∀ h', (⟨q.toArray⟩ : ByteArray)[i + 1]'h' = e := ha.tail.byte
          have he : ((i : Int) + 1 == (q.length : Int)) = false := by rw [beq_eq_false_iff_ne]; omega
          by_cases h10 : e = 10
          · subst h10
            have hex := ha.all
            have hu : Calls Tryz.prog 58 #[.string ⟨(92 :: 10 :: t).toArray⟩] wr fun e w' => e = .returned (.tuple #[.string ⟨#[32]⟩, .int .i64 (((t.length + 2 - (blanks0 t).length : Nat) : Nat) : Int)]) ∧ Below wr.heap.size wr w' := unescape_fn (10 :: t) (by simp; omega) wr
            have hbl0 := (blanks0_suf t).length_le
            have HS := hid (blanks0_suf t)
            obtain ⟨r, hr⟩ : ∃ r, r = blanks0 t := ⟨_, rfl⟩
            have hJ2 : joined false (92 :: 10 :: t) = 32 :: joined false r := by
              rw [joined_cons, if_neg (by simp), if_pos (by decide)]
              show (if _ then _ else _) = _
              rw [if_pos (by decide), joined_true, hr]
            rw [← hr] at hu hbl0 HS
            have HU := hid hu
            have HJ2 := hid hJ2
            clear hu hJ2 hr
            go_wp2_with fail
            (with_reducible refine HU.out.mono ?_); rintro e w1 ⟨rfl, hb1⟩
            have hB1 := hB.below hb1
            have hbl1 := hbl.trans (hb1.mono (by omega))
            have hc : Calls Tryz.prog 40 #[.pointer (some ⟨w.heap.size, 0, none⟩), .string ⟨#[32]⟩] w1 fun e w' => e = .returned (.tuple #[.int .i64 ((1 : Nat) : Int), .nilIface]) ∧ Bld w' w.heap.size (done ++ [32]) ∧ Kept w.heap.size w1 w' := wstr_fn hB1 [32] (by simp; omega)
            have HC := hid hc
            clear hc
            go_wp2_with fail
            (with_reducible refine HC.out.mono ?_); rintro e w2 ⟨rfl, hB2, hk2⟩
            go_wp2
            go_roundg r.length
            case measure => simp; omega
            case rel =>
              refine ⟨i + (t.length + 2 - r.length), done ++ [32], r, ?_, ?_, hB2, by rw [HD.out, HJ2.out]; simp, hbl1.trans hk2.1, rfl, by simp; omega⟩
              · rw [Value.int.injEq]
                exact ⟨rfl, by omega⟩
              · exact ha.fall (HS.out.trans ((suf_tail _ t).trans (suf_tail _ _)))
          · have n10 := byte_ne' 10 h10 rfl
            have hex : (⟨q.toArray⟩ : ByteArray).extract i (i + 2) = ⟨[92, e].toArray⟩ := At.text (x := [92, e]) ha
            have hc := hid (wstr_fn hB [92, e] (by simp; omega))
            have hJ2 : joined false (92 :: e :: t) = 92 :: e :: joined false t := by
              rw [joined_cons, if_neg (by simp), if_pos (by decide)]
              show (if _ then _ else _) = _
              rw [if_neg (by simpa using h10)]
            have HJ2 := hid hJ2
            clear hJ2
            go_wp2_with fail
            (with_reducible refine hc.out.mono ?_); rintro e' w1 ⟨rfl, hB1, hk1⟩
            go_wp2
            go_roundg t.length
            case measure => simp; omega
            case rel => exact ⟨i + 2, done ++ [92, e], t, by rw [Value.int.injEq]; exact ⟨rfl, by omega⟩, ha.tail.tail, hB1, by rw [HD.out, HJ2.out]; simp, hbl.trans hk1.1, rfl, by simp; omega⟩
      · have n92 := byte_ne' 92 h92 rfl
        have hc := hid (wbyte_fn hB c (by omega))
        go_wp2_with fail
        (with_reducible refine hc.out.mono ?_); rintro e w1 ⟨rfl, hB1, hk1⟩
        go_wp2
        go_roundg t.length
        case measure => simp
        case rel => exact ⟨i + 1, done ++ [c], t, by go_num, ha.tail, hB1, by rw [HD.out, joined_plain t h92]; simp, hbl.trans hk1.1, rfl, by simp; omega⟩
end Go.Proofs.YtkgpmkkodpjdfaaGreatDoor.Pz
/-
  A region that draws its order: loads may be taken first although the region's last operations write the cells that they read: the condition on the world is asked only as long as loads are waited for.
-/
namespace Go.Proofs.YtkgpmkkodpjdfaaGreatDoor.Pz
open Go.RowKit
section
variable {P : Program} {ops : Array Oper} {Q : Exit → Act → World → Prop} {md : Region.Mode} {S : World → Prop} {late : Nat → Bool}
/-- whatever order is picked; behind each operation that is not late, S holds -/
def anyU (P : Program) (md : Region.Mode) (ops : Array Oper) (Q : Exit → Act → World → Prop) (late : Nat → Bool) (S : World → Prop) : Nat → Array Bool → Act → World → Prop
  | 0, listed, a, w => Region.ready md ops listed = [] ∧ Q .normal a w
  | fuel + 1, listed, a, w => (Region.ready md ops listed = [] → Q .normal a w) ∧
      ∀ i ∈ Region.ready md ops listed, wpOp P ops Q i (fun b u => (late i = true ∨ S u) ∧ anyU P md ops Q late S fuel (listed.setIfInBounds i true) b u) a w
theorem any_of_U : ∀ (fuel : Nat) (listed : Array Bool) (a : Act) (w : World), anyU P md ops Q late S fuel listed a w → wpAny P md ops Q fuel listed a w
  | 0, _, _, _, h => h
  | fuel + 1, _, _, _, h => ⟨h.1, fun i hi => wpOp_mono (fun b u k => any_of_U fuel _ b u k.2) (h.2 i hi)⟩
theorem unlisted_of_ready {i : Nat} {listed : Array Bool} (h : i ∈ Region.ready md ops listed) : listed.getD i false = false := by
  have h0 := (mem_ready.1 h).1
  by_cases hlt : i < listed.size
  · simp [hlt] at h0 ⊢; exact h0
  · simp [Array.getElem?_eq_none (Nat.le_of_not_lt hlt)]
/-- what is listed has all that it waits for listed -/
def Closed (md : Region.Mode) (ops : Array Oper) (listed : Array Bool) : Prop := ∀ j oj, ops[j]? = some oj → listed.getD j false = true → ∀ e ∈ oj.after, Region.binds md e = true → listed.getD e.on false = true
theorem Closed.add {j : Nat} {listed : Array Bool} (h : Closed md ops listed) (hj : j ∈ Region.ready md ops listed) : Closed md ops (listed.setIfInBounds j true) := by
  obtain ⟨_, oj, hoj, hall⟩ := mem_ready.1 hj
  intro k ok hk hl e he hb
  apply getD_set_true
  rcases Nat.decEq j k with hjk | rfl
  · rw [getD_set_ne false hjk] at hl
    exact h k ok hk hl e he hb
  · have := Option.some.inj (hoj.symm.trans hk)
    subst this
    exact hall e he hb
/-- number j waits for number i, by one step or two -/
def waitsB (md : Region.Mode) (ops : Array Oper) (j i : Nat) : Bool :=
  ((ops[j]?).map fun o => o.after.any fun e => Region.binds md e && (e.on == i || ((ops[e.on]?).map fun o' => o'.after.any fun e' => Region.binds md e' && e'.on == i).getD false)).getD false
theorem waitsB_listed {i j : Nat} {listed : Array Bool} (h : waitsB md ops j i = true) (hc : Closed md ops listed) (hj : j ∈ Region.ready md ops listed) : listed.getD i false = true := by
  obtain ⟨_, oj, hoj, hall⟩ := mem_ready.1 hj
  unfold waitsB at h
  rw [hoj] at h
  have h2 : (oj.after.any fun e => Region.binds md e && (e.on == i || ((ops[e.on]?).map fun o' => o'.after.any fun e' => Region.binds md e' && e'.on == i).getD false)) = true := h
  obtain ⟨e, he, hb⟩ := Array.any_eq_true'.1 h2
  simp only [Bool.and_eq_true, Bool.or_eq_true, beq_iff_eq] at hb
  rcases hb.2 with h3 | h3
  · rw [← h3]; exact hall e he hb.1
  · cases ho : ops[e.on]? with
    | none => rw [ho] at h3; cases h3
    | some o' =>
      rw [ho] at h3
      have h4 : (o'.after.any fun e' => Region.binds md e' && e'.on == i) = true := h3
      obtain ⟨e', he', hb'⟩ := Array.any_eq_true'.1 h4
      simp only [Bool.and_eq_true, beq_iff_eq] at hb'
      rw [← hb'.2]
      exact hc e.on o' ho (hall e he hb.1) e' he' hb'.1
theorem U_first {i : Nat} {oi : Oper} {v : Value} (hi : ops[i]? = some oi) (hsel : ∀ (j : Nat) (o : Oper) cs b, ops[j]? = some o → o.op ≠ .select cs b)
    (hQ : ∀ c a w, Q (.panic c) (a.put oi.dst v) w → Q (.panic c) a w)
    (hlate : ∀ j, j < ops.size → late j = true → waitsB md ops j i = true) :
    ∀ (fuel : Nat) (listed : Array Bool) (a : Act) (w : World), Closed md ops listed →
      (∀ j oj, ops[j]? = some oj → j ≠ i → listed.getD j true = false → (∀ e ∈ oj.after, Region.binds md e = true → e.on ≠ i) → oi.apart ops oj = true) →
      i ∈ Region.ready md ops listed → YieldsIf P ops S oi v a → S w →
      anyU P md ops Q late S fuel (listed.setIfInBounds i true) (a.put oi.dst v) w → anyU P md ops Q late S (fuel + 1) listed a w
  | 0, listed, a, w, _, _, hr, hy, hS, H => by
    refine ⟨fun h => (by rw [h] at hr; cases hr), fun j hj => ?_⟩
    rcases Nat.decEq j i with hji | rfl
    · have hm := ready_mono hj hji
      rw [H.1] at hm; cases hm
    · exact hy.wpOp hi hS ⟨.inr hS, H⟩
  | fuel + 1, listed, a, w, hcl, hfree, hr, hy, hS, H => by
    refine ⟨fun h => (by rw [h] at hr; cases hr), fun j hj => ?_⟩
    rcases Nat.decEq j i with hji | rfl
    · obtain ⟨hjun, oj, hoj, hall⟩ := mem_ready.1 hj
      have hno : ∀ e ∈ oj.after, Region.binds md e = true → e.on ≠ i := fun e he hb heq => by
        have h1 := hall e he hb
        rw [heq, unlisted_of_ready hr] at h1; cases h1
      have hnl : ¬ late j = true := fun hl => by
        have h1 := waitsB_listed (hlate j (Array.getElem?_eq_some_iff.1 hoj).1 hl) hcl hj
        rw [unlisted_of_ready hr] at h1; cases h1
      have h2 := wpOp_putIf hoj (hfree j oj hoj hji hjun hno) (fun cs b => hsel i oi cs b hi) (fun cs b => hsel j oj cs b hoj) hQ hy (H.2 j (ready_mono hj hji))
      refine wpOp_mono (fun b u k => ?_) h2
      have hSu := k.2.1.resolve_left hnl
      refine ⟨.inr hSu, U_first hi hsel hQ hlate fuel _ b u (hcl.add hj) ?_ (ready_mono hr (Ne.symm hji)) k.1 hSu ?_⟩
      · intro l ol hol hli hun hw
        refine hfree l ol hol hli ?_ hw
        by_cases hjl : j = l
        · exact hjl ▸ hjun
        · rwa [getD_set_ne true hjl] at hun
      · rw [Array.setIfInBounds_comm _ _ hji]; exact k.2.2
    · exact hy.wpOp hi hS ⟨.inr hS, H⟩
def lateB (md : Region.Mode) (ops : Array Oper) (late : Nat → Bool) (i : Nat) : Bool := (List.range ops.size).all fun j => !late j || waitsB md ops j i
theorem lateB_spec {i : Nat} (h : lateB md ops late i = true) (j : Nat) (hj : j < ops.size) (hl : late j = true) : waitsB md ops j i = true := by
  have h1 := List.all_eq_true.1 h j (List.mem_range.2 hj)
  rwa [hl] at h1
def closedB (md : Region.Mode) (ops : Array Oper) (listed : Array Bool) : Bool := (List.range ops.size).all fun j => !listed.getD j false || ((ops[j]?).map fun o => o.after.all fun e => !Region.binds md e || listed.getD e.on false).getD true
theorem closedB_spec {listed : Array Bool} (h : closedB md ops listed = true) : Closed md ops listed := by
  intro j oj hj hl e he hb
  have h1 := List.all_eq_true.1 h j (List.mem_range.2 (Array.getElem?_eq_some_iff.1 hj).1)
  rw [hl, hj] at h1
  have h2 : (oj.after.all fun e => !Region.binds md e || listed.getD e.on false) = true := h1
  have h3 := Array.all_eq_true_iff_forall_mem.1 h2 e he
  rw [hb] at h3
  exact h3
theorem U_take {i : Nat} {oi : Oper} {v : Value} {fuel : Nat} {listed : Array Bool} {a : Act} {w : World} (hi : ops[i]? = some oi)
    (hs : Region.noSelect ops = true) (hf : Region.free md ops listed i = true) (hr : (Region.ready md ops listed).contains i = true) (hl : lateB md ops late i = true) (hc : closedB md ops listed = true)
    (hQ : ∀ c a w, Q (.panic c) (a.put oi.dst v) w → Q (.panic c) a w) (hy : YieldsIf P ops S oi v a) (hS : S w)
    (h : anyU P md ops Q late S fuel (listed.setIfInBounds i true) (a.put oi.dst v) w) : anyU P md ops Q late S (fuel + 1) listed a w :=
  U_first hi (Region.noSelect_spec hs) hQ (lateB_spec hl) fuel listed a w (closedB_spec hc) (Region.free_spec hi hf) (by simpa using hr) hy hS h
theorem U_begin {id : Nat} {a : Act} {w : World} (hm : P.follows .mixedOrders = true) (h : anyU P .any ops Q late S ops.size (Array.replicate ops.size false) a w.drew) : (Code.region id ops true).wp P Q a w :=
  wp_region_any hm (any_of_U _ _ _ _ h)
/-- one operation alone may come up -/
theorem U_step {j : Nat} {o : Oper} {fuel : Nat} {listed : Array Bool} {a : Act} {w : World} (hr : Region.ready md ops listed = [j]) (ho : ops[j]? = some o)
    (h : ∀ K : Act → World → Prop, Hid (∀ b u, (late j = true ∨ S u) → anyU P md ops Q late S fuel (listed.setIfInBounds j true) b u → K b u) → if Region.wanted o (yielded ops a.tmps) = true then Oper.wp P o a w K Q else K (a.put o.dst undef) w) :
    anyU P md ops Q late S (fuel + 1) listed a w := by
  refine ⟨fun h0 => (by rw [hr] at h0; cases h0), fun i hi => ?_⟩
  rw [hr] at hi
  obtain rfl : i = j := by simpa using hi
  exact wpOp_step ho fun K hK => h K fun b u h1 h2 => hK b u ⟨h1, h2⟩
/-- two operations may come up -/
theorem U_two {j1 j2 : Nat} {o1 o2 : Oper} {fuel : Nat} {listed : Array Bool} {a : Act} {w : World} (hr : Region.ready md ops listed = [j1, j2]) (ho1 : ops[j1]? = some o1) (ho2 : ops[j2]? = some o2)
    (h1 : ∀ K : Act → World → Prop, Hid (∀ b u, (late j1 = true ∨ S u) → anyU P md ops Q late S fuel (listed.setIfInBounds j1 true) b u → K b u) → if Region.wanted o1 (yielded ops a.tmps) = true then Oper.wp P o1 a w K Q else K (a.put o1.dst undef) w)
    (h2 : ∀ K : Act → World → Prop, Hid (∀ b u, (late j2 = true ∨ S u) → anyU P md ops Q late S fuel (listed.setIfInBounds j2 true) b u → K b u) → if Region.wanted o2 (yielded ops a.tmps) = true then Oper.wp P o2 a w K Q else K (a.put o2.dst undef) w) :
    anyU P md ops Q late S (fuel + 1) listed a w := by
  refine ⟨fun h0 => (by rw [hr] at h0; cases h0), fun i hi => ?_⟩
  rw [hr] at hi
  simp only [List.mem_cons, List.mem_nil_iff, or_false] at hi
  rcases hi with rfl | rfl
  · exact wpOp_step ho1 fun K hK => h1 K fun b u h1 h2 => hK b u ⟨h1, h2⟩
  · exact wpOp_step ho2 fun K hK => h2 K fun b u h1 h2 => hK b u ⟨h1, h2⟩
theorem U_done {listed : Array Bool} {a : Act} {w : World} (hr : Region.ready md ops listed = []) (h : Q .normal a w) : ∀ fuel, anyU P md ops Q late S fuel listed a w
  | 0 => ⟨hr, h⟩
  | _ + 1 => ⟨fun _ => h, by rw [hr]; simp⟩
end
section
variable {P : Program} {ops : Array Oper} {Q : Exit → Act → World → Prop} {md : Region.Mode} {S : World → Prop} {late : Nat → Bool}
/-- number j waits for number i, by so many steps at most -/
def waitsN (md : Region.Mode) (ops : Array Oper) : Nat → Nat → Nat → Bool
  | 0, _, _ => false
  | f + 1, j, i => ((ops[j]?).map fun o => o.after.any fun e => Region.binds md e && (e.on == i || waitsN md ops f e.on i)).getD false
theorem waitsN_of {i : Nat} {listed : Array Bool} (hc : Closed md ops listed) : ∀ (f j : Nat), waitsN md ops f j i = true → (∀ oj, ops[j]? = some oj → ∀ e ∈ oj.after, Region.binds md e = true → listed.getD e.on false = true) → listed.getD i false = true
  | 0, _, h, _ => by cases h
  | f + 1, j, h, hall => by
    unfold waitsN at h
    cases hoj : ops[j]? with
    | none => rw [hoj] at h; cases h
    | some oj =>
      rw [hoj] at h
      have h2 : (oj.after.any fun e => Region.binds md e && (e.on == i || waitsN md ops f e.on i)) = true := h
      obtain ⟨e, he, hb⟩ := Array.any_eq_true'.1 h2
      simp only [Bool.and_eq_true, Bool.or_eq_true, beq_iff_eq] at hb
      have hl := hall oj hoj e he hb.1
      rcases hb.2 with h3 | h3
      · rw [← h3]; exact hl
      · exact waitsN_of hc f e.on h3 fun o' ho e' he' hb' => hc e.on o' ho hl e' he' hb'
theorem waitsN_listed {i j f : Nat} {listed : Array Bool} (h : waitsN md ops f j i = true) (hc : Closed md ops listed) (hj : j ∈ Region.ready md ops listed) : listed.getD i false = true := by
  obtain ⟨_, oj, hoj, hall⟩ := mem_ready.1 hj
  refine waitsN_of hc f j h fun o ho e he hb => ?_
  have := Option.some.inj (hoj.symm.trans ho)
  subst this
  exact hall e he hb
theorem U_first2 {i f : Nat} {oi : Oper} {v : Value} (hi : ops[i]? = some oi) (hsel : ∀ (j : Nat) (o : Oper) cs b, ops[j]? = some o → o.op ≠ .select cs b)
    (hQ : ∀ c a w, Q (.panic c) (a.put oi.dst v) w → Q (.panic c) a w)
    (hlate : ∀ j, j < ops.size → late j = true → waitsN md ops f j i = true) :
    ∀ (fuel : Nat) (listed : Array Bool) (a : Act) (w : World), Closed md ops listed →
      (∀ j oj, ops[j]? = some oj → j ≠ i → listed.getD j true = false → waitsN md ops f j i = false → oi.apart ops oj = true) →
      i ∈ Region.ready md ops listed → YieldsIf P ops S oi v a → S w →
      anyU P md ops Q late S fuel (listed.setIfInBounds i true) (a.put oi.dst v) w → anyU P md ops Q late S (fuel + 1) listed a w
  | 0, listed, a, w, _, _, hr, hy, hS, H => by
    refine ⟨fun h => (by rw [h] at hr; cases hr), fun j hj => ?_⟩
    rcases Nat.decEq j i with hji | rfl
    · have hm := ready_mono hj hji
      rw [H.1] at hm; cases hm
    · exact hy.wpOp hi hS ⟨.inr hS, H⟩
  | fuel + 1, listed, a, w, hcl, hfree, hr, hy, hS, H => by
    refine ⟨fun h => (by rw [h] at hr; cases hr), fun j hj => ?_⟩
    rcases Nat.decEq j i with hji | rfl
    · obtain ⟨hjun, oj, hoj, hall⟩ := mem_ready.1 hj
      have hno : waitsN md ops f j i = false := by
        cases hw : waitsN md ops f j i with
        | false => rfl
        | true =>
          have h1 := waitsN_listed hw hcl hj
          rw [unlisted_of_ready hr] at h1; cases h1
      have hnl : ¬ late j = true := fun hl => by
        rw [hlate j (Array.getElem?_eq_some_iff.1 hoj).1 hl] at hno; cases hno
      have h2 := wpOp_putIf hoj (hfree j oj hoj hji hjun hno) (fun cs b => hsel i oi cs b hi) (fun cs b => hsel j oj cs b hoj) hQ hy (H.2 j (ready_mono hj hji))
      refine wpOp_mono (fun b u k => ?_) h2
      have hSu := k.2.1.resolve_left hnl
      refine ⟨.inr hSu, U_first2 hi hsel hQ hlate fuel _ b u (hcl.add hj) ?_ (ready_mono hr (Ne.symm hji)) k.1 hSu ?_⟩
      · intro l ol hol hli hun hw
        refine hfree l ol hol hli ?_ hw
        by_cases hjl : j = l
        · exact hjl ▸ hjun
        · rwa [getD_set_ne true hjl] at hun
      · rw [Array.setIfInBounds_comm _ _ hji]; exact k.2.2
    · exact hy.wpOp hi hS ⟨.inr hS, H⟩
def lateN (md : Region.Mode) (ops : Array Oper) (late : Nat → Bool) (f i : Nat) : Bool := (List.range ops.size).all fun j => !late j || waitsN md ops f j i
theorem lateN_spec {i f : Nat} (h : lateN md ops late f i = true) (j : Nat) (hj : j < ops.size) (hl : late j = true) : waitsN md ops f j i = true := by
  have h1 := List.all_eq_true.1 h j (List.mem_range.2 hj)
  rwa [hl] at h1
def freeN (md : Region.Mode) (ops : Array Oper) (listed : Array Bool) (f i : Nat) : Bool :=
  match ops[i]? with
  | none => false
  | some oi => (List.range ops.size).all fun j => j == i || listed.getD j true || waitsN md ops f j i || match ops[j]? with
      | some oj => oi.apart ops oj
      | none => true
theorem freeN_spec {i f : Nat} {oi : Oper} {listed : Array Bool} (hi : ops[i]? = some oi) (h : freeN md ops listed f i = true) (j : Nat) (oj : Oper)
    (hj : ops[j]? = some oj) (hne : j ≠ i) (hun : listed.getD j true = false) (hno : waitsN md ops f j i = false) : oi.apart ops oj = true := by
  simp only [freeN, hi, List.all_eq_true, List.mem_range] at h
  have h1 := h j (Array.getElem?_eq_some_iff.1 hj).1
  simp only [hj, Bool.or_eq_true, beq_iff_eq, hne, false_or, hun, hno, Bool.false_eq_true] at h1
  exact h1
theorem U_take2 (f : Nat) {i : Nat} {oi : Oper} {v : Value} {fuel : Nat} {listed : Array Bool} {a : Act} {w : World} (hi : ops[i]? = some oi)
    (hs : Region.noSelect ops = true) (hf : freeN md ops listed f i = true) (hr : (Region.ready md ops listed).contains i = true) (hl : lateN md ops late f i = true) (hc : closedB md ops listed = true)
    (hQ : ∀ c a w, Q (.panic c) (a.put oi.dst v) w → Q (.panic c) a w) (hy : YieldsIf P ops S oi v a) (hS : S w)
    (h : anyU P md ops Q late S fuel (listed.setIfInBounds i true) (a.put oi.dst v) w) : anyU P md ops Q late S (fuel + 1) listed a w :=
  U_first2 hi (Region.noSelect_spec hs) hQ (lateN_spec hl) fuel listed a w (closedB_spec hc) (freeN_spec hi hf) (by simpa using hr) hy hS h
end
section
variable {P : Program} {md : Region.Mode} {ops : Array Oper} {Q : Exit → Act → World → Prop} {late : Nat → Bool} {S : World → Prop}
/-- three operations may come up -/
theorem U_three {j1 j2 j3 : Nat} {o1 o2 o3 : Oper} {fuel : Nat} {listed : Array Bool} {a : Act} {w : World} (hr : Region.ready md ops listed = [j1, j2, j3]) (ho1 : ops[j1]? = some o1) (ho2 : ops[j2]? = some o2) (ho3 : ops[j3]? = some o3)
    (h1 : ∀ K : Act → World → Prop, Hid (∀ b u, (late j1 = true ∨ S u) → anyU P md ops Q late S fuel (listed.setIfInBounds j1 true) b u → K b u) → if Region.wanted o1 (yielded ops a.tmps) = true then Oper.wp P o1 a w K Q else K (a.put o1.dst undef) w)
    (h2 : ∀ K : Act → World → Prop, Hid (∀ b u, (late j2 = true ∨ S u) → anyU P md ops Q late S fuel (listed.setIfInBounds j2 true) b u → K b u) → if Region.wanted o2 (yielded ops a.tmps) = true then Oper.wp P o2 a w K Q else K (a.put o2.dst undef) w)
    (h3 : ∀ K : Act → World → Prop, Hid (∀ b u, (late j3 = true ∨ S u) → anyU P md ops Q late S fuel (listed.setIfInBounds j3 true) b u → K b u) → if Region.wanted o3 (yielded ops a.tmps) = true then Oper.wp P o3 a w K Q else K (a.put o3.dst undef) w) :
    anyU P md ops Q late S (fuel + 1) listed a w := by
  refine ⟨fun h0 => (by rw [hr] at h0; cases h0), fun i hi => ?_⟩
  rw [hr] at hi
  simp only [List.mem_cons, List.mem_nil_iff, or_false] at hi
  rcases hi with rfl | rfl | rfl
  · exact wpOp_step ho1 fun K hK => h1 K fun b u h1 h2 => hK b u ⟨h1, h2⟩
  · exact wpOp_step ho2 fun K hK => h2 K fun b u h1 h2 => hK b u ⟨h1, h2⟩
  · exact wpOp_step ho3 fun K hK => h3 K fun b u h1 h2 => hK b u ⟨h1, h2⟩
end
end Go.Proofs.YtkgpmkkodpjdfaaGreatDoor.Pz
/-
  Tokens that are put together: the row, and what lies below its elements, apart from each other.
-/
namespace Go.Proofs.YtkgpmkkodpjdfaaGreatDoor.Pz
open Go Go.RowKit
section
variable {P : Program} {md : Region.Mode} {ops : Array Oper} {Q : Exit → Act → World → Prop} {late late2 : Nat → Bool} {S S2 : World → Prop}
/-- where all that is left is late, the kept condition may be forgotten -/
theorem U_forget : ∀ (fuel : Nat) (listed : Array Bool) (a : Act) (w : World), (∀ j, j < ops.size → listed.getD j false = false → late j = true) → anyU P md ops Q late2 S2 fuel listed a w → anyU P md ops Q late S fuel listed a w
  | 0, _, _, _, _, h => h
  | fuel + 1, listed, a, w, hl, h => by
    refine ⟨h.1, fun i hi => wpOp_mono (fun b u k => ⟨.inl ?_, U_forget fuel _ b u ?_ k.2⟩) (h.2 i hi)⟩
    · obtain ⟨_, o, ho, _⟩ := mem_ready.1 hi
      exact hl i (Array.getElem?_eq_some_iff.1 ho).1 (unlisted_of_ready hi)
    · intro j hj hf
      by_cases hij : i = j
      · subst hij
        obtain ⟨_, o, ho, _⟩ := mem_ready.1 hi
        exact hl i hj (unlisted_of_ready hi)
      · rw [getD_set_ne false hij] at hf
        exact hl j hj hf
def forgetB (ops : Array Oper) (late : Nat → Bool) (listed : Array Bool) : Bool := (List.range ops.size).all fun j => listed.getD j false || late j
theorem U_then {fuel : Nat} {listed : Array Bool} {a : Act} {w : World} (hl : forgetB ops late listed = true) (h : anyU P md ops Q (fun _ => false) (fun _ => True) fuel listed a w) : anyU P md ops Q late S fuel listed a w := by
  refine U_forget fuel listed a w (fun j hj hf => ?_) h
  have h1 := List.all_eq_true.1 hl j (List.mem_range.2 hj)
  rw [hf] at h1
  simpa using h1
end
theorem ownsRow_heap2 {w w' : World} {base : Nat} {e : TypeId} {size : Nat} {v : Value} {n : Nat} {xs : List Value} (h : w.ownsRow base e size v n xs)
    (hh : ∀ g cur, v.ownBlock = some g → w.heap[g]? = some (.cells cur e (0, 0)) → w'.heap[g]? = some (.cells cur e (0, 0))) : w'.ownsRow base e size v n xs := by
  refine ⟨h.1, ?_⟩
  rcases h.2 with hn | ⟨g, cap, cur, rfl, hb, hgg, rest⟩
  · exact .inl hn
  · exact .inr ⟨g, cap, cur, rfl, hb, hh g cur rfl hgg, rest⟩
theorem ownsRow_lt {w : World} {base : Nat} {e : TypeId} {size : Nat} {v : Value} {n : Nat} {xs : List Value} (h : w.ownsRow base e size v n xs) : ∀ g, v.ownBlock = some g → g < w.heap.size ∧ ∃ cur, w.heap[g]? = some (.cells cur e (0, 0)) := by
  intro g hg
  rcases h.2 with ⟨rfl, _⟩ | ⟨g', cap, cur, rfl, hb, hgg, rest⟩
  · simp [Value.ownBlock] at hg
  · simp only [Value.ownBlock, Option.some.injEq] at hg
    subst hg
    exact ⟨(Array.getElem?_eq_some_iff.1 hgg).1, cur, hgg⟩
theorem TokIs.keep2 {TE : TypeId} {w w' : World} {ok ok' : Nat → Prop} {cs : List Value} {t : Tok} (h : TokIs TE w ok cs t) (hk : ∀ g, ok g → g < w.heap.size → ok' g)
    (hh : ∀ g cur, ok g → w.heap[g]? = some (.cells cur TE (0, 0)) → w'.heap[g]? = some (.cells cur TE (0, 0))) : TokIs TE w' ok' cs t := by
  induction h with
  | mk k s h ix v css hrow hok hl hs ih =>
    exact .mk k s h ix v css (ownsRow_heap2 hrow fun g cur hg hc => hh g cur (hok g hg) hc) (fun g hg => hk g (hok g hg) (ownsRow_lt hrow g hg).1) hl ih
theorem RowIs.keep2 {α : Type} {E : TypeId} {sz : Nat} {elt elt' : List Value → α → Prop} {w w' : World} {ok ok' : Nat → Prop} {v : Value} {xs : List α} (h : RowIs E sz elt w ok v xs) (hk : ∀ g, ok g → g < w.heap.size → ok' g)
    (hh : ∀ g cur, ok g → w.heap[g]? = some (.cells cur E (0, 0)) → w'.heap[g]? = some (.cells cur E (0, 0)))
    (he : ∀ cs x, elt cs x → elt' cs x) : RowIs E sz elt' w' ok' v xs := by
  obtain ⟨css, h1, h2, h3, h4⟩ := h
  exact ⟨css, ownsRow_heap2 h1 fun g cur hg hc => hh g cur (h2 g hg) hc, fun g hg => hk g (h2 g hg) (ownsRow_lt h1 g hg).1, h3, fun i a b => ⟨he _ _ (h4 i a b).1, (h4 i a b).2⟩⟩
theorem ToksIs.keep2 {TE : TypeId} {w w' : World} {ok ok' : Nat → Prop} {v : Value} {ts : List Tok} (h : ToksIs TE w ok v ts) (hk : ∀ g, ok g → g < w.heap.size → ok' g)
    (hh : ∀ g cur, ok g → w.heap[g]? = some (.cells cur TE (0, 0)) → w'.heap[g]? = some (.cells cur TE (0, 0))) : ToksIs TE w' ok' v ts := RowIs.keep2 h hk hh fun _ _ he => he.keep2 hk hh
/-- a row of tokens whose own block none of its tokens' indexes lies in -/
def OutIs (w : World) (B : Nat) (v : Value) (ts : List Tok) : Prop := RowIs 33 4 (TokIs 33 w (fun g => B ≤ g ∧ v.ownBlock ≠ some g)) w (fun g => B ≤ g) v ts
theorem OutIs.nil (w : World) (B : Nat) : OutIs w B (.slice none 0 0) [] := RowIs.nil
theorem OutIs.toks {w : World} {B : Nat} {v : Value} {ts : List Tok} (h : OutIs w B v ts) : ToksIs 33 w (fun g => B ≤ g) v ts :=
  RowIs.keep2 h (fun _ h _ => h) (fun _ _ _ h => h) fun _ _ he => he.keep2 (fun _ h _ => h.1) (fun _ _ _ h => h)
theorem OutIs.shape {w : World} {B : Nat} {v : Value} {ts : List Tok} (h : OutIs w B v ts) : ∃ a cap, v = .slice a ts.length cap ∧ (∀ g, v.ownBlock = some g → B ≤ g ∧ g < w.heap.size) := by
  obtain ⟨css, h1, h2, h3, h4⟩ := h
  have hlt := ownsRow_lt h1
  rcases h1.2 with ⟨rfl, h0⟩ | ⟨g, cap, cur, rfl, hb, hgg, rest⟩
  · exact ⟨none, 0, by rw [h0], fun g hg => by simp [Value.ownBlock] at hg⟩
  · exact ⟨_, _, rfl, fun g hg => ⟨h2 g hg, (hlt g hg).1⟩⟩
theorem OutIs.keep {w w' : World} {B : Nat} {v : Value} {ts : List Tok} (h : OutIs w B v ts) (hh : ∀ g cur, B ≤ g → w.heap[g]? = some (.cells cur 33 (0, 0)) → w'.heap[g]? = some (.cells cur 33 (0, 0))) : OutIs w' B v ts :=
  RowIs.keep2 h (fun _ h _ => h) hh fun _ _ he => he.keep2 (fun _ h _ => h) (fun g cur hg hc => hh g cur hg.1 hc)
/-- all but two blocks stand -/
structure Two (a : Nat) (r : Option Nat) (w w' : World) : Prop where
  os : w'.os = w.os
  tape : w'.tape = w.tape
  output : w'.output = w.output
  size : w.heap.size ≤ w'.heap.size
  block : ∀ k, k < w.heap.size → k ≠ a → some k ≠ r → w'.heap[k]? = w.heap[k]?
/-- behind an append: the old tokens and one more -/
theorem OutIs.add {w w2 : World} {B ob : Nat} {v v' : Value} {ts : List Tok} {x : Tok} {cs : List Value} {css : List (List Value)} {oc : Array Value} {T : TypeId}
    (hcss : css.length = ts.length) (hel : ∀ i (h1 : i < css.length) (h2 : i < ts.length), TokIs 33 w (fun g => B ≤ g ∧ v.ownBlock ≠ some g) css[i] ts[i] ∧ css[i].length = 4)
    (hx : TokIs 33 w (fun g => B ≤ g ∧ v.ownBlock ≠ some g) cs x) (hB : ∀ g, v.ownBlock = some g → B ≤ g)
    (hrow : w2.ownsRow 0 33 4 v' (ts.length + 1) (css.flatten ++ cs)) (hv' : v'.ownBlock = v.ownBlock ∨ ∃ g, v'.ownBlock = some g ∧ w.heap.size ≤ g ∧ B ≤ g)
    (hob : w.heap[ob]? = some (.cells oc T (0, 0))) (hT : T ≠ 33) (hf : ∀ k, k < w.heap.size → k ≠ ob → some k ≠ v.ownBlock → w2.heap[k]? = w.heap[k]?) : OutIs w2 B v' (ts ++ [x]) := by
  have hok : ∀ g, B ≤ g ∧ v.ownBlock ≠ some g → g < w.heap.size → B ≤ g ∧ v'.ownBlock ≠ some g := by
    rintro g ⟨h1, h2⟩ h3
    refine ⟨h1, ?_⟩
    rcases hv' with h | ⟨g', h, h4, _⟩
    · rw [h]; exact h2
    · rw [h]
      intro e
      have := Option.some.inj e
      omega
  have hh : ∀ g cur, (B ≤ g ∧ v.ownBlock ≠ some g) → w.heap[g]? = some (.cells cur 33 (0, 0)) → w2.heap[g]? = some (.cells cur 33 (0, 0)) := by
    rintro g cur ⟨h1, h2⟩ h3
    rw [hf g (Array.getElem?_eq_some_iff.1 h3).1 ?_ (fun e => h2 e.symm)]
    · exact h3
    · rintro rfl
      rw [h3] at hob
      simp only [Option.some.injEq, Obj.cells.injEq] at hob
      exact hT hob.2.1.symm
  refine RowIs.snoc hrow ?_ hcss (fun i h1 h2 => ⟨(hel i h1 h2).1.keep2 hok hh, (hel i h1 h2).2⟩) (hx.keep2 hok hh) hx.len
  intro g hg
  rcases hv' with h | ⟨g', h, _, h4⟩
  · rw [h] at hg; exact hB g hg
  · rw [h] at hg
    have := Option.some.inj hg
    omega
theorem set4 (xs : List Value) (m : Nat) (hm : xs.length = m) (z0 z1 z2 z3 a b c d : Value) : ((((xs ++ [z0, z1, z2, z3]).set m a).set (m + 1) b).set (m + 2) c).set (m + 3) d = xs ++ [a, b, c, d] := by
  subst hm
  simp [List.set_append_right]
/-- the new element's cells are stored -/
theorem stored4 {w : World} {E : TypeId} {g n cap : Nat} {xs : List Value} {z0 z1 z2 z3 : Value} (h : w.ownsRow 0 E 4 (.slice (some ⟨g, 0, none⟩) (n + 1) cap) (n + 1) (xs ++ [z0, z1, z2, z3])) (hx : xs.length = n * 4) (a b c d : Value) :
    ((((w.setCell ⟨g, n * 4, none⟩ a).setCell ⟨g, n * 4 + 1, none⟩ b).setCell ⟨g, n * 4 + 2, none⟩ c).setCell ⟨g, n * 4 + 3, none⟩ d).ownsRow 0 E 4 (.slice (some ⟨g, 0, none⟩) (n + 1) cap) (n + 1) (xs ++ [a, b, c, d]) := by
  have h1 := (((h.stored (n * 4) a).1.stored (n * 4 + 1) b).1.stored (n * 4 + 2) c).1.stored (n * 4 + 3) d
  rw [set4 xs (n * 4) hx] at h1
  exact h1.1
theorem setCell_comm (w : World) {a b : Addr} (h : a.block ≠ b.block) (x y : Value) : (w.setCell a x).setCell b y = (w.setCell b y).setCell a x := by
  unfold World.setCell
  congr 1
  apply Array.ext_getElem?
  intro i
  simp only [Array.getElem?_modify]
  by_cases h1 : a.block = i
  · by_cases h2 : b.block = i
    · omega
    · simp [h1, h2]
  · simp [h1]
/-- the row's block is the old one, or new -/
def Grew (v v' : Value) (n : Nat) : Prop := v'.ownBlock = v.ownBlock ∨ ∃ g, v'.ownBlock = some g ∧ n ≤ g
/-- the end of 'add' -/
theorem add_end {w W2 W3 : World} {B N ob g cap cap' : Nat} {a : Option Addr} {ts : List Tok} {x : Tok} {css : List (List Value)} {x0 x1 x2 x3 z0 z1 z2 z3 : Value} (hN : N = w.heap.size)
    (hob0 : w.heap[ob]? = some (.cells #[.slice a ts.length cap] 91 (0, 0))) (hob3 : W3.heap[ob]? = some (.cells #[.slice a ts.length cap] 91 (0, 0)))
    (hrb : ∀ g, (Value.slice a ts.length cap).ownBlock = some g → B ≤ g) (hcl : css.length = ts.length)
    (hel : ∀ i (h1 : i < css.length) (h2 : i < ts.length), TokIs 33 w (fun g => B ≤ g ∧ (Value.slice a ts.length cap).ownBlock ≠ some g) css[i] ts[i] ∧ css[i].length = 4)
    (hx : TokIs 33 w (fun g => B ≤ g ∧ (Value.slice a ts.length cap).ownBlock ≠ some g) [x0, x1, x2, x3] x)
    (hb2 : Below N w W2) (hN2 : W2.heap.size = N + 2) (hBN : B ≤ N) (hlen : css.flatten.length = ts.length * 4)
    (hrow3 : W3.ownsRow 0 33 4 (.slice (some ⟨g, 0, none⟩) (ts.length + 1) cap') (ts.length + 1) (css.flatten ++ [z0, z1, z2, z3]))
    (hg3 : W2.grownBy W3 (Value.slice a ts.length cap).ownBlock) (hgc : (Value.slice a ts.length cap).ownBlock = some g ∨ g = N + 2) (hgo : g ≠ ob) (_hobl : ob < N) :
    ∃ v', (((((W3.setCell ⟨g, ts.length * 4, none⟩ x0).setCell ⟨g, ts.length * 4 + 1, none⟩ x1).setCell ⟨g, ts.length * 4 + 2, none⟩ x2).setCell ⟨g, ts.length * 4 + 3, none⟩ x3).setCell ⟨ob, 0, none⟩ (.slice (some ⟨g, 0, none⟩) (ts.length + 1) cap')).heap[ob]? = some (.cells #[v'] 91 (0, 0)) ∧
      OutIs (((((W3.setCell ⟨g, ts.length * 4, none⟩ x0).setCell ⟨g, ts.length * 4 + 1, none⟩ x1).setCell ⟨g, ts.length * 4 + 2, none⟩ x2).setCell ⟨g, ts.length * 4 + 3, none⟩ x3).setCell ⟨ob, 0, none⟩ (.slice (some ⟨g, 0, none⟩) (ts.length + 1) cap')) B v' (ts ++ [x]) ∧
      Grew (Value.slice a ts.length cap) v' w.heap.size ∧ Two ob (Value.slice a ts.length cap).ownBlock w (((((W3.setCell ⟨g, ts.length * 4, none⟩ x0).setCell ⟨g, ts.length * 4 + 1, none⟩ x1).setCell ⟨g, ts.length * 4 + 2, none⟩ x2).setCell ⟨g, ts.length * 4 + 3, none⟩ x3).setCell ⟨ob, 0, none⟩ (.slice (some ⟨g, 0, none⟩) (ts.length + 1) cap')) := by
  have hst := stored4 hrow3 hlen x0 x1 x2 x3
  have hsz : ((((W3.setCell ⟨g, ts.length * 4, none⟩ x0).setCell ⟨g, ts.length * 4 + 1, none⟩ x1).setCell ⟨g, ts.length * 4 + 2, none⟩ x2).setCell ⟨g, ts.length * 4 + 3, none⟩ x3).heap.size = W3.heap.size := by simp [World.setCell]
  have hot : ∀ k, k ≠ g → ((((W3.setCell ⟨g, ts.length * 4, none⟩ x0).setCell ⟨g, ts.length * 4 + 1, none⟩ x1).setCell ⟨g, ts.length * 4 + 2, none⟩ x2).setCell ⟨g, ts.length * 4 + 3, none⟩ x3).heap[k]? = W3.heap[k]? := by
    intro k hk
    rw [Below.heap_setCell _ _ _ _ (fun e => hk e), Below.heap_setCell _ _ _ _ (fun e => hk e), Below.heap_setCell _ _ _ _ (fun e => hk e), Below.heap_setCell _ _ _ _ (fun e => hk e)]
  have hos : ((((W3.setCell ⟨g, ts.length * 4, none⟩ x0).setCell ⟨g, ts.length * 4 + 1, none⟩ x1).setCell ⟨g, ts.length * 4 + 2, none⟩ x2).setCell ⟨g, ts.length * 4 + 3, none⟩ x3).os = W3.os := rfl
  have hta : ((((W3.setCell ⟨g, ts.length * 4, none⟩ x0).setCell ⟨g, ts.length * 4 + 1, none⟩ x1).setCell ⟨g, ts.length * 4 + 2, none⟩ x2).setCell ⟨g, ts.length * 4 + 3, none⟩ x3).tape = W3.tape := rfl
  have hou : ((((W3.setCell ⟨g, ts.length * 4, none⟩ x0).setCell ⟨g, ts.length * 4 + 1, none⟩ x1).setCell ⟨g, ts.length * 4 + 2, none⟩ x2).setCell ⟨g, ts.length * 4 + 3, none⟩ x3).output = W3.output := rfl
  generalize (((W3.setCell ⟨g, ts.length * 4, none⟩ x0).setCell ⟨g, ts.length * 4 + 1, none⟩ x1).setCell ⟨g, ts.length * 4 + 2, none⟩ x2).setCell ⟨g, ts.length * 4 + 3, none⟩ x3 = Y at *
  have hobY : Y.heap[ob]? = some (.cells #[.slice a ts.length cap] 91 (0, 0)) := (hot ob (Ne.symm hgo)).trans hob3
  have hfr : ∀ k, k < N → k ≠ ob → some k ≠ (Value.slice a ts.length cap).ownBlock → (Y.setCell ⟨ob, 0, none⟩ (.slice (some ⟨g, 0, none⟩) (ts.length + 1) cap')).heap[k]? = w.heap[k]? := by
    intro k hk ho hr
    rw [Below.heap_setCell _ _ _ _ (fun e => ho e), hot k ?_, hg3.block k (by omega) hr, hb2.block k hk]
    rintro rfl
    rcases hgc with h | h
    · exact hr h.symm
    · omega
  refine ⟨.slice (some ⟨g, 0, none⟩) (ts.length + 1) cap', ?_, ?_, ?_, ⟨hos.trans (hg3.os.trans hb2.os), hta.trans (hg3.tape.trans hb2.tape), hou.trans (hg3.output.trans hb2.output), ?_, fun k hk => hfr k (by omega)⟩⟩
  · simp [World.setCell, Array.getElem?_modify, hobY]
  · refine OutIs.add (css := css) (cs := [x0, x1, x2, x3]) (ob := ob) hcl hel hx hrb ?_ ?_ hob0 (by decide) (fun k hk => hfr k (by omega))
    · exact ownsRow_heap2 hst fun g' cur hg' hc => by
        simp only [Value.ownBlock, Option.some.injEq] at hg'
        subst hg'
        rw [Below.heap_setCell _ _ _ _ (fun e => hgo e)]
        exact hc
    · rcases hgc with h | h
      · exact .inl h.symm
      · exact .inr ⟨g, rfl, by omega, by omega⟩
  · rcases hgc with h | h
    · exact .inl h.symm
    · exact .inr ⟨g, rfl, by omega⟩
  · simp only [World.setCell, Array.size_modify]
    have := hg3.size
    omega
end Go.Proofs.YtkgpmkkodpjdfaaGreatDoor.Pz
