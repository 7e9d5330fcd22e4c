/-
  Part K1 of the proofs of this seat: contracts of functions and plain facts, merged from 16 texts.
-/
import Derived.Lib.TrimByte
import Derived.Shelf.Small.Strs
import Derived.Shelf.Strings.BuilderK
import Derived.Ground.Names2Prog
import Derived.Ground.SlgnProg
import Derived.Shelf.LaysM
import Derived.Test.YtheiageokcgbhaaGreatDoorProg
import Derived.Below
import Derived.WalkKit
import Derived.WalkSpells
import Derived.WalkLawsBesides
import Derived.Lib.MinMax
import Derived.Lib.Strings
import Derived.Lib.Slices
import Derived.Laws.Strings3
import Derived.Lib.FrozenHead
import Derived.Lib.OthersKept
import Derived.Lib.MakeNoZero
import Derived.Laws.Externs
import Derived.Deep.LoopGhost
import Derived.Laws.EntriesVeiled
import Derived.BigQuiet
import Derived.OrdersHeld
import Derived.Deep.AppendLies
import Derived.RangeFuncNested
import Derived.RangeFuncBound
import Derived.RangeFuncCalls
import Derived.RangeFuncLeaves
import Derived.RangeFuncBox
import Derived.Shelf.Abstract
import Derived.Shelf.RegionOpen
import Derived.OwnWalkIn
import Derived.TacticsInMore
import Derived.LoopNIn
import Derived.LoopIn
import Derived.Test.YtheiageokcgbhaaGreatDoorK0
/-
  Facts about the reading: what is left is an end of what was read.
-/
namespace Go.Proofs.YtheiageokcgbhaaGreatDoor.Pz
theorem suf_tail (c : UInt8) (t : Str) : t <:+ c :: t := ⟨[c], rfl⟩
theorem blanks_suf : ∀ (l : Str), blanks l <:+ l
  | [] => List.suffix_refl _
  | [c] => by
    unfold blanks
    split
    · exact suf_tail c []
    · exact List.suffix_refl _
  | c :: d :: t => by
    unfold blanks
    split
    · exact (blanks_suf t).trans ((suf_tail d t).trans (suf_tail c _))
    · split
      · exact (blanks_suf (d :: t)).trans (suf_tail c _)
      · exact List.suffix_refl _
theorem comment_suf : ∀ (l : Str) (o : Bool), comment o l <:+ l
  | [], _ => List.suffix_refl _
  | c :: t, o => by
    unfold comment
    split
    · exact (comment_suf t _).trans (suf_tail c t)
    · split
      · exact List.suffix_refl _
      · exact (comment_suf t _).trans (suf_tail c t)
theorem comment_hash (t : Str) : comment false (35 :: t) = comment false t := by
  rw [comment]
  rfl
theorem blanks0_suf : ∀ (l : Str), blanks0 l <:+ l
  | [] => List.suffix_refl _
  | c :: t => by
    unfold blanks0
    split
    · exact (blanks0_suf t).trans (suf_tail c t)
    · exact List.suffix_refl _
theorem digs_suf (b : Nat) : ∀ (n v : Nat) (l : Str), (digs b n v l).2 <:+ l
  | 0, _, _ => List.suffix_refl _
  | _ + 1, _, [] => List.suffix_refl _
  | n + 1, v, c :: t => by
    unfold digs
    split
    · exact (digs_suf b n _ t).trans (suf_tail c t)
    · exact List.suffix_refl _
theorem digs_shorter (b n v : Nat) (c : UInt8) (t : Str) (h : (digs b n v (c :: t)).2.length < (c :: t).length) : (digs b n v (c :: t)).2 <:+ t := by
  cases n with
  | zero => simp [digs] at h
  | succ n =>
    unfold digs at h ⊢
    split at h
    · exact digs_suf ..
    · simp at h
theorem unesc1_suf (c : UInt8) (t : Str) : (unesc1 c t).2 <:+ t := by
  unfold unesc1
  split
  · exact List.suffix_refl _
  · by_cases h1 : (c == 10) = true
    · rw [if_pos h1]; exact blanks0_suf t
    · rw [if_neg h1]
      by_cases h2 : (c == 120) = true
      · rw [if_pos h2]
        by_cases h3 : (digs 16 2 0 t).2.length < t.length
        · rw [if_pos h3]; exact digs_suf ..
        · rw [if_neg h3]; exact List.suffix_refl _
      · rw [if_neg h2]
        by_cases h3 : (digs 8 3 0 (c :: t)).2.length < (c :: t).length
        · rw [if_pos h3]; exact digs_shorter _ _ _ _ _ h3
        · rw [if_neg h3]; exact List.suffix_refl _
theorem unesc_suf : ∀ (l : Str), (unesc l).2 <:+ l
  | [] => List.suffix_refl _
  | c :: t => (unesc1_suf c t).trans (suf_tail c t)
theorem pre_some {p : Str} {o : Option (Str × Str)} {s r : Str} (h : pre p o = some (s, r)) : ∃ s', o = some (s', r) ∧ s = p ++ s' := by
  cases o with
  | none => simp [pre] at h
  | some x =>
    simp only [pre, Option.some.injEq, Prod.mk.injEq] at h
    obtain ⟨rfl, rfl⟩ := h
    exact ⟨x.1, rfl, rfl⟩
theorem brace_text : ∀ (n : Nat) (l : Str), l.length ≤ n → ∀ (d : Nat) (s r : Str), brace d l = some (s, r) → l = s ++ 125 :: r
  | n, [], _, d, s, r, h => by simp [brace] at h
  | 0, c :: t, hn, _, _, _, _ => absurd hn (by simp)
  | n + 1, c :: t, hn, d, s, r, h => by
    rw [brace.eq_def] at h
    dsimp only at h
    have ht : t.length ≤ n := by simpa using hn
    by_cases h1 : (c == 92) = true
    · rw [if_pos h1] at h
      cases t with
      | nil => simp at h
      | cons e t' =>
        obtain ⟨s', h', rfl⟩ := pre_some h
        have hr := brace_text n t' (by simp at ht; omega) d s' r h'
        rw [hr]; rfl
    · rw [if_neg h1] at h
      by_cases h2 : (c == 123) = true
      · rw [if_pos h2] at h
        obtain ⟨s', h', rfl⟩ := pre_some h
        rw [brace_text n t ht _ s' r h']; rfl
      · rw [if_neg h2] at h
        by_cases h3 : (c == 125) = true
        · rw [if_pos h3] at h
          cases d with
          | zero =>
            simp only [Option.some.injEq, Prod.mk.injEq] at h
            obtain ⟨rfl, rfl⟩ := h
            simp at h3
            subst h3
            rfl
          | succ d' =>
            obtain ⟨s', h', rfl⟩ := pre_some h
            rw [brace_text n t ht _ s' r h']; rfl
        · rw [if_neg h3] at h
          obtain ⟨s', h', rfl⟩ := pre_some h
          rw [brace_text n t ht _ s' r h']; rfl
theorem upTo_text : ∀ (l : Str) (s r : Str), upTo l = some (s, r) → l = s ++ 125 :: r
  | [], s, r, h => by simp [upTo] at h
  | c :: t, s, r, h => by
    rw [upTo] at h
    by_cases h3 : (c == 125) = true
    · rw [if_pos h3] at h
      simp only [Option.some.injEq, Prod.mk.injEq] at h
      obtain ⟨rfl, rfl⟩ := h
      simp at h3
      subst h3
      rfl
    · rw [if_neg h3] at h
      obtain ⟨s', h', rfl⟩ := pre_some h
      rw [upTo_text t s' r h']; rfl
theorem name_text : ∀ (l : Str) (o : Bool), l = (name o l).1 ++ (name o l).2
  | [], _ => rfl
  | c :: t, o => by
    rw [name]
    split
    · rw [List.cons_append, ← name_text t]
    · split
      · rw [List.cons_append, ← name_text t]
      · rfl
theorem suf_len {r l : Str} (h : r <:+ l) : r.length ≤ l.length := h.length_le
theorem blanks_stop : ∀ (l : Str) (w : Bool), parted w (blanks l) = false → ended w (blanks l) = false
  | [], w, h => by simp [blanks, parted] at h
  | [c], w, h => by
    unfold blanks at h ⊢
    by_cases h1 : (c != 10 && white c) = true
    · rw [if_pos h1] at h; simp [parted] at h
    · rw [if_neg h1] at h ⊢
      unfold ended
      rw [h]
      simp only [parted] at h
      have h2 : white c = false := by
        cases hw : white c with
        | false => rfl
        | true => rw [hw] at h1; simp at h1; subst h1; simp at h
      have h3 : joins [c] = false := by
        unfold joins
        split
        · rename_i heq
          simp at heq
        · rfl
      show (false || white c || joins [c]) = false
      rw [h2, h3]
      rfl
  | c :: d :: t, w, h => by
    unfold blanks at h ⊢
    by_cases h0 : (c == 92 && d == 10) = true
    · rw [if_pos h0] at h ⊢
      exact blanks_stop t w h
    · rw [if_neg h0] at h ⊢
      by_cases h1 : (c != 10 && white c) = true
      · rw [if_pos h1] at h ⊢
        exact blanks_stop (d :: t) w h
      · rw [if_neg h1] at h ⊢
        unfold ended
        rw [h]
        simp only [parted] at h
        have h2 : white c = false := by
          cases hw : white c with
          | false => rfl
          | true => rw [hw] at h1; simp at h1; subst h1; simp at h
        have h3 : joins (c :: d :: t) = false := by
          unfold joins
          split
          · rename_i heq
            simp only [List.cons.injEq] at heq
            obtain ⟨rfl, rfl, rfl⟩ := heq
            simp at h0
          · rfl
        show (false || white c || joins (c :: d :: t)) = false
        rw [h2, h3]
        rfl
def CmdsOk (w : Bool) (d : Nat) (l : Str) : Prop := ∀ cs r, commands w d l = .ok cs r → r <:+ l ∧ (r = [] ∨ (w = true ∧ ∃ t, r = 93 :: t))
def CmdOk (w : Bool) (d : Nat) (l : Str) : Prop := (parted w l = false → ended w l = false) → ∀ ws r, command w d l = .ok ws r → r <:+ l ∧ parted w r = true ∧ (parted w l = false → r.length < l.length ∧ ws ≠ [])
def WordOk (w : Bool) (d : Nat) (l : Str) : Prop := ended w l = false → ∀ x r, word w d l = .ok x r → r <:+ l ∧ r.length < l.length ∧ ended w r = true
def PartsOk (f : Upto) (g : Told) (d : Nat) (l : Str) : Prop := ∀ ts r, parts f g d l = .ok ts r → r <:+ l ∧ f.ends r = true ∧ (f.ends l = false → r.length < l.length)
def ScriptOk (d : Nat) (l : Str) : Prop := ∀ s r, script d l = .ok s r → l = s ++ 93 :: r
def VarOk (g : Told) (d : Nat) (l : Str) : Prop := ∀ x r, varOf g d l = .ok x r → r <:+ l ∧ (x = none → r = l)
theorem Res.cons_ok {α : Type} {x : α} {o : Res (List α)} {ts : List α} {r : Str} (h : o.cons x = .ok ts r) : ∃ ts', o = .ok ts' r ∧ ts = x :: ts' := by
  cases o with
  | halt h' => simp [Res.cons] at h
  | ok a b =>
    simp only [Res.cons, Res.ok.injEq] at h
    obtain ⟨rfl, rfl⟩ := h
    exact ⟨a, rfl, rfl⟩
theorem Res.glue_ok {p : Str} {o : Res (List Tok)} {ts : List Tok} {r : Str} (h : o.glue p = .ok ts r) : ∃ ts', o = .ok ts' r ∧ ts = Pz.glue p ts' := by
  cases o with
  | halt h' => simp [Res.glue] at h
  | ok a b =>
    simp only [Res.glue, Res.ok.injEq] at h
    obtain ⟨rfl, rfl⟩ := h
    exact ⟨a, rfl, rfl⟩
theorem ends_nil (f : Upto) : f.ends [] = true := by cases f <;> rfl
theorem cmds_step {w : Bool} {d : Nat} {l : Str} (ih1 : ∀ l', l'.length < l.length → CmdsOk w d l') (ih2 : ∀ l', l'.length ≤ l.length → CmdOk w d l') : CmdsOk w d l := by
  intro cs r h
  rw [commands] at h
  have hb := blanks_suf l
  have hs := blanks_stop l w
  rw [dif_pos (suf_len hb)] at h
  cases hl : blanks l with
  | nil =>
    rw [hl] at h hb
    simp only [Res.ok.injEq] at h
    obtain ⟨rfl, rfl⟩ := h
    exact ⟨hb, .inl rfl⟩
  | cons c t =>
    rw [hl] at h hb hs
    have hlen := suf_len hb
    simp only [List.length_cons] at hlen
    dsimp only at h
    by_cases h1 : (w && c == 93) = true
    · rw [if_pos h1] at h
      simp only [Res.ok.injEq] at h
      obtain ⟨rfl, rfl⟩ := h
      simp at h1
      obtain ⟨rfl, rfl⟩ := h1
      exact ⟨hb, .inr ⟨rfl, t, rfl⟩⟩
    · rw [if_neg h1] at h
      by_cases h2 : parted w (c :: t) = true
      · rw [if_pos h2, dif_pos (by omega)] at h
        obtain ⟨a, b⟩ := ih1 t (by omega) cs r h
        exact ⟨a.trans ((suf_tail c t).trans hb), b⟩
      · rw [if_neg h2] at h
        by_cases h3 : (c == 35) = true
        · rw [if_pos h3] at h
          simp at h3
          subst h3
          rw [comment_hash] at h
          have hcs := comment_suf t false
          have hc := suf_len hcs
          rw [dif_pos (by omega)] at h
          obtain ⟨a, b⟩ := ih1 _ (by omega) cs r h
          exact ⟨a.trans (hcs.trans ((suf_tail _ t).trans hb)), b⟩
        · rw [if_neg h3, dif_pos (by simpa using hlen)] at h
          have hp : parted w (c :: t) = false := by simpa using h2
          cases hc : command w d (c :: t) with
          | halt h' => rw [hc] at h; simp at h
          | ok ws r1 =>
            rw [hc] at h
            dsimp only at h
            obtain ⟨q1, q2, q3⟩ := ih2 (c :: t) (by simpa using hlen) hs ws r1 hc
            have q4 := (q3 hp).1
            simp only [List.length_cons] at q4
            rw [dif_pos (by omega)] at h
            obtain ⟨ts', h', rfl⟩ := Res.cons_ok h
            obtain ⟨a, b⟩ := ih1 r1 (by omega) _ _ h'
            exact ⟨a.trans (q1.trans hb), b⟩
theorem cmd_step {w : Bool} {d : Nat} {l : Str} (ih1 : ∀ l', l'.length < l.length → CmdOk w d l') (ih2 : WordOk w d l) : CmdOk w d l := by
  intro he ws r h
  rw [command] at h
  by_cases h1 : parted w l = true
  · rw [if_pos h1] at h
    simp only [Res.ok.injEq] at h
    obtain ⟨rfl, rfl⟩ := h
    exact ⟨List.suffix_refl _, h1, fun h' => by rw [h1] at h'; cases h'⟩
  · rw [if_neg h1] at h
    have hp : parted w l = false := by simpa using h1
    cases hw : word w d l with
    | halt h' => rw [hw] at h; simp at h
    | ok x r1 =>
      rw [hw] at h
      dsimp only at h
      obtain ⟨q1, q2, q3⟩ := ih2 (he hp) x r1 hw
      have hb := blanks_suf r1
      have hlen := suf_len hb
      rw [dif_pos (by omega)] at h
      obtain ⟨ts', h', rfl⟩ := Res.cons_ok h
      obtain ⟨a, b, _⟩ := ih1 (blanks r1) (by omega) (blanks_stop r1 w) _ _ h'
      have := suf_len a
      exact ⟨a.trans (hb.trans q1), b, fun _ => ⟨by omega, by simp⟩⟩
theorem word_step {w : Bool} {d : Nat} {l : Str} (ih1 : ∀ l', l'.length < l.length → WordOk w d l') (ih2 : ∀ l', l'.length ≤ l.length → ∀ f, PartsOk f all3 d l') : WordOk w d l := by
  intro he x r h
  cases l with
  | nil => simp [ended, parted] at he
  | cons c t =>
    rw [word] at h
    by_cases h1 : (c == 123) = true
    · rw [if_pos h1] at h
      cases hb : brace 0 t with
      | none => rw [hb] at h; simp at h
      | some y =>
        obtain ⟨s, r1⟩ := y
        rw [hb] at h
        dsimp only at h
        have ht := brace_text t.length t (Nat.le_refl _) 0 s r1 hb
        have hsf : r1 <:+ c :: t := ⟨c :: (s ++ [125]), by rw [ht]; simp⟩
        have hlt : r1.length < (c :: t).length := by rw [ht]; simp; omega
        by_cases h2 : (s == [42] && !ended w r1) = true
        · rw [if_pos h2, dif_pos hlt] at h
          cases hw : word w d r1 with
          | halt h' => rw [hw] at h; simp at h
          | ok x1 r2 =>
            rw [hw] at h
            simp only [Res.ok.injEq] at h
            obtain ⟨rfl, rfl⟩ := h
            simp at h2
            obtain ⟨q1, q2, q3⟩ := ih1 r1 hlt h2.2 x1 r2 hw
            exact ⟨q1.trans hsf, by omega, q3⟩
        · rw [if_neg h2] at h
          by_cases h3 : ended w r1 = true
          · rw [if_pos h3] at h
            simp only [Res.ok.injEq] at h
            obtain ⟨rfl, rfl⟩ := h
            exact ⟨hsf, hlt, h3⟩
          · rw [if_neg h3] at h; simp at h
    · rw [if_neg h1] at h
      by_cases h2 : (c == 34) = true
      · rw [if_pos h2] at h
        cases hp : parts .quote all3 d t with
        | halt h' => rw [hp] at h; simp at h
        | ok ts r1 =>
          rw [hp] at h
          dsimp only at h
          obtain ⟨q1, q2, q3⟩ := ih2 t (by simp) _ ts r1 hp
          cases r1 with
          | nil => simp at h
          | cons e r2 =>
            dsimp only at h
            have := suf_len q1
            simp only [List.length_cons] at this
            by_cases h3 : ended w r2 = true
            · rw [if_pos h3] at h
              simp only [Res.ok.injEq] at h
              obtain ⟨rfl, rfl⟩ := h
              exact ⟨(suf_tail e r2).trans (q1.trans (suf_tail c t)), by simp only [List.length_cons]; omega, h3⟩
            · rw [if_neg h3] at h; simp at h
      · rw [if_neg h2] at h
        cases hp : parts (.bare w) all3 d (c :: t) with
        | halt h' => rw [hp] at h; simp at h
        | ok ts r1 =>
          rw [hp] at h
          simp only [Res.ok.injEq] at h
          obtain ⟨rfl, rfl⟩ := h
          obtain ⟨q1, q2, q3⟩ := ih2 _ (Nat.le_refl _) _ ts r1 hp
          exact ⟨q1, q3 he, q2⟩
theorem parts_step {f : Upto} {g : Told} {d : Nat} {l : Str} (ih1 : ∀ l', l'.length < l.length → PartsOk f g d l') (ih2 : ∀ l', l'.length < l.length → VarOk g d l') (ih3 : ∀ l', l'.length < l.length → ScriptOk d l') : PartsOk f g d l := by
  intro ts r h
  rw [parts.eq_def] at h
  by_cases h0 : f.ends l = true
  · rw [if_pos h0] at h
    simp only [Res.ok.injEq] at h
    obtain ⟨rfl, rfl⟩ := h
    exact ⟨List.suffix_refl _, h0, fun h' => by rw [h0] at h'; cases h'⟩
  rw [if_neg h0] at h
  cases l with
  | nil => exact absurd (ends_nil f) h0
  | cons c t =>
    dsimp only at h
    have fin : ∀ {l' : Str} {ts'}, l' <:+ t → parts f g d l' = .ok ts' r → r <:+ c :: t ∧ f.ends r = true ∧ (f.ends (c :: t) = false → r.length < (c :: t).length) := by
      intro l' ts' hs hp
      have hl := suf_len hs
      obtain ⟨q1, q2, _⟩ := ih1 l' (by simp only [List.length_cons]; omega) _ _ hp
      have := suf_len q1
      exact ⟨q1.trans (hs.trans (suf_tail c t)), q2, fun _ => by simp only [List.length_cons]; omega⟩
    by_cases h1 : (c == 92 && g.slashes) = true
    · rw [if_pos h1] at h
      have hu := unesc_suf t
      have hul := suf_len hu
      rw [dif_pos (by simp only [List.length_cons]; omega)] at h
      obtain ⟨ts', h', rfl⟩ := Res.glue_ok h
      exact fin hu h'
    rw [if_neg h1] at h
    by_cases h2 : (c == 36 && g.vars) = true
    · rw [if_pos h2] at h
      cases hv : varOf g d t with
      | halt h' => rw [hv] at h; simp at h
      | ok x r1 =>
        obtain ⟨q1, q2⟩ := ih2 t (by simp) x r1 hv
        have hq := suf_len q1
        rw [hv] at h
        cases x with
        | none =>
          obtain ⟨ts', h', rfl⟩ := Res.glue_ok h
          exact fin (List.suffix_refl _) h'
        | some y =>
          dsimp only at h
          rw [dif_pos (by simp only [List.length_cons]; omega)] at h
          obtain ⟨ts', h', rfl⟩ := Res.cons_ok h
          exact fin q1 h'
    rw [if_neg h2] at h
    by_cases h3 : (c == 91 && g.scripts) = true
    · rw [if_pos h3] at h
      cases hv : script d t with
      | halt h' => rw [hv] at h; simp at h
      | ok x r1 =>
        have hx := ih3 t (by simp) x r1 hv
        have hq : r1 <:+ t := ⟨x ++ [93], by rw [hx]; simp⟩
        have hql := suf_len hq
        rw [hv] at h
        dsimp only at h
        rw [dif_pos (by simp only [List.length_cons]; omega)] at h
        obtain ⟨ts', h', rfl⟩ := Res.cons_ok h
        exact fin hq h'
    rw [if_neg h3] at h
    obtain ⟨ts', h', rfl⟩ := Res.glue_ok h
    exact fin (List.suffix_refl _) h'
theorem script_step {d : Nat} {l : Str} (ih : CmdsOk true (d + 1) l) : ScriptOk d l := by
  intro s r h
  rw [script] at h
  by_cases h0 : (d == maxDeep) = true
  · rw [if_pos h0] at h; simp at h
  rw [if_neg h0] at h
  cases hc : commands true (d + 1) l with
  | halt h' => rw [hc] at h; simp at h
  | ok cs r1 =>
    rw [hc] at h
    obtain ⟨⟨p, hp⟩, q2⟩ := ih cs r1 hc
    cases r1 with
    | nil => simp at h
    | cons e r2 =>
      simp only [Res.ok.injEq] at h
      obtain ⟨rfl, rfl⟩ := h
      rcases q2 with q2 | ⟨_, t', q2⟩
      · simp at q2
      · simp only [List.cons.injEq] at q2
        obtain ⟨rfl, rfl⟩ := q2
        rw [← hp]
        simp
theorem var_step {g : Told} {d : Nat} {l : Str} (ih : ∀ l', l'.length < l.length → PartsOk .paren g (d + 1) l') : VarOk g d l := by
  intro x r h
  rw [varOf] at h
  by_cases h0 : (l.head? == some 123) = true
  · rw [if_pos h0] at h
    cases l with
    | nil => simp at h0
    | cons c t =>
      simp only [List.tail_cons] at h
      cases hu : upTo t with
      | none => rw [hu] at h; simp at h
      | some y =>
        obtain ⟨s, r1⟩ := y
        rw [hu] at h
        simp only [Res.ok.injEq] at h
        obtain ⟨rfl, rfl⟩ := h
        have ht := upTo_text t s r1 hu
        exact ⟨⟨c :: (s ++ [125]), by rw [ht]; simp⟩, fun h' => by cases h'⟩
  rw [if_neg h0] at h
  have hn := name_text l false
  cases hnm : name false l with
  | mk s r1 =>
    rw [hnm] at h hn
    dsimp only at h hn
    have hsf : r1 <:+ l := ⟨s, hn.symm⟩
    by_cases h1 : s.isEmpty = true
    · rw [if_pos h1] at h
      simp only [Res.ok.injEq] at h
      obtain ⟨rfl, rfl⟩ := h
      exact ⟨List.suffix_refl _, fun _ => rfl⟩
    rw [if_neg h1] at h
    cases r1 with
    | nil =>
      simp only [Res.ok.injEq] at h
      obtain ⟨rfl, rfl⟩ := h
      exact ⟨hsf, fun h' => by cases h'⟩
    | cons c t =>
      dsimp only at h
      by_cases h2 : (c == 40) = true
      · rw [if_pos h2] at h
        by_cases h3 : (d == maxDeep) = true
        · rw [if_pos h3] at h; simp at h
        have hl := suf_len hsf
        simp only [List.length_cons] at hl
        rw [if_neg h3, dif_pos (by omega)] at h
        cases hp : parts .paren g (d + 1) t with
        | halt h' => rw [hp] at h; simp at h
        | ok ts r2 =>
          rw [hp] at h
          obtain ⟨q1, _, _⟩ := ih t (by omega) ts r2 hp
          cases r2 with
          | nil => simp at h
          | cons e r3 =>
            simp only [Res.ok.injEq] at h
            obtain ⟨rfl, rfl⟩ := h
            exact ⟨(suf_tail e r3).trans (q1.trans ((suf_tail c t).trans hsf)), fun h' => by cases h'⟩
      · rw [if_neg h2] at h
        simp only [Res.ok.injEq] at h
        obtain ⟨rfl, rfl⟩ := h
        exact ⟨hsf, fun h' => by cases h'⟩
theorem all_ok : ∀ (n : Nat), (∀ w d l, l.length * 8 + 5 ≤ n → CmdsOk w d l) ∧ (∀ w d l, l.length * 8 + 4 ≤ n → CmdOk w d l) ∧ (∀ w d l, l.length * 8 + 3 ≤ n → WordOk w d l) ∧
    (∀ f g d l, l.length * 8 + 2 ≤ n → PartsOk f g d l) ∧ (∀ d l, l.length * 8 + 6 ≤ n → ScriptOk d l) ∧ (∀ g d l, l.length * 8 + 1 ≤ n → VarOk g d l) := by
  intro n
  induction n with
  | zero => refine ⟨?_, ?_, ?_, ?_, ?_, ?_⟩ <;> intros <;> omega
  | succ n ih =>
    obtain ⟨i1, i2, i3, i4, i5, i6⟩ := ih
    refine ⟨fun w d l h => cmds_step (fun l' h' => i1 w d l' (by omega)) (fun l' h' => i2 w d l' (by omega)),
      fun w d l h => cmd_step (fun l' h' => i2 w d l' (by omega)) (i3 w d l (by omega)),
      fun w d l h => word_step (fun l' h' => i3 w d l' (by omega)) (fun l' h' f => i4 f all3 d l' (by omega)),
      fun f g d l h => parts_step (fun l' h' => i4 f g d l' (by omega)) (fun l' h' => i6 g d l' (by omega)) (fun l' h' => i5 d l' (by omega)),
      fun d l h => script_step (i1 true (d + 1) l (by omega)), fun g d l h => var_step (fun l' h' => i4 .paren g (d + 1) l' (by omega))⟩
theorem cmds_ok (w : Bool) (d : Nat) (l : Str) : CmdsOk w d l := (all_ok (l.length * 8 + 5)).1 w d l (Nat.le_refl _)
theorem cmd_ok (w : Bool) (d : Nat) (l : Str) : CmdOk w d l := (all_ok (l.length * 8 + 4)).2.1 w d l (Nat.le_refl _)
theorem word_ok (w : Bool) (d : Nat) (l : Str) : WordOk w d l := (all_ok (l.length * 8 + 3)).2.2.1 w d l (Nat.le_refl _)
theorem parts_ok (f : Upto) (g : Told) (d : Nat) (l : Str) : PartsOk f g d l := (all_ok (l.length * 8 + 2)).2.2.2.1 f g d l (Nat.le_refl _)
theorem script_ok (d : Nat) (l : Str) : ScriptOk d l := (all_ok (l.length * 8 + 6)).2.2.2.2.1 d l (Nat.le_refl _)
theorem var_ok (g : Told) (d : Nat) (l : Str) : VarOk g d l := (all_ok (l.length * 8 + 1)).2.2.2.2.2 g d l (Nat.le_refl _)
end Go.Proofs.YtheiageokcgbhaaGreatDoor.Pz
/-
  The reading's equations without guards; the loop that puts tokens together from the left.
-/
namespace Go.Proofs.YtheiageokcgbhaaGreatDoor.Pz
/-! The reading's equations without the guards of its recursion. -/
theorem parts_end {f : Upto} {l : Str} (h : f.ends l = true) (g : Told) (d : Nat) : parts f g d l = .ok [] l := by
  rw [parts.eq_def, if_pos h]
theorem parts_cons {f : Upto} {c : UInt8} {t : Str} (h : f.ends (c :: t) = false) (g : Told) (d : Nat) : parts f g d (c :: t) =
    if c == 92 && g.slashes then (parts f g d (unesc t).2).glue (unesc t).1
    else if c == 36 && g.vars then
      match varOf g d t with
      | .halt h => .halt h
      | .ok none _ => (parts f g d t).glue [c]
      | .ok (some x) r => (parts f g d r).cons x
    else if c == 91 && g.scripts then
      match script d t with
      | .halt h => .halt h
      | .ok s r => (parts f g d r).cons (.mk 3 s false [])
    else (parts f g d t).glue [c] := by
  rw [parts.eq_def, if_neg (by rw [h]; simp)]
  dsimp only
  have hu := suf_len (unesc_suf t)
  rw [dif_pos (by simp only [List.length_cons]; omega)]
  split
  · rfl
  · split
    · cases hv : varOf g d t with
      | halt h' => rfl
      | ok x r =>
        cases x with
        | none => rfl
        | some y =>
          have := suf_len (var_ok g d t _ r hv).1
          dsimp only
          rw [dif_pos (by simp only [List.length_cons]; omega)]
    · split
      · cases hv : script d t with
        | halt h' => rfl
        | ok x r =>
          have := script_ok d t x r hv
          dsimp only
          rw [dif_pos (by rw [this]; simp; omega)]
      · rfl
theorem command_end {w : Bool} {l : Str} (h : parted w l = true) (d : Nat) : command w d l = .ok [] l := by
  rw [command, if_pos h]
theorem command_cons {w : Bool} {l : Str} (h : parted w l = false) (he : ended w l = false) (d : Nat) : command w d l =
    match word w d l with
    | .halt h => .halt h
    | .ok x r => (command w d (blanks r)).cons x := by
  rw [command, if_neg (by rw [h]; simp)]
  cases hw : word w d l with
  | halt h' => rfl
  | ok x r =>
    have h1 := (word_ok w d l he x r hw).2.1
    have h2 := suf_len (blanks_suf r)
    dsimp only
    rw [dif_pos (by omega)]
theorem commands_eq (w : Bool) (d : Nat) (l : Str) : commands w d l =
    match blanks l with
    | [] => .ok [] []
    | c :: t =>
      if w && c == 93 then .ok [] (c :: t)
      else if parted w (c :: t) then commands w d t
      else if c == 35 then commands w d (comment false (c :: t))
      else
        match command w d (c :: t) with
        | .halt h => .halt h
        | .ok ws r => (commands w d r).cons ⟨(c :: t).length, ws⟩ := by
  rw [commands]
  have hb := blanks_suf l
  have hs := blanks_stop l w
  rw [dif_pos (suf_len hb)]
  cases hl : blanks l with
  | nil => rfl
  | cons c t =>
    rw [hl] at hb hs
    have hlen := suf_len hb
    simp only [List.length_cons] at hlen
    dsimp only
    by_cases h1 : (w && c == 93) = true
    · rw [if_pos h1, if_pos h1]
    rw [if_neg h1, if_neg h1]
    by_cases h2 : parted w (c :: t) = true
    · rw [if_pos h2, if_pos h2, dif_pos (by omega)]
    rw [if_neg h2, if_neg h2]
    by_cases h3 : (c == 35) = true
    · rw [if_pos h3, if_pos h3]
      simp at h3
      subst h3
      rw [comment_hash]
      have hc := suf_len (comment_suf t false)
      rw [dif_pos (by omega)]
    rw [if_neg h3, if_neg h3, dif_pos (by simpa using hlen)]
    cases hc : command w d (c :: t) with
    | halt h' => rfl
    | ok ws r =>
      have hp : parted w (c :: t) = false := by simpa using h2
      have h4 := ((cmd_ok w d (c :: t) hs ws r hc).2.2 hp).1
      simp only [List.length_cons] at h4
      dsimp only
      rw [dif_pos (by omega)]
theorem word_brace {w : Bool} {t : Str} (d : Nat) : word w d (123 :: t) =
    match brace 0 t with
    | none => .halt (.lacks (t.length + 1))
    | some (s, r) =>
      if s == [42] && !ended w r then
        match word w d r with
        | .ok x r' => .ok ⟨true, x.toks⟩ r'
        | .halt h => .halt h
      else if ended w r then .ok ⟨false, [Tok.txt (joined false s)]⟩ r
      else .halt (.wrong r.length) := by
  rw [word, if_pos (by decide)]
  cases hb : brace 0 t with
  | none => rfl
  | some y =>
    obtain ⟨s, r⟩ := y
    have ht := brace_text t.length t (Nat.le_refl _) 0 s r hb
    dsimp only
    rw [dif_pos (by rw [ht]; simp; omega)]
    rfl
theorem word_quote {w : Bool} {t : Str} (d : Nat) : word w d (34 :: t) =
    match parts .quote all3 d t with
    | .halt h => .halt h
    | .ok ts r =>
      match r with
      | [] => .halt (.lacks (t.length + 1))
      | _ :: r' => if ended w r' then .ok ⟨false, filled ts⟩ r' else .halt (.wrong r'.length) := by
  rw [word, if_neg (by decide), if_pos (by decide)]
  rfl
theorem word_bare {w : Bool} {c : UInt8} {t : Str} (h1 : c ≠ 123) (h2 : c ≠ 34) (d : Nat) : word w d (c :: t) =
    match parts (.bare w) all3 d (c :: t) with
    | .halt h => .halt h
    | .ok ts r => .ok ⟨false, filled ts⟩ r := by
  rw [word, if_neg (by simpa using h1), if_neg (by simpa using h2)]
  rfl
theorem varOf_index {g : Told} {d : Nat} {l s t : Str} (h0 : l.head? ≠ some 123) (hn : name false l = (s, 40 :: t)) (hs : s ≠ []) : varOf g d l =
    if d == maxDeep then .halt .deep
    else
      match parts .paren g (d + 1) t with
      | .halt h => .halt h
      | .ok ts r' =>
        match r' with
        | [] => .halt (.lacks (t.length + 1))
        | _ :: r'' => .ok (some (.mk 2 s true (filled ts))) r'' := by
  have ht := name_text l false
  rw [hn] at ht
  rw [varOf, if_neg (by simpa using h0), hn]
  dsimp only
  rw [if_neg (by simpa using hs), if_pos (by decide)]
  split
  · rfl
  · rw [dif_pos (by rw [ht]; simp; omega)]
    rfl
/-! The loop of 'parts' puts tokens together from the left. -/
theorem glue_glue (p q : Str) (ts : List Tok) : glue p (glue q ts) = glue (p ++ q) ts := by
  cases ts with
  | nil => rfl
  | cons x ts =>
    obtain ⟨k, s, h, ix⟩ := x
    by_cases hk : (k == 1) = true
    · have e : ∀ x : Str, glue x (.mk k s h ix :: ts) = .mk 1 (x ++ s) h ix :: ts := fun x => by rw [glue, if_pos hk]
      have e1 : ∀ x y : Str, glue x (.mk 1 y h ix :: ts) = .mk 1 (x ++ y) h ix :: ts := fun x y => by rw [glue, if_pos (by decide)]
      rw [e, e1, e, List.append_assoc]
    · have e : ∀ x : Str, glue x (.mk k s h ix :: ts) = Tok.txt x :: .mk k s h ix :: ts := fun x => by rw [glue, if_neg hk]
      have e1 : ∀ x y : Str, glue x (Tok.txt y :: .mk k s h ix :: ts) = Tok.txt (x ++ y) :: .mk k s h ix :: ts := fun x y => by
        rw [Tok.txt, glue, if_pos (by decide)]
        rfl
      rw [e, e1, e]
def glueE (p : Str) (ts : List Tok) : List Tok := if p.isEmpty then ts else glue p ts
/-- what stands ready is put behind the tokens -/
def flush (p : Str) : List Tok := if p.isEmpty then [] else [Tok.txt p]
def Tok.kind : Tok → Nat | .mk k _ _ _ => k
def acc (out : List Tok) (p : Str) : Res (List Tok) → Res (List Tok)
  | .ok ts r => .ok (out ++ glueE p ts) r
  | .halt h => .halt h
theorem acc_nil (R : Res (List Tok)) : acc [] [] R = R := by cases R <;> rfl
theorem acc_end (out : List Tok) (p l : Str) : acc out p (.ok [] l) = .ok (out ++ flush p) l := by
  cases p with
  | nil => rfl
  | cons c p => rfl
theorem acc_glue (out : List Tok) (p : Str) {q : Str} (hq : q ≠ []) (R : Res (List Tok)) : acc out p (R.glue q) = acc out (p ++ q) R := by
  cases R with
  | halt h => rfl
  | ok ts r =>
    show Res.ok (out ++ glueE p (glue q ts)) r = Res.ok (out ++ glueE (p ++ q) ts) r
    unfold glueE
    rw [if_neg (show ¬ (p ++ q).isEmpty = true by simp [hq])]
    cases p with
    | nil => rfl
    | cons c p =>
      rw [if_neg (by simp), glue_glue]
theorem acc_cons (out : List Tok) (p : Str) {x : Tok} (hx : x.kind ≠ 1) (R : Res (List Tok)) : acc out p (R.cons x) = acc (out ++ flush p ++ [x]) [] R := by
  cases R with
  | halt h => rfl
  | ok ts r =>
    obtain ⟨k, s, h, ix⟩ := x
    have hk : ¬ (k == 1) = true := by simpa [Tok.kind] using hx
    show Res.ok (out ++ glueE p (.mk k s h ix :: ts)) r = Res.ok (out ++ flush p ++ [.mk k s h ix] ++ ts) r
    unfold glueE flush
    cases p with
    | nil => simp
    | cons c p =>
      rw [if_neg (by simp), if_neg (by simp), glue, if_neg hk]
      simp
theorem unesc_ne : ∀ (l : Str), (unesc l).1 ≠ []
  | [] => by simp [unesc]
  | c :: t => by
    show (unesc1 c t).1 ≠ []
    unfold unesc1
    split
    · simp
    · split
      · simp
      · split
        · split <;> simp
        · split <;> simp
theorem var_kind {g : Told} {d : Nat} {l : Str} {x : Tok} {r : Str} (h : varOf g d l = .ok (some x) r) : x.kind = 2 := by
  rw [varOf] at h
  repeat' split at h
  all_goals first
    | (simp only [Res.ok.injEq, Option.some.injEq] at h; obtain ⟨rfl, _⟩ := h; rfl)
    | cases h
end Go.Proofs.YtheiageokcgbhaaGreatDoor.Pz
/-
  What is left of a text at a place.
-/
namespace Go.Proofs.YtheiageokcgbhaaGreatDoor.Pz
open Go
/-- what is left of a text at a place -/
structure At (s l : Str) (i : Nat) : Prop where
  len : i + l.length = s.length
  rest : s.drop i = l
theorem At.start (s : Str) : At s s 0 := ⟨by simp, rfl⟩
theorem At.of_suf {s l : Str} (h : l <:+ s) : At s l (s.length - l.length) := by
  obtain ⟨p, rfl⟩ := h
  refine ⟨by simp, ?_⟩
  simp
theorem At.is_suf {s l : Str} {i : Nat} (h : At s l i) : l <:+ s := ⟨s.take i, by rw [← h.rest]; exact List.take_append_drop i s⟩
theorem At.eq {s l : Str} {i : Nat} (h : At s l i) : i = s.length - l.length := by have := h.len; omega
theorem At.suf {s l r : Str} {i : Nat} (h : At s l i) (hr : r <:+ l) : At s r (s.length - r.length) := At.of_suf (hr.trans h.is_suf)
theorem At.app {s x r : Str} {i : Nat} (h : At s (x ++ r) i) : At s r (i + x.length) := by
  refine ⟨by have := h.len; simp at this; omega, ?_⟩
  rw [← List.drop_drop, h.rest]
  simp
theorem At.tail {s t : Str} {c : UInt8} {i : Nat} (h : At s (c :: t) i) : At s t (i + 1) := At.app (x := [c]) h
theorem At.lt {s t : Str} {c : UInt8} {i : Nat} (h : At s (c :: t) i) : i < s.length := by have := h.len; simp at this; omega
theorem At.head {s t : Str} {c : UInt8} {i : Nat} (h : At s (c :: t) i) : s[i]? = some c := by
  have h1 := h.rest
  have h2 : (s.drop i)[0]? = some c := by rw [h1]; rfl
  rw [List.getElem?_drop] at h2
  simpa using h2
theorem At.get {s t : Str} {c : UInt8} {i : Nat} (h : At s (c :: t) i) : s.toArray[i]? = some c := by
  rw [List.getElem?_toArray]
  exact h.head
theorem At.nil_iff {s l : Str} {i : Nat} (h : At s l i) : l = [] ↔ s.length ≤ i := by
  have := h.len
  constructor
  · rintro rfl; simp at this; omega
  · intro h'
    exact List.eq_nil_of_length_eq_zero (by omega)
theorem At.text {s x r : Str} {i : Nat} (h : At s (x ++ r) i) : (⟨s.toArray⟩ : ByteArray).extract i (i + x.length) = ⟨x.toArray⟩ := by
  rw [Lib.extract_mk]
  have h1 : (s.drop i).take x.length = x := by rw [h.rest]; simp
  have h2 : (s.take (i + x.length)).drop i = x := by
    rw [List.drop_take]
    rw [show i + x.length - i = x.length by omega]
    exact h1
  first
    | rw [h2]
    | (rw [show i + x.length - i = x.length by omega]; rw [h1])
theorem At.all {s l : Str} {i : Nat} (h : At s l i) : (⟨s.toArray⟩ : ByteArray).extract i s.length = ⟨l.toArray⟩ := by
  have h0 : At s (l ++ []) i := by rw [List.append_nil]; exact h
  rw [← h.len]
  exact h0.text
end Go.Proofs.YtheiageokcgbhaaGreatDoor.Pz
/-
  Quoting, plain (of PzQ: what lists need).
-/
namespace Go.Proofs.YtheiageokcgbhaaGreatDoor.Pz
/-- a byte that must be quoted -/
def special (c : UInt8) : Bool := white c || [34, 92, 123, 125, 36, 91, 93, 59].contains c
/-- the braces balance from depth d, and no backslash stands at the end -/
def bal : Nat → Str → Bool
  | d, [] => d == 0
  | d, c :: t =>
    if c == 92 then
      match t with
      | [] => false
      | _ :: t' => bal d t'
    else if c == 123 then bal (d + 1) t
    else if c == 125 then
      match d with
      | 0 => false
      | d' + 1 => bal d' t
    else bal d t
/-- a backslash and a line feed stand in it -/
def hasBN : Str → Bool
  | [] => false
  | c :: t => (c == 92 && t.head? == some 10) || hasBN t
def balanced (s : Str) : Bool := bal 0 s && !hasBN s
def slash1 (c : UInt8) : UInt8 := if c == 9 then 116 else if c == 10 then 110 else if c == 11 then 118 else if c == 12 then 102 else if c == 13 then 114 else c
def slash : Bool → Str → Str
  | _, [] => []
  | first, c :: t => if special c || (first && c == 35) then 92 :: slash1 c :: slash false t else c :: slash false t
def plainW (s : Str) : Bool := s.head? != some 35 && s.all fun c => !special c
def quote (s : Str) : Str := if s.isEmpty then [123, 125] else if plainW s then s else if balanced s then 123 :: (s ++ [125]) else slash true s
def quotedL : List Str → Str
  | [] => []
  | [s] => quote s
  | s :: l => quote s ++ 32 :: quotedL l
theorem brace_bal (r : Str) : ∀ (n : Nat) (s : Str), s.length ≤ n → ∀ d, bal d s = true → brace d (s ++ 125 :: r) = some (s, r)
  | n, [], _, d, h => by
    have hd : d = 0 := by simpa [bal] using h
    subst hd
    show brace 0 (125 :: r) = _
    rw [brace.eq_def]
    rfl
  | 0, c :: t, hn, _, _ => absurd hn (by simp)
  | n + 1, c :: t, hn, d, h => by
    have ht : t.length ≤ n := by simpa using hn
    rw [bal.eq_def] at h
    rw [List.cons_append, brace.eq_def]
    dsimp only at h ⊢
    by_cases h1 : (c == 92) = true
    · rw [if_pos h1] at h ⊢
      cases t with
      | nil => cases h
      | cons e t' =>
        have hi := brace_bal r n t' (by simp at ht; omega) d h
        rw [List.cons_append]
        dsimp only
        rw [hi]
        rfl
    · rw [if_neg h1] at h ⊢
      by_cases h2 : (c == 123) = true
      · rw [if_pos h2] at h ⊢
        rw [brace_bal r n t ht _ h]; rfl
      · rw [if_neg h2] at h ⊢
        by_cases h3 : (c == 125) = true
        · rw [if_pos h3] at h ⊢
          cases d with
          | zero => cases h
          | succ d' =>
            dsimp only at h ⊢
            rw [brace_bal r n t ht _ h]; rfl
        · rw [if_neg h3] at h ⊢
          rw [brace_bal r n t ht _ h]; rfl
theorem byte_nat {c : UInt8} {n : Nat} (h : c.toNat = n) : c = UInt8.ofNat n := by
  subst h
  simp
theorem white_cases {c : UInt8} (h : white c = true) : c = 9 ∨ c = 10 ∨ c = 11 ∨ c = 12 ∨ c = 13 ∨ c = 32 := by
  simp only [white, Bool.or_eq_true, Bool.and_eq_true, decide_eq_true_eq, beq_iff_eq] at h
  rcases h with ⟨h1, h2⟩ | h
  · have h1 : 9 ≤ c.toNat := h1
    have h2 : c.toNat ≤ 13 := h2
    have h3 : c.toNat = 9 ∨ c.toNat = 10 ∨ c.toNat = 11 ∨ c.toNat = 12 ∨ c.toNat = 13 := by omega
    rcases h3 with h | h | h | h | h
    · exact .inl (byte_nat h)
    · exact .inr (.inl (byte_nat h))
    · exact .inr (.inr (.inl (byte_nat h)))
    · exact .inr (.inr (.inr (.inl (byte_nat h))))
    · exact .inr (.inr (.inr (.inr (.inl (byte_nat h)))))
  · exact .inr (.inr (.inr (.inr (.inr h))))
/-- the bytes before which a backslash is put -/
def Slashy (c : UInt8) : Prop := c = 9 ∨ c = 10 ∨ c = 11 ∨ c = 12 ∨ c = 13 ∨ c = 32 ∨ c = 34 ∨ c = 92 ∨ c = 123 ∨ c = 125 ∨ c = 36 ∨ c = 91 ∨ c = 93 ∨ c = 59 ∨ c = 35
theorem slashy {c : UInt8} (h : special c = true ∨ c = 35) : Slashy c := by
  unfold Slashy
  rcases h with h | rfl
  · rw [special, Bool.or_eq_true] at h
    rcases h with h | h
    · rcases white_cases h with rfl | rfl | rfl | rfl | rfl | rfl <;> simp
    · simp at h
      rcases h with rfl | rfl | rfl | rfl | rfl | rfl | rfl | rfl <;> simp
  · simp
theorem unesc_slash {c : UInt8} (h : Slashy c) (t : Str) : unesc (slash1 c :: t) = ([c], t) := by
  rcases h with rfl | rfl | rfl | rfl | rfl | rfl | rfl | rfl | rfl | rfl | rfl | rfl | rfl | rfl | rfl <;>
    simp [unesc, unesc1, slash1, named1, digs, digv, hexv]
theorem plain_facts {c : UInt8} (h : special c = false) : white c = false ∧ c ≠ 92 ∧ c ≠ 36 ∧ c ≠ 91 ∧ c ≠ 123 ∧ c ≠ 34 ∧ c ≠ 59 ∧ c ≠ 10 := by
  rw [special, Bool.or_eq_false_iff] at h
  obtain ⟨hw, hc⟩ := h
  refine ⟨hw, ?_, ?_, ?_, ?_, ?_, ?_, ?_⟩
  all_goals
    rintro rfl
    first
      | exact absurd hc (by decide)
      | exact absurd hw (by decide)
theorem slash_plain : ∀ (s : Str), (s.all fun c => !special c) = true → slash false s = s
  | [], _ => rfl
  | c :: t, h => by
    rw [List.all_cons, Bool.and_eq_true] at h
    have hc : special c = false := by simpa using h.1
    rw [slash, if_neg (by simp [hc]), slash_plain t h.2]
theorem quote_plain {s : Str} (h : plainW s = true) : slash true s = s := by
  cases s with
  | nil => rfl
  | cons c t =>
    rw [plainW, Bool.and_eq_true, List.all_cons, Bool.and_eq_true] at h
    have hc : special c = false := by simpa using h.2.1
    have h35 : c ≠ 35 := by
      rintro rfl
      exact absurd h.1 (by simp)
    rw [slash, if_neg (by simp [hc, h35]), slash_plain t h.2.2]
theorem quotedL_two (s s' : Str) (l : List Str) : quotedL (s :: s' :: l) = quote s ++ 32 :: quotedL (s' :: l) := by
  rw [quotedL]
  simp
end Go.Proofs.YtheiageokcgbhaaGreatDoor.Pz
/-
  The reading of lists, plain: elements, and the canonical list read back.
-/
namespace Go.Proofs.YtheiageokcgbhaaGreatDoor.Pz
/-- behind an opening quote: the element, and what is left behind the closing one -/
def quotedE : Str → Option (Str × Str)
  | [] => none
  | c :: t => if c == 34 then some ([], t) else if c == 92 then pre (unesc t).1 (quotedE (unesc t).2) else pre [c] (quotedE t)
termination_by l => l.length
decreasing_by
  · have := suf_len (unesc_suf t)
    simp only [List.length_cons]
    omega
  · simp
def preP (p : Str) (x : Str × Str) : Str × Str := (p ++ x.1, x.2)
/-- an element that is neither braced nor quoted, and what is left -/
def bareE : Str → Str × Str
  | [] => ([], [])
  | c :: t => if white c then ([], c :: t) else if c == 92 then preP (unesc t).1 (bareE (unesc t).2) else preP [c] (bareE t)
termination_by l => l.length
decreasing_by
  · have := suf_len (unesc_suf t)
    simp only [List.length_cons]
    omega
  · simp
def elemE : Str → Option (Str × Str)
  | [] => none
  | c :: t => if c == 123 then brace 0 t else if c == 34 then quotedE t else some (bareE (c :: t))
def spaced : Str → Bool
  | [] => true
  | c :: _ => white c
/-- the elements; or how much is left where a wrong one begins -/
def listE : Str → Sum Nat (List Str)
  | [] => .inr []
  | c :: t => if white c then listE t else
    match elemE (c :: t) with
    | none => .inl (t.length + 1)
    | some (x, r) => if h : r.length < t.length + 1 then if spaced r then (match listE r with | .inl b => .inl b | .inr xs => .inr (x :: xs)) else .inl (t.length + 1) else .inl 0
termination_by l => l.length
decreasing_by
  · simp
  · simpa using h
theorem quotedE_suf : ∀ (n : Nat) (l : Str), l.length ≤ n → ∀ s r, quotedE l = some (s, r) → r.length < l.length ∧ r <:+ l
  | _, [], _, s, r, h => by rw [quotedE] at h; cases h
  | 0, c :: t, hn, _, _, _ => absurd hn (by simp)
  | n + 1, c :: t, hn, s, r, h => by
    have ht : t.length ≤ n := by simpa using hn
    rw [quotedE] at h
    split at h
    · simp only [Option.some.injEq, Prod.mk.injEq] at h
      obtain ⟨rfl, rfl⟩ := h
      exact ⟨by simp, suf_tail c t⟩
    · split at h
      · obtain ⟨s', h', rfl⟩ := pre_some h
        have hu := suf_len (unesc_suf t)
        obtain ⟨a, b⟩ := quotedE_suf n _ (by omega) _ _ h'
        exact ⟨by simp; omega, b.trans ((unesc_suf t).trans (suf_tail c t))⟩
      · obtain ⟨s', h', rfl⟩ := pre_some h
        obtain ⟨a, b⟩ := quotedE_suf n t ht _ _ h'
        exact ⟨by simp; omega, b.trans (suf_tail c t)⟩
theorem bareE_suf : ∀ (n : Nat) (l : Str), l.length ≤ n → (bareE l).2 <:+ l ∧ spaced (bareE l).2 = true
  | _, [], _ => by rw [bareE]; exact ⟨List.suffix_refl _, rfl⟩
  | 0, c :: t, hn => absurd hn (by simp)
  | n + 1, c :: t, hn => by
    have ht : t.length ≤ n := by simpa using hn
    rw [bareE]
    split
    · rename_i hw
      exact ⟨List.suffix_refl _, hw⟩
    · split
      · have hu := suf_len (unesc_suf t)
        obtain ⟨a, b⟩ := bareE_suf n (unesc t).2 (by omega)
        exact ⟨a.trans ((unesc_suf t).trans (suf_tail c t)), b⟩
      · obtain ⟨a, b⟩ := bareE_suf n t ht
        exact ⟨a.trans (suf_tail c t), b⟩
theorem bareE_less {c : UInt8} {t : Str} (h : white c = false) : (bareE (c :: t)).2.length ≤ t.length := by
  rw [bareE, if_neg (by simp [h])]
  split
  · have hu := suf_len (unesc_suf t)
    have := suf_len (bareE_suf _ (unesc t).2 (Nat.le_refl _)).1
    simp only [preP]
    omega
  · exact suf_len (bareE_suf _ t (Nat.le_refl _)).1
theorem elemE_suf {c : UInt8} {t s r : Str} (hw : white c = false) (h : elemE (c :: t) = some (s, r)) : r.length ≤ t.length ∧ r <:+ c :: t := by
  have h' : (if (c == 123) = true then brace 0 t else if (c == 34) = true then quotedE t else some (bareE (c :: t))) = some (s, r) := h
  clear h
  have h := h'
  clear h'
  split at h
  · have ht := brace_text t.length t (Nat.le_refl _) 0 s r h
    exact ⟨by rw [ht]; simp; omega, by rw [ht]; exact ⟨c :: s ++ [125], by simp⟩⟩
  · split at h
    · obtain ⟨a, b⟩ := quotedE_suf _ t (Nat.le_refl _) s r h
      exact ⟨by omega, b.trans (suf_tail c t)⟩
    · simp only [Option.some.injEq] at h
      have h1 := bareE_less (t := t) hw
      have h2 := (bareE_suf _ (c :: t) (Nat.le_refl _)).1
      rw [h] at h1 h2
      exact ⟨h1, h2⟩
theorem listE_white {c : UInt8} {t : Str} (h : white c = true) : listE (c :: t) = listE t := by
  rw [listE, if_pos h]
theorem listE_cons {c : UInt8} {t : Str} (h : white c = false) : listE (c :: t) =
    match elemE (c :: t) with
    | none => .inl (t.length + 1)
    | some (x, r) => if spaced r then (match listE r with | .inl b => .inl b | .inr xs => .inr (x :: xs)) else .inl (t.length + 1) := by
  rw [listE, if_neg (by simp [h])]
  cases he : elemE (c :: t) with
  | none => rfl
  | some y =>
    obtain ⟨x, r⟩ := y
    have := (elemE_suf h he).1
    dsimp only
    rw [dif_pos (by omega)]
/-- what 'Split' tells: the elements, or the place and the error -/
def splitE (s : Str) : List Str × Int × Int :=
  match listE s with
  | .inl b => ([], (s.length : Int) - (b : Int), 2)
  | .inr xs => if xs.length ≤ 10000 then (xs, 0, 0) else ([], 0, 4)
end Go.Proofs.YtheiageokcgbhaaGreatDoor.Pz
/-
  list: what the iterator over elements hands, plain.
-/
namespace Go.Proofs.YtheiageokcgbhaaGreatDoor.Pz
/-- how much is left where an element begins, its text, and whether it is right -/
abbrev Item := Nat × Str × Bool
def itemsE : Str → List Item
  | [] => []
  | c :: t => if white c then itemsE t else
    match elemE (c :: t) with
    | none => [(t.length + 1, [], false)]
    | some (x, r) => if h : r.length < t.length + 1 then if spaced r then (t.length + 1, x, true) :: itemsE r else [(t.length + 1, x, false)] else []
termination_by l => l.length
decreasing_by
  · simp
  · simpa using h
theorem itemsE_white {c : UInt8} {t : Str} (h : white c = true) : itemsE (c :: t) = itemsE t := by
  rw [itemsE, if_pos h]
theorem itemsE_cons {c : UInt8} {t : Str} (h : white c = false) : itemsE (c :: t) =
    match elemE (c :: t) with
    | none => [(t.length + 1, [], false)]
    | some (x, r) => if spaced r then (t.length + 1, x, true) :: itemsE r else [(t.length + 1, x, false)] := by
  rw [itemsE, if_neg (by simp [h])]
  cases he : elemE (c :: t) with
  | none => rfl
  | some y =>
    obtain ⟨x, r⟩ := y
    have := (elemE_suf h he).1
    dsimp only
    rw [dif_pos (by omega)]
theorem itemsE_spaced {c : UInt8} {r : Str} (h : spaced (c :: r) = true) : itemsE (c :: r) = itemsE r := itemsE_white h
theorem items_list : ∀ (n : Nat) (l : Str), l.length ≤ n →
    (∃ xs, listE l = .inr xs ∧ (itemsE l).map (fun x => x.2.1) = xs ∧ ∀ x ∈ itemsE l, x.2.2 = true) ∨ (∃ b q y, listE l = .inl b ∧ itemsE l = q ++ [(b, y, false)] ∧ ∀ x ∈ q, x.2.2 = true)
  | _, [], _ => .inl ⟨[], by rw [listE], by rw [itemsE]; rfl, by rw [itemsE]; simp⟩
  | 0, c :: t, h => absurd h (by simp)
  | n + 1, c :: t, h => by
    have ht : t.length ≤ n := by simpa using h
    cases hw : white c with
    | true =>
      rw [listE_white hw, itemsE_white hw]
      exact items_list n t ht
    | false =>
      rw [listE_cons hw, itemsE_cons hw]
      cases he : elemE (c :: t) with
      | none => exact .inr ⟨_, [], [], rfl, rfl, by simp⟩
      | some y =>
        obtain ⟨x, r⟩ := y
        have hr := (elemE_suf hw he).1
        dsimp only
        cases hs : spaced r with
        | false => exact .inr ⟨_, [], x, by rw [if_neg (by simp)], by rw [if_neg (by simp)]; rfl, by simp⟩
        | true =>
          rw [if_pos rfl, if_pos rfl]
          rcases items_list n r (by omega) with ⟨xs, h1, h2, h3⟩ | ⟨b, q, y, h1, h2, h3⟩
          · exact .inl ⟨x :: xs, by rw [h1], by rw [List.map_cons, h2], fun z hz => by
              rcases List.mem_cons.1 hz with rfl | hz
              · rfl
              · exact h3 z hz⟩
          · exact .inr ⟨b, (t.length + 1, x, true) :: q, y, by rw [h1], by rw [h2]; rfl, fun z hz => by
              rcases List.mem_cons.1 hz with rfl | hz
              · rfl
              · exact h3 z hz⟩
theorem items_len : ∀ (n : Nat) (l : Str), l.length ≤ n → (itemsE l).length ≤ l.length
  | _, [], _ => by rw [itemsE]; simp
  | 0, c :: t, h => absurd h (by simp)
  | n + 1, c :: t, h => by
    have ht : t.length ≤ n := by simpa using h
    cases hw : white c with
    | true =>
      rw [itemsE_white hw]
      have := items_len n t ht
      simp
      omega
    | false =>
      rw [itemsE_cons hw]
      cases he : elemE (c :: t) with
      | none => simp
      | some y =>
        obtain ⟨x, r⟩ := y
        have hr := (elemE_suf hw he).1
        have := items_len n r (by omega)
        dsimp only
        split <;> simp <;> omega
/-- a part of what is handed that ends with a wrong element is all of it -/
theorem items_wrong {l : Str} {q : List Item} {b : Nat} {y : Str} (h : q ++ [(b, y, false)] <+: itemsE l) : listE l = .inl b := by
  obtain ⟨u, hu⟩ := h
  have hm : (b, y, false) ∈ itemsE l := by rw [← hu]; simp
  rcases items_list _ l (Nat.le_refl _) with ⟨xs, h1, h2, h3⟩ | ⟨b', q', y', h1, h2, h3⟩
  · exact absurd (h3 _ hm) (by simp)
  · rw [h2] at hm
    rcases List.mem_append.1 hm with hm | hm
    · exact absurd (h3 _ hm) (by simp)
    · simp only [List.mem_singleton, Prod.mk.injEq] at hm
      rw [h1, hm.1]
end Go.Proofs.YtheiageokcgbhaaGreatDoor.Pz
/-
  P2.2: what is joined is split into the same texts.
-/
namespace Go.Proofs.YtheiageokcgbhaaGreatDoor.Pz
theorem bareE_slash : ∀ (s : Str) (b : Bool) (r : Str), spaced r = true → bareE (slash b s ++ r) = (s, r)
  | [], b, [], _ => by rw [slash, List.nil_append, bareE]
  | [], b, c :: r, h => by
    have h : white c = true := h
    rw [slash, List.nil_append, bareE, if_pos h]
  | c :: t, b, r, h => by
    rw [slash]
    split
    · rename_i hc
      have hs : Slashy c := slashy (by
        rw [Bool.or_eq_true, Bool.and_eq_true, beq_iff_eq] at hc
        exact hc.imp id And.right)
      rw [List.cons_append, List.cons_append, bareE, if_neg (by decide), if_pos (by decide), unesc_slash hs, bareE_slash t false r h]
      rfl
    · rename_i hc
      have hc' : special c = false := by
        cases he : special c with
        | false => rfl
        | true => exact absurd (by rw [he]; rfl) hc
      have hp := plain_facts hc'
      rw [List.cons_append, bareE, if_neg (by rw [hp.1]; decide), if_neg (by simpa using hp.2.1), bareE_slash t false r h]
      rfl
theorem elemE_quote (s r : Str) (hr : spaced r = true) : (∃ e u, quote s = e :: u ∧ white e = false) ∧ elemE (quote s ++ r) = some (s, r) := by
  unfold quote
  split
  · rename_i h
    obtain rfl : s = [] := List.isEmpty_iff.1 h
    refine ⟨⟨123, [125], rfl, by decide⟩, ?_⟩
    show elemE (123 :: 125 :: r) = _
    rw [elemE, if_pos (by decide)]
    exact brace_bal r 0 [] (Nat.le_refl _) 0 rfl
  · rename_i h
    obtain ⟨c, t, rfl⟩ : ∃ c t, s = c :: t := by
      cases s with
      | nil => exact absurd rfl h
      | cons c t => exact ⟨c, t, rfl⟩
    split
    · rename_i hp
      have hq := quote_plain hp
      rw [plainW, Bool.and_eq_true, List.all_cons, Bool.and_eq_true] at hp
      have hc : special c = false := by simpa using hp.2.1
      have hf := plain_facts hc
      refine ⟨⟨c, t, rfl, hf.1⟩, ?_⟩
      have hb := bareE_slash (c :: t) true r hr
      rw [hq] at hb
      rw [List.cons_append, elemE, if_neg (by simpa using hf.2.2.2.2.1), if_neg (by simpa using hf.2.2.2.2.2.1), ← List.cons_append, hb]
    · rename_i hp
      split
      · rename_i hb
        refine ⟨⟨123, (c :: t) ++ [125], rfl, by decide⟩, ?_⟩
        rw [balanced, Bool.and_eq_true] at hb
        have h9 := brace_bal r _ (c :: t) (Nat.le_refl _) 0 hb.1
        rw [List.cons_append, List.append_assoc, elemE, if_pos (by decide)]
        exact h9
      · have hb := bareE_slash (c :: t) true r hr
        have hh : ∃ e u, slash true (c :: t) = e :: u ∧ white e = false ∧ e ≠ 123 ∧ e ≠ 34 := by
          rw [slash]
          split
          · exact ⟨92, _, rfl, by decide, by decide, by decide⟩
          · rename_i hc
            have hc' : special c = false := by
              cases he : special c with
              | false => rfl
              | true => exact absurd (by rw [he]; rfl) hc
            have hf := plain_facts hc'
            exact ⟨c, _, rfl, hf.1, hf.2.2.2.2.1, hf.2.2.2.2.2.1⟩
        obtain ⟨e, u, he, h1, h2, h3⟩ := hh
        refine ⟨⟨e, u, he, h1⟩, ?_⟩
        rw [he] at hb ⊢
        rw [List.cons_append, elemE, if_neg (by simpa using h2), if_neg (by simpa using h3), ← List.cons_append, hb]
theorem listE_quoted : ∀ (l : List Str), listE (quotedL l) = .inr l
  | [] => by rw [quotedL, listE]
  | [s] => by
    obtain ⟨⟨e, u, he, hw⟩, h⟩ := elemE_quote s [] rfl
    rw [List.append_nil] at h
    show listE (quote s) = _
    rw [he] at h ⊢
    rw [listE_cons hw, h]
    dsimp only
    rw [if_pos (show spaced [] = true from rfl), listE]
  | s :: s' :: l => by
    obtain ⟨⟨e, u, he, hw⟩, h⟩ := elemE_quote s (32 :: quotedL (s' :: l)) rfl
    rw [quotedL_two]
    rw [he] at h ⊢
    rw [List.cons_append] at h ⊢
    rw [listE_cons hw, h]
    dsimp only
    rw [if_pos (show spaced (32 :: quotedL (s' :: l)) = true from rfl), listE_white (by decide), listE_quoted (s' :: l)]
theorem splitE_quoted (l : List Str) (h : l.length ≤ 10000) : splitE (quotedL l) = (l, 0, 0) := by
  unfold splitE
  rw [listE_quoted]
  dsimp only
  rw [if_pos h]
end Go.Proofs.YtheiageokcgbhaaGreatDoor.Pz
/-
  Unescaped, plain: what is read of an element is its bytes unescaped.
-/
namespace Go.Proofs.YtheiageokcgbhaaGreatDoor.Pz
theorem suf_same {a r p : Str} (h : a ++ r = p ++ r) : a = p := List.append_cancel_right h
theorem suf_short {r x p : Str} (h : x <:+ r) (he : x = p ++ r) : p = [] ∧ x = r := by
  have h1 := h.length_le
  have h2 : p = [] := by
    rw [he, List.length_append] at h1
    exact List.length_eq_zero_iff.1 (by omega)
  subst h2
  exact ⟨rfl, he⟩
theorem digs_cut (b : Nat) : ∀ (n v : Nat) (a r p : Str), (digs b n v (a ++ r)).2 = p ++ r → digs b n v a = ((digs b n v (a ++ r)).1, p)
  | 0, v, a, r, p, h => by
    obtain rfl : a = p := suf_same h
    rfl
  | n + 1, v, [], [], p, h => by
    have : p = [] := by simpa [digs] using h.symm
    subst this
    rfl
  | n + 1, v, [], c :: t, p, h => by
    obtain ⟨rfl, h2⟩ := suf_short (digs_suf b (n + 1) v (c :: t)) h
    rw [List.nil_append] at h ⊢
    rw [digs] at h ⊢
    cases hd : digv b c with
    | none => rfl
    | some d =>
      rw [hd] at h
      dsimp only at h
      have := suf_len (digs_suf b n (v * b + d) t)
      rw [h] at this
      simp at this
      omega
  | n + 1, v, c :: a, r, p, h => by
    rw [List.cons_append] at h ⊢
    rw [digs] at h ⊢
    rw [digs]
    cases hd : digv b c with
    | none =>
      rw [hd] at h
      dsimp only at h ⊢
      have : c :: a = p := suf_same (r := r) (by simpa using h)
      rw [this]
    | some d =>
      rw [hd] at h
      dsimp only at h ⊢
      exact digs_cut b n _ a r p h
theorem blanks0_cut : ∀ (a r p : Str), blanks0 (a ++ r) = p ++ r → blanks0 a = p
  | [], [], p, h => by
    have : p = [] := by simpa [blanks0] using h.symm
    subst this
    rfl
  | [], c :: t, p, h => by
    obtain ⟨rfl, _⟩ := suf_short (blanks0_suf (c :: t)) h
    rfl
  | c :: a, r, p, h => by
    rw [List.cons_append, blanks0] at h
    rw [blanks0]
    split
    · rename_i hc
      rw [if_pos hc] at h
      exact blanks0_cut a r p h
    · rename_i hc
      rw [if_neg hc] at h
      exact suf_same (r := r) (by simpa using h)
theorem unesc1_cut (c : UInt8) (a r p : Str) (h : (unesc1 c (a ++ r)).2 = p ++ r) : unesc1 c a = ((unesc1 c (a ++ r)).1, p) := by
  unfold unesc1 at h ⊢
  cases hn : named1 c with
  | some x =>
    rw [hn] at h
    dsimp only at h ⊢
    rw [suf_same h]
  | none =>
    rw [hn] at h
    dsimp only at h ⊢
    by_cases h10 : (c == 10) = true
    · rw [if_pos h10] at h ⊢
      rw [if_pos h10, blanks0_cut a r p h]
    · rw [if_neg h10] at h ⊢
      rw [if_neg h10]
      by_cases h120 : (c == 120) = true
      · rw [if_pos h120] at h ⊢
        rw [if_pos h120]
        by_cases hl : (digs 16 2 0 (a ++ r)).2.length < (a ++ r).length
        · rw [if_pos hl] at h ⊢
          have hd := digs_cut 16 2 0 a r p h
          dsimp only at h
          rw [h] at hl
          rw [hd, if_pos (by simpa using hl)]
        · rw [if_neg hl] at h ⊢
          obtain rfl : a = p := suf_same h
          have hs := digs_suf 16 2 0 (a ++ r)
          have he : (digs 16 2 0 (a ++ r)).2 = a ++ r := hs.eq_of_length (by have := hs.length_le; omega)
          rw [digs_cut 16 2 0 a r a he, if_neg (by simp)]
      · rw [if_neg h120] at h ⊢
        rw [if_neg h120]
        by_cases hl : (digs 8 3 0 (c :: (a ++ r))).2.length < (c :: (a ++ r)).length
        · rw [if_pos hl] at h ⊢
          have hd := digs_cut 8 3 0 (c :: a) r p h
          rw [List.cons_append] at hd
          dsimp only at h
          rw [h] at hl
          rw [hd, if_pos (by simp at hl ⊢; omega)]
        · rw [if_neg hl] at h ⊢
          obtain rfl : a = p := suf_same h
          have hs := digs_suf 8 3 0 (c :: (a ++ r))
          have he : (digs 8 3 0 (c :: (a ++ r))).2 = c :: (a ++ r) := hs.eq_of_length (by have := hs.length_le; omega)
          have hd := digs_cut 8 3 0 (c :: a) r (c :: a) he
          rw [hd, if_neg (by simp)]
theorem unesc_cut (a r p : Str) (h : (unesc (a ++ r)).2 = p ++ r) : unesc a = ((unesc (a ++ r)).1, p) := by
  cases a with
  | nil =>
    cases r with
    | nil =>
      have : p = [] := by simpa [unesc] using h.symm
      subst this
      rfl
    | cons c t =>
      have h1 := suf_len (unesc1_suf c t)
      have h2 : (unesc1 c t).2 = p ++ c :: t := h
      rw [h2] at h1
      simp at h1
      omega
  | cons c a => exact unesc1_cut c a r p h
/-- all escaped bytes replaced -/
def unescAll : Str → Str
  | [] => []
  | c :: t => if c == 92 then (unesc t).1 ++ unescAll (unesc t).2 else c :: unescAll t
termination_by l => l.length
decreasing_by
  · have := suf_len (unesc_suf t)
    simp only [List.length_cons]
    omega
  · simp
theorem unescAll_cons (c : UInt8) (t : Str) : unescAll (c :: t) = if c == 92 then (unesc t).1 ++ unescAll (unesc t).2 else c :: unescAll t := by rw [unescAll]
theorem bareE_text : ∀ (n : Nat) (l : Str), l.length ≤ n → ∃ p, l = p ++ (bareE l).2 ∧ unescAll p = (bareE l).1
  | _, [], _ => ⟨[], by rw [bareE]; rfl, by rw [bareE, unescAll]⟩
  | 0, c :: t, hn => absurd hn (by simp)
  | n + 1, c :: t, hn => by
    have ht : t.length ≤ n := by simpa using hn
    rw [bareE]
    split
    · exact ⟨[], rfl, by rw [unescAll]⟩
    · split
      · rename_i h92
        have hu := suf_len (unesc_suf t)
        obtain ⟨p, h1, h2⟩ := bareE_text n (unesc t).2 (by omega)
        obtain ⟨q, hq⟩ := unesc_suf t
        refine ⟨c :: (q ++ p), ?_, ?_⟩
        · show c :: t = c :: (q ++ p) ++ (bareE (unesc t).2).2
          rw [List.cons_append, List.append_assoc, ← h1, hq]
        · have ht2 : q ++ p ++ (bareE (unesc t).2).2 = t := by rw [List.append_assoc, ← h1, hq]
          have hc := unesc_cut (q ++ p) (bareE (unesc t).2).2 p (by rw [ht2]; exact h1)
          rw [ht2] at hc
          rw [unescAll_cons, if_pos h92, hc, h2]
          rfl
      · rename_i h92
        obtain ⟨p, h1, h2⟩ := bareE_text n t ht
        refine ⟨c :: p, ?_, ?_⟩
        · show c :: t = c :: p ++ (bareE t).2
          rw [List.cons_append, ← h1]
        · rw [unescAll_cons, if_neg h92, h2]
          rfl
theorem quotedE_text : ∀ (n : Nat) (l : Str), l.length ≤ n → ∀ x r, quotedE l = some (x, r) → ∃ p, l = p ++ 34 :: r ∧ unescAll p = x
  | _, [], _, x, r, h => by rw [quotedE] at h; cases h
  | 0, c :: t, hn, _, _, _ => absurd hn (by simp)
  | n + 1, c :: t, hn, x, r, h => by
    have ht : t.length ≤ n := by simpa using hn
    rw [quotedE] at h
    split at h
    · rename_i h34
      simp only [Option.some.injEq, Prod.mk.injEq] at h
      obtain ⟨rfl, rfl⟩ := h
      exact ⟨[], by rw [beq_iff_eq.1 h34]; rfl, by rw [unescAll]⟩
    · split at h
      · rename_i h92
        obtain ⟨x', h', rfl⟩ := pre_some h
        have hu := suf_len (unesc_suf t)
        obtain ⟨p, h1, h2⟩ := quotedE_text n _ (by omega) _ _ h'
        obtain ⟨q, hq⟩ := unesc_suf t
        have ht2 : q ++ p ++ 34 :: r = t := by rw [List.append_assoc, ← h1, hq]
        refine ⟨c :: (q ++ p), ?_, ?_⟩
        · rw [List.cons_append, ht2]
        · have hc := unesc_cut (q ++ p) (34 :: r) p (by rw [ht2]; exact h1)
          rw [ht2] at hc
          rw [unescAll_cons, if_pos h92, hc, h2]
      · rename_i h92
        obtain ⟨x', h', rfl⟩ := pre_some h
        obtain ⟨p, h1, h2⟩ := quotedE_text n t ht _ _ h'
        exact ⟨c :: p, by rw [h1]; rfl, by rw [unescAll_cons, if_neg h92, h2]; rfl⟩
theorem unescAll_len : ∀ (n : Nat) (l : Str), l.length ≤ n → (∀ l, (unesc l).1.length = 1) → (unescAll l).length ≤ l.length
  | _, [], _, _ => by rw [unescAll]; simp
  | 0, c :: t, hn, _ => absurd hn (by simp)
  | n + 1, c :: t, hn, hu => by
    have ht : t.length ≤ n := by simpa using hn
    rw [unescAll_cons]
    split
    · have h1 := suf_len (unesc_suf t)
      have h2 := unescAll_len n (unesc t).2 (by omega) hu
      have h3 := hu t
      simp
      omega
    · have h2 := unescAll_len n t ht hu
      simp
      omega
end Go.Proofs.YtheiageokcgbhaaGreatDoor.Pz
/-
  Contracts of the library, laid at this program by the kit's shelf tools.
-/
namespace Go.Proofs.YtheiageokcgbhaaGreatDoor.Pz
open Go.Shelf
def Tryz.lays169_ren : Go.Shelf.Ren := ⟨fun | 169 => 68 | n => n, fun | 70 => 72 | 9 => 9 | 0 => 0 | 72 => 75 | 37 => 73 | 127 => 123 | 3 => 3 | 5 => 5 | n => n, fun | n => n⟩
theorem Tryz.lays169 : Go.Proofs.Lays.n169 Tryz.prog Tryz.lays169_ren := {
  mixed := by kernel_rfl
  f169 := Tryz.func68.trans (congrArg some (by kernel_rfl))
  t0 := Tryz.underlying0
  a0 := Tryz.isAgg0
  z0 := Tryz.sizeOf0
  v0 := Tryz.zeroValue0
  t3 := Tryz.underlying3
  a3 := Tryz.isAgg3
  z3 := Tryz.sizeOf3
  v3 := Tryz.zeroValue3
  t9 := Tryz.underlying9
  a9 := Tryz.isAgg9
  z9 := Tryz.sizeOf9
  v9 := Tryz.zeroValue9
  t37 := Tryz.underlying73
  a37 := Tryz.isAgg73
  z37 := Tryz.sizeOf73
  v37 := Tryz.zeroValue73
  t70 := Tryz.underlying72
  a70 := Tryz.isAgg72
  z70 := Tryz.sizeOf72
  v70 := Tryz.zeroValue72
  t72 := Tryz.underlying75
  a72 := Tryz.isAgg75
  z72 := Tryz.sizeOf75
  v72 := Tryz.zeroValue75
  t127 := Tryz.underlying123
  a127 := Tryz.isAgg123
  z127 := Tryz.sizeOf123
  v127 := Tryz.zeroValue123 }
theorem Tryz.Builder_Extra_169 : Builder.Extra Tryz.prog Tryz.lays169_ren := {
  sizeBuilder := by kernel_rfl
  liesBuilder := by kernel_rfl
  t5 := Tryz.underlying5
  a5 := Tryz.isAgg5
  z5 := Tryz.sizeOf5
  v5 := Tryz.zeroValue5
  infoByte := by kernel_rfl
  cellsByte := by kernel_rfl
  sizeByte := by kernel_rfl
  neB5 := by decide }
open Go.RowKit in
theorem Tryz.Builder_String_any_k (B b : Nat) (l : List UInt8) (w : World) (h : Lib.IsBuilderF 75 5 B b (Lib.byteCells l) w) (hBw : B ≤ w.heap.size) :
    Calls Tryz.prog 68 #[.pointer (some ⟨b, 0, none⟩)] w fun e w' => e = .returned (.string ⟨l.toArray⟩) ∧ (Lib.IsBuilderF 75 5 B b (Lib.byteCells l) w' ∧ Below B w w' ∧ Lib.OthersKept 5 (some b) w w') := Any.Builder_String_any_k Tryz.lays169 Tryz.Builder_Extra_169 B b l w h hBw
def Tryz.lays137_ren : Go.Shelf.Ren := ⟨fun | 137 => 117 | 217 => 158 | 266 => 181 | n => n, fun | 9 => 9 | 5 => 5 | 3 => 3 | n => n, fun | n => n⟩
theorem Tryz.lays137 : Go.Proofs.Lays.n137 Tryz.prog Tryz.lays137_ren := {
  mixed := by kernel_rfl
  f137 := Tryz.func117.trans (congrArg some (by kernel_rfl))
  f217 := Tryz.func158.trans (congrArg some (by kernel_rfl))
  f266 := Tryz.func181.trans (congrArg some (by kernel_rfl))
  t3 := Tryz.underlying3
  a3 := Tryz.isAgg3
  z3 := Tryz.sizeOf3
  v3 := Tryz.zeroValue3
  t5 := Tryz.underlying5
  a5 := Tryz.isAgg5
  z5 := Tryz.sizeOf5
  v5 := Tryz.zeroValue5
  t9 := Tryz.underlying9
  a9 := Tryz.isAgg9
  z9 := Tryz.sizeOf9
  v9 := Tryz.zeroValue9 }
open Go.RowKit in
theorem Tryz.strings_IndexByte (s : ByteArray) (c : Int) (w : World) :
    Calls Tryz.prog 117 #[.string s, .int .u8 c] w fun e w' => e = .returned (.int .i64 (Lib.indexByte s.data.toList c.toNat.toUInt8)) ∧ w' = w := Any.strings_IndexByte Tryz.lays137 s c w
end Go.Proofs.YtheiageokcgbhaaGreatDoor.Pz
/-
  The text package's small functions.
-/
namespace Go.Proofs.YtheiageokcgbhaaGreatDoor.Pz
open Go.RowKit
theorem hid {p : Prop} (h : p) : Hid p := h
theorem white_nat (c : UInt8) : white c = ((decide (9 ≤ c.toNat) && decide (c.toNat ≤ 13)) || decide (c.toNat = 32)) := by
  unfold white
  rw [Bool.eq_iff_iff]
  simp [UInt8.le_iff_toNat_le, ← UInt8.toNat_inj]
theorem white_fn (c : UInt8) (w : World) : Calls Tryz.prog 94 #[.int .u8 c.toNat] w fun e w' => e = .returned (.bool (white c)) ∧ w' = w := by
  have hW := hid (white_nat c)
  have hl : c.toNat < 256 := c.toNat_lt
  generalize white c = W at hW ⊢
  generalize c.toNat = x at hl hW ⊢
  go_enter Tryz.func94, Tryz.ntmps94
  by_cases h1 : 9 ≤ x
  · by_cases h2 : x ≤ 13
    · go_wp2
      go_ret
      exact ⟨by rw [hW.out, decide_eq_true h1, decide_eq_true h2]; rfl, rfl⟩
    · have h2' : ¬ (x : Int) ≤ 13 := by omega
      by_cases h3 : x = 32
      · subst h3
        go_wp2
        go_ret
        exact ⟨by rw [hW.out]; rfl, rfl⟩
      · have h4 : ((x : Int) == 32) = false := by simp; omega
        go_wp2
        go_ret
        refine ⟨?_, rfl⟩
        rw [hW.out, decide_eq_false h2, decide_eq_false h3]
        simp
  · go_wp2
    go_ret
    refine ⟨?_, rfl⟩
    rw [hW.out, decide_eq_false h1]
    have h3 : ¬ x = 32 := by omega
    have : ¬ (x : Int) = 32 := by omega
    simp [this, h3]
/-! 'digit' -/
def lower (c : UInt8) : UInt8 := if 65 ≤ c.toNat ∧ c.toNat ≤ 90 then c + 32 else c
def dig16 (c : UInt8) : Nat := match hexv c with | some v => v | none => 16
theorem hexv_nat (c : UInt8) : dig16 c = if 48 ≤ c.toNat ∧ c.toNat ≤ 57 then c.toNat - 48 else if 97 ≤ c.toNat ∧ c.toNat ≤ 102 then c.toNat - 87 else if 65 ≤ c.toNat ∧ c.toNat ≤ 70 then c.toNat - 55 else 16 := by
  unfold dig16 hexv
  simp only [Bool.and_eq_true, decide_eq_true_eq, UInt8.le_iff_toNat_le, UInt8.reduceToNat]
  by_cases h1 : 48 ≤ c.toNat ∧ c.toNat ≤ 57
  · rw [if_pos h1, if_pos h1]
  · rw [if_neg h1, if_neg h1]
    by_cases h2 : 97 ≤ c.toNat ∧ c.toNat ≤ 102
    · rw [if_pos h2, if_pos h2]
    · rw [if_neg h2, if_neg h2]
      by_cases h3 : 65 ≤ c.toNat ∧ c.toNat ≤ 70
      · rw [if_pos h3, if_pos h3]
      · rw [if_neg h3, if_neg h3]
theorem dig16_le (c : UInt8) : dig16 c ≤ 16 := by
  rw [hexv_nat]
  split
  · omega
  · split
    · omega
    · split <;> omega
theorem ret_i {k : IntKind} {a b : Int} (h : a = b) : Ending.returned (.int k a) = .returned (.int k b) := by rw [h]
theorem ret_ii {k k' : IntKind} {a b c d : Int} (h : a = b) (h' : c = d) : Ending.returned (.tuple #[.int k a, .int k' c]) = .returned (.tuple #[.int k b, .int k' d]) := by rw [h, h']
theorem ret_si {s s' : ByteArray} {k' : IntKind} {c d : Int} (h : s = s') (h' : c = d) : Ending.returned (.tuple #[.string s, .int k' c]) = .returned (.tuple #[.string s', .int k' d]) := by rw [h, h']
theorem ret_b {a b : Bool} (h : a = b) : Ending.returned (.bool a) = .returned (.bool b) := by rw [h]
theorem u8_wrap (n : Nat) (h : n < 256) : IntKind.u8.wrap (n : Int) = n := by
  have h1 : IntKind.u8.wrap (n : Int) = (n : Int) % 256 := by rfl
  rw [h1]; omega
theorem lower_fn (x r : Nat) (hl : x < 256) (hr : Hid (r = if 65 ≤ x ∧ x ≤ 90 then x + 32 else x)) (w : World) : Calls Tryz.prog 148 #[.int .u8 (x : Nat)] w fun e w' => e = .returned (.int .u8 (r : Nat)) ∧ w' = w := by
  go_enter Tryz.func148, Tryz.ntmps148
  by_cases h1 : 65 ≤ x
  · by_cases h2 : x ≤ 90
    · go_wp2
      go_ret
      exact ⟨ret_i (by rw [hr.out, if_pos ⟨h1, h2⟩]; omega), rfl⟩
    · have h2' : decide ((x : Int) ≤ 90) = false := by simp; omega
      go_wp2
      go_ret
      exact ⟨ret_i (by rw [hr.out, if_neg (by omega)]), rfl⟩
  · go_wp2
    go_ret
    exact ⟨ret_i (by rw [hr.out, if_neg (by omega)]), rfl⟩
theorem decimal_fn (x : Nat) (b : Bool) (hl : x < 256) (hb : Hid (b = (decide (48 ≤ x) && decide (x ≤ 57)))) (w : World) : Calls Tryz.prog 126 #[.int .u8 (x : Nat)] w fun e w' => e = .returned (.bool b) ∧ w' = w := by
  go_enter Tryz.func126, Tryz.ntmps126
  by_cases h1 : 48 ≤ x
  · by_cases h2 : x ≤ 57
    · go_wp2
      go_ret
      refine ⟨?_, rfl⟩
      rw [hb.out, decide_eq_true h1, decide_eq_true h2]
      simp; omega
    · have h2' : ¬ (x : Int) ≤ 57 := by omega
      go_wp2
      go_ret
      refine ⟨?_, rfl⟩
      rw [hb.out, decide_eq_false h2]
      simp
  · go_wp2
    go_ret
    refine ⟨?_, rfl⟩
    rw [hb.out, decide_eq_false h1]
    simp
theorem digit_fn (c : UInt8) (w : World) : Calls Tryz.prog 198 #[.int .u8 c.toNat] w fun e w' => e = .returned (.int .i64 (dig16 c : Nat)) ∧ w' = w := by
  have hW := hid (hexv_nat c)
  have hl : c.toNat < 256 := c.toNat_lt
  generalize dig16 c = W at hW ⊢
  generalize c.toNat = x at hl hW ⊢
  obtain ⟨y, hy⟩ : ∃ y, y = if 65 ≤ x ∧ x ≤ 90 then x + 32 else x := ⟨_, rfl⟩
  have hy2 : y < 256 := by rw [hy]; split <;> omega
  have hY := hid hy
  have h1 := hid (lower_fn x y hl hY w)
  obtain ⟨b, hb⟩ : ∃ b, b = (decide (48 ≤ y) && decide (y ≤ 57)) := ⟨_, rfl⟩
  have hB := hid hb
  have h2 := hid (decimal_fn y b hy2 hB w)
  clear hy hb
  go_enter Tryz.func198, Tryz.ntmps198
  go_wp2_with fail
  (with_reducible refine h1.out.mono ?_); rintro e w' ⟨rfl, rfl⟩
  go_wp2_with fail
  (with_reducible refine h2.out.mono ?_); rintro e w' ⟨rfl, rfl⟩
  cases b with
  | true =>
    have h5 := hB.out
    have h6 : 48 ≤ y ∧ y ≤ 57 := by simpa using h5.symm
    obtain ⟨h7, h8⟩ := h6
    clear h5
    have hz : IntKind.u8.wrap ((y : Int) - 48) = ((y - 48 : Nat) : Int) := by rw [← u8_wrap (y - 48) (by omega)]; congr 1; omega
    go_wp2
    go_ret
    exact ⟨ret_i (by rw [hW.out]; have := hY.out; split at this <;> (repeat' split) <;> omega), rfl⟩
  | false =>
    have h5 := hB.out
    have h6 : ¬ (48 ≤ y ∧ y ≤ 57) := by
      rintro ⟨q1, q2⟩
      rw [decide_eq_true q1, decide_eq_true q2] at h5
      cases h5
    clear h5
    by_cases h7 : 97 ≤ y
    · have hz : IntKind.u8.wrap ((y : Int) - 97) = ((y - 97 : Nat) : Int) := by rw [← u8_wrap (y - 97) (by omega)]; congr 1; omega
      by_cases h8 : y ≤ 102
      · go_wp2
        go_ret
        exact ⟨ret_i (by rw [hW.out]; have := hY.out; split at this <;> (repeat' split) <;> omega), rfl⟩
      · have h6' : decide ((y : Int) ≤ 102) = false := by simp; omega
        go_wp2
        go_ret
        exact ⟨ret_i (by rw [hW.out]; have := hY.out; split at this <;> (repeat' split) <;> omega), rfl⟩
    · go_wp2
      go_ret
      exact ⟨ret_i (by rw [hW.out]; have := hY.out; split at this <;> (repeat' split) <;> omega), rfl⟩
theorem digv_of (b : Nat) (hb : b ≤ 16) (c : UInt8) : digv b c = if dig16 c < b then some (dig16 c) else none := by
  unfold digv dig16
  cases hexv c with
  | none => simp; omega
  | some v => rfl
/-- the rounds of 'digits' -/
theorem digs_step (b n v : Nat) (hb : b ≤ 16) (c : UInt8) (t : Str) : digs b (n + 1) v (c :: t) = if dig16 c < b then digs b n (v * b + dig16 c) t else (v, c :: t) := by
  show (match digv b c with | some d => digs b n (v * b + d) t | none => (v, c :: t)) = _
  rw [digv_of b hb c]
  by_cases h : dig16 c < b
  · rw [if_pos h, if_pos h]
  · rw [if_neg h, if_neg h]
theorem digs_nil (b n v : Nat) : digs b n v [] = (v, []) := by cases n <;> rfl
set_option maxRecDepth 100000 in
set_option maxHeartbeats 2000000 in
theorem digits_fn (l : Str) (_hl : l.length ≤ 1000000000) (b m : Nat) (hb : b ≤ 16) (hm : m ≤ 3) (w : World) :
    Calls Tryz.prog 184 #[.string ⟨l.toArray⟩, .int .i64 (b : Nat), .int .i64 (m : Nat)] w fun e w' => e = .returned (.tuple #[.int .u8 (((digs b m 0 l).1 % 256 : Nat) : Int), .int .i64 ((l.length - (digs b m 0 l).2.length : Nat) : Int)]) ∧ w' = w := by
  have hsz : (⟨l.toArray⟩ : ByteArray).size = l.length := Lib.size_mk _
  obtain ⟨V, hV⟩ : ∃ V, V = (digs b m 0 l).1 % 256 := ⟨_, rfl⟩
  obtain ⟨N, hN⟩ : ∃ N, N = l.length - (digs b m 0 l).2.length := ⟨_, rfl⟩
  rw [← hV, ← hN]
  have HV := hid hV
  have HN := hid hN
  clear hV hN
  go_enter Tryz.func184, Tryz.ntmps184
  go_wp2
  go_loop [8, 9] (fun vv nv => ∃ v n : Nat, vv = .int .i64 v ∧ nv = .int .i64 n ∧ n ≤ m ∧ n ≤ l.length ∧ v < 16 ^ n ∧ digs b (m - n) v (l.drop n) = digs b m 0 l) (fun _ nv => m - (intOf nv).toNat)
  case atStart => exact ⟨0, 0, rfl, rfl, Nat.zero_le _, Nat.zero_le _, (by simp), rfl⟩
  case round =>
    obtain ⟨v, n, rfl, rfl, hnm, hnl, hv, hd⟩ := hrel
    have hD := hid hd
    have hV2 := hid hv
    have hv4 : v < 4096 := Nat.lt_of_lt_of_le hv (show 16 ^ n ≤ 16 ^ 3 from Nat.pow_le_pow_right (by decide) (by omega))
    clear hd hv
    by_cases hlt : n < m ∧ n < l.length
    · obtain ⟨h1, h2⟩ := hlt
      have hx : ∀ h, (⟨l.toArray⟩ : ByteArray)[n]'h = l[n]'h2 := fun h => rfl
      have hc := hid (digit_fn (l[n]'h2) w)
      have hle := dig16_le (l[n]'h2)
      have hdr : l.drop n = l[n]'h2 :: l.drop (n + 1) := List.drop_eq_getElem_cons h2
      have hE : digs b (m - n) v (l.drop n) = if dig16 (l[n]'h2) < b then digs b (m - (n + 1)) (v * b + dig16 (l[n]'h2)) (l.drop (n + 1)) else (v, l.drop n) := by
        rw [hdr, show m - n = (m - (n + 1)) + 1 by omega, digs_step b _ v hb]
      have HE := hid hE
      clear hE hdr
      generalize dig16 (l[n]'h2) = d at *
      have hmul : v * b ≤ v * 16 := Nat.mul_le_mul_left v hb
      have hmin : min (m : Int) (l.length : Int) = min m l.length := by omega
      by_cases hdb : d < b
      · have hpow : v * b + d < 16 ^ (n + 1) := by
          have := hV2.out
          rw [Nat.pow_succ]
          omega
        have HP := hid hpow
        clear hpow
        obtain ⟨vb, hvb⟩ : ∃ vb, vb = v * b := ⟨_, rfl⟩
        have hvbI : (v : Int) * (b : Int) = (vb : Int) := by rw [hvb]; simp
        rw [← hvb] at hmul HP HE
        clear hvb
        go_wp2_with (go_at_call 198; (with_reducible refine hc.out.mono ?_); rintro e w' ⟨rfl, rfl⟩)
        go_round
        case rel => exact ⟨vb + d, n + 1, by go_num, by go_num, by omega, by omega, HP.out, by rw [← hD.out, HE.out, if_pos hdb]⟩
        case measure => simp [intOf]; omega
      · have hres : digs b m 0 l = (v, l.drop n) := by rw [← hD.out, HE.out, if_neg hdb]
        have hV3 := HV.out
        have hN3 := HN.out
        rw [hres] at hV3 hN3
        have HV3 := hid hV3
        have HN3 := hid hN3
        clear hV3 hN3 hres
        have hvw : IntKind.u8.wrap (v : Int) = ((v % 256 : Nat) : Int) := by show (v : Int) % 256 = _; omega
        go_wp2_with (go_at_call 198; (with_reducible refine hc.out.mono ?_); rintro e w' ⟨rfl, rfl⟩)
        go_ret2
        exact ⟨ret_ii (by rw [HV3.out]; omega) (by rw [HN3.out, List.length_drop]; omega), rfl⟩
    · have hres : digs b m 0 l = (v, l.drop n) := by
        rw [← hD.out]
        rcases Nat.lt_or_ge n m with h | h
        · have : l.length ≤ n := by omega
          rw [List.drop_eq_nil_of_le this, digs_nil]
        · rw [show m - n = 0 by omega]; rfl
      have hV3 := HV.out
      have hN3 := HN.out
      rw [hres] at hV3 hN3
      have HV3 := hid hV3
      have HN3 := hid hN3
      clear hV3 hN3 hres
      have hvw : IntKind.u8.wrap (v : Int) = ((v % 256 : Nat) : Int) := by show (v : Int) % 256 = _; omega
      have hmin : min (m : Int) (l.length : Int) = n := by omega
      go_wp2
      go_ret2
      exact ⟨ret_ii (by rw [HV3.out]; omega) (by rw [HN3.out, List.length_drop]; omega), rfl⟩
/-! 'Unescape' -/
theorem byte_ne {d k : UInt8} (n : Int) (h : d ≠ k) (hn : n = (k.toNat : Int)) : ((d.toNat : Int) == n) = false := by
  subst hn
  rw [beq_eq_false_iff_ne]
  intro e
  exact h (UInt8.toNat_inj.1 (by omega))
theorem byte_ne' {d k : UInt8} (n : Int) (h : d ≠ k) (hn : n = (k.toNat : Int)) : ((d.toNat : Int) != n) = true := by
  rw [bne, byte_ne n h hn]
  rfl
theorem blanks0_cons (c : UInt8) (t : Str) : blanks0 (c :: t) = if c == 32 || c == 9 then blanks0 t else c :: t := rfl
theorem named1_idx : ∀ (c : UInt8), Lib.indexByte [97, 98, 116, 110, 118, 102, 114] c = match named1 c with | some x => ((x.toNat : Int) - 7) | none => -1 := by
  intro c
  unfold named1
  by_cases h1 : c = 97
  · subst h1; rfl
  by_cases h2 : c = 98
  · subst h2; rfl
  by_cases h3 : c = 116
  · subst h3; rfl
  by_cases h4 : c = 110
  · subst h4; rfl
  by_cases h5 : c = 118
  · subst h5; rfl
  by_cases h6 : c = 102
  · subst h6; rfl
  by_cases h7 : c = 114
  · subst h7; rfl
  have e : ∀ x : UInt8, ¬ c = x → (x == c) = false := fun x h => by simpa using fun h' => h h'.symm
  have e' : ∀ x : UInt8, ¬ c = x → (c == x) = false := fun x h => by simpa using h
  simp [Lib.indexByte, e _ h1, e _ h2, e _ h3, e _ h4, e _ h5, e _ h6, e _ h7, e' _ h1, e' _ h2, e' _ h3, e' _ h4, e' _ h5, e' _ h6, e' _ h7]
theorem named1_le {c x : UInt8} (h : named1 c = some x) : 7 ≤ x.toNat ∧ x.toNat ≤ 13 := by
  unfold named1 at h
  repeat' split at h
  all_goals first
    | (simp only [Option.some.injEq] at h; subst h; decide)
    | cases h
theorem one_back (b : UInt8) (w : World) : (convert 73 9 (.slice (some ⟨w.heap.size, 0, none⟩) 1 1)).run Tryz.prog (w.alloc (.cells #[.int .u8 b.toNat] 5)) = .ok (.string ⟨[b].toArray⟩) (w.alloc (.cells #[.int .u8 b.toNat] 5)) := by
  refine run_convert_bytes_back (P := Tryz.prog) _ 73 9 5 ⟨w.heap.size, 0, none⟩ 1 [b] Tryz.underlying73 Tryz.underlying5 Tryz.underlying9 ?_
  intro j hj
  match j, hj with
  | 0, _ => exact World.cell?_alloc_mark w #[.int .u8 b.toNat] 5 (0, 0) 0
set_option maxRecDepth 100000 in
set_option maxHeartbeats 2000000 in
theorem unescape_fn (t : Str) (ht : t.length ≤ 1000000) (w : World) :
    Calls Tryz.prog 166 #[.string ⟨(92 :: t).toArray⟩] w fun e w' => e = .returned (.tuple #[.string ⟨(unesc t).1.toArray⟩, .int .i64 (((t.length + 1 - (unesc t).2.length : Nat) : Nat) : Int)]) ∧ Below w.heap.size w w' := by
  cases t with
  | nil =>
    have hsz : (⟨[(92 : UInt8)].toArray⟩ : ByteArray).size = 1 := rfl
    have hx : ∀ h, (⟨[(92 : UInt8)].toArray⟩ : ByteArray)[0]'h = 92 := fun h => rfl
    go_enter Tryz.func166, Tryz.ntmps166
    go_wp2
    go_ret2
    exact ⟨rfl, Below.refl _ _⟩
  | cons c t =>
    have hsz : (⟨(92 :: c :: t).toArray⟩ : ByteArray).size = t.length + 2 := by rw [Lib.size_mk]; simp
    have hx : ∀ h, (⟨(92 :: c :: t).toArray⟩ : ByteArray)[0]'h = 92 := fun h => rfl
    have hx1 : ∀ h, (⟨(92 :: c :: t).toArray⟩ : ByteArray)[1]'h = c := fun h => rfl
    have hs2 : (⟨(92 :: c :: t).toArray⟩ : ByteArray).extract 2 (t.length + 2) = ⟨t.toArray⟩ := by rw [Lib.extract_mk]; simp
    have hs1 : (⟨(92 :: c :: t).toArray⟩ : ByteArray).extract 1 (t.length + 2) = ⟨(c :: t).toArray⟩ := by rw [Lib.extract_mk]; simp
    have hs12 : (⟨(92 :: c :: t).toArray⟩ : ByteArray).extract 1 2 = ⟨[c].toArray⟩ := by rw [Lib.extract_mk]; simp
    have ht' : t.length ≤ 999999 := by simpa using ht
    have hc256 := c.toNat_lt
    obtain ⟨I, hI⟩ : ∃ I, I = Lib.indexByte [97, 98, 116, 110, 118, 102, 114] c := ⟨_, rfl⟩
    have hc : Calls Tryz.prog 117 #[.string ⟨#[97, 98, 116, 110, 118, 102, 114]⟩, .int .u8 c.toNat] w fun e w' => e = .returned (.int .i64 I) ∧ w' = w := by
      have h := Tryz.strings_IndexByte ⟨#[97, 98, 116, 110, 118, 102, 114]⟩ (c.toNat : Int) w
      have e1 : ((c.toNat : Int)).toNat.toUInt8 = c := by simp
      rw [e1] at h
      rw [hI]
      exact h
    have hC := hid hc
    rw [named1_idx] at hI
    clear hc ht
    show Calls _ _ _ _ fun e w' => e = .returned (.tuple #[.string ⟨(unesc1 c t).1.toArray⟩, .int .i64 (((t.length + 1 + 1 - (unesc1 c t).2.length : Nat) : Nat) : Int)]) ∧ Below w.heap.size w w'
    obtain ⟨r, hr⟩ : ∃ r, r = unesc1 c t := ⟨_, rfl⟩
    rw [← hr]
    unfold unesc1 at hr
    cases hn : named1 c with
    | some x =>
      rw [hn] at hI hr
      dsimp only at hI hr
      subst hr
      obtain ⟨q1, q2⟩ := named1_le hn
      have hw : IntKind.u8.wrap (x.toNat : Int) = x.toNat := u8_wrap _ x.toNat_lt
      have hw2 : (7 : Int) + ((x.toNat : Int) - 7) = x.toNat := by omega
      have hcv := fun w => one_back x w
      subst hI
      clear hn
      go_enter Tryz.func166, Tryz.ntmps166
      go_wp2_with fail
      (with_reducible refine hC.out.mono ?_); rintro e w' ⟨rfl, rfl⟩
      go_wp2
      go_ret2
      exact ⟨ret_si rfl (by omega), (Below.refl _ _).alloc (Nat.le_refl _) _⟩
    | none =>
      rw [hn] at hI hr
      dsimp only at hI hr
      subst hI
      clear hn
      obtain ⟨v8, hv8⟩ : ∃ v8, v8 = digs 8 3 0 (c :: t) := ⟨_, rfl⟩
      have h8 : Calls Tryz.prog 184 #[.string ⟨(c :: t).toArray⟩, .int .i64 8, .int .i64 3] w fun e w' => e = .returned (.tuple #[.int .u8 ((UInt8.ofNat v8.1).toNat : Int), .int .i64 (((t.length + 1 - v8.2.length : Nat) : Nat) : Int)]) ∧ w' = w := by
        have h := digits_fn (c :: t) (by simp; omega) 8 3 (by decide) (by decide) w
        rw [← hv8] at h
        rw [UInt8.toNat_ofNat']
        exact h
      have hl8 := (digs_suf 8 3 0 (c :: t)).length_le
      rw [← hv8] at hl8 hr
      simp only [List.length_cons] at hl8
      by_cases h10 : c = 10
      · subst h10
        replace hC : Hid (Calls Tryz.prog 117 #[.string ⟨#[97, 98, 116, 110, 118, 102, 114]⟩, .int .u8 10] w fun e w' => e = .returned (.int .i64 (-1)) ∧ w' = w) := hC
        have hv8' : v8 = (0, 10 :: t) := by rw [hv8]; rfl
        rw [if_pos (by decide)] at hr
        subst hv8'
        subst hr
        clear hv8
        have H8 := hid h8
        clear h8 hl8
        go_enter Tryz.func166, Tryz.ntmps166
        go_wp2_with fail
        (with_reducible refine hC.out.mono ?_); rintro e w' ⟨rfl, rfl⟩
        go_wp2_with fail
        (with_reducible refine H8.out.mono ?_); rintro e w' ⟨rfl, rfl⟩
        go_wp2
        go_loop [9] (fun nv => ∃ n : Nat, nv = .int .i64 n ∧ 2 ≤ n ∧ n ≤ t.length + 2 ∧ blanks0 (t.drop (n - 2)) = blanks0 t) (fun nv => t.length + 2 - (intOf nv).toNat)
        case atStart => exact ⟨2, rfl, by omega, by omega, rfl⟩
        case round =>
          obtain ⟨n, rfl, hn2, hnl, hb⟩ := hrel
          have hB := hid hb
          clear hb
          by_cases hlt : n < t.length + 2
          · have hlt2 : n - 2 < t.length := by omega
            have hx : ∀ h, (⟨(92 :: 10 :: t).toArray⟩ : ByteArray)[n]'h = t[n - 2]'hlt2 := by
              intro h
              show (92 :: 10 :: t)[n]'_ = _
              obtain ⟨k, rfl⟩ : ∃ k, n = k + 2 := ⟨n - 2, by omega⟩
              rfl
            have hdr : t.drop (n - 2) = t[n - 2]'hlt2 :: t.drop (n + 1 - 2) := by
              rw [show n + 1 - 2 = (n - 2) + 1 by omega]
              exact List.drop_eq_getElem_cons hlt2
            have hB2 := hB.out
            rw [hdr, blanks0_cons] at hB2
            have HB2 := hid hB2
            have HD := hid hdr
            clear hB2 hdr
            generalize t[n - 2]'hlt2 = d at *
            by_cases hd : d = 32
            · subst hd
              go_wp2
              go_round
              case rel => exact ⟨n + 1, by go_num, by omega, by omega, by rw [← HB2.out]; rfl⟩
              case measure => simp [intOf]; omega
            · have e1 := byte_ne 32 hd rfl
              by_cases hd9 : d = 9
              · subst hd9
                go_wp2
                go_round
                case rel => exact ⟨n + 1, by go_num, by omega, by omega, by rw [← HB2.out]; rfl⟩
                case measure => simp [intOf]; omega
              · have e2 := byte_ne 9 hd9 rfl
                have hres : blanks0 t = t.drop (n - 2) := by
                  rw [HD.out, ← HB2.out, if_neg (by simp [hd, hd9])]
                have HR := hid hres
                clear hres
                go_wp2
                go_ret2
                exact ⟨ret_si rfl (by rw [HR.out, List.length_drop]; omega), Below.refl _ _⟩
          · have hres : blanks0 t = [] := by
              rw [← hB.out, List.drop_eq_nil_of_le (by omega)]; rfl
            have HR := hid hres
            clear hres
            go_wp2
            go_ret2
            exact ⟨ret_si rfl (by rw [HR.out]; simp; omega), Below.refl _ _⟩
      · rw [if_neg (by simpa using h10)] at hr
        have n10 := byte_ne 10 h10 rfl
        by_cases h120 : c = 120
        · subst h120
          replace hC : Hid (Calls Tryz.prog 117 #[.string ⟨#[97, 98, 116, 110, 118, 102, 114]⟩, .int .u8 120] w fun e w' => e = .returned (.int .i64 (-1)) ∧ w' = w) := hC
          rw [if_pos (by decide)] at hr
          have hv8' : v8 = (0, 120 :: t) := by rw [hv8]; rfl
          subst hv8'
          clear hv8 hl8
          obtain ⟨v6, hv6⟩ : ∃ v6, v6 = digs 16 2 0 t := ⟨_, rfl⟩
          have h6 : Calls Tryz.prog 184 #[.string ⟨t.toArray⟩, .int .i64 16, .int .i64 2] w fun e w' => e = .returned (.tuple #[.int .u8 ((UInt8.ofNat v6.1).toNat : Int), .int .i64 (((t.length - v6.2.length : Nat) : Nat) : Int)]) ∧ w' = w := by
            have h := digits_fn t (by omega) 16 2 (by decide) (by decide) w
            rw [← hv6] at h
            rw [UInt8.toNat_ofNat']
            exact h
          have hl6 := (digs_suf 16 2 0 t).length_le
          rw [← hv6] at hl6 hr
          have H8 := hid h8
          have H6 := hid h6
          clear h8 h6 hv6
          obtain ⟨v61, v62⟩ := v6
          dsimp only at *
          generalize UInt8.ofNat v61 = b at *
          obtain ⟨k, hk⟩ : ∃ k, k = t.length - v62.length := ⟨_, rfl⟩
          rw [← hk] at H6
          have hcv := fun w => one_back b w
          by_cases hlt : v62.length < t.length
          · rw [if_pos hlt] at hr
            subst hr
            have hk0 : 0 < k := by omega
            have HK := hid hk
            clear hk
            have hkl : k ≤ t.length := by rw [HK.out]; omega
            go_enter Tryz.func166, Tryz.ntmps166
            go_wp2_with fail
            (with_reducible refine hC.out.mono ?_); rintro e w' ⟨rfl, rfl⟩
            go_wp2_with fail
            (with_reducible refine H6.out.mono ?_); rintro e w' ⟨rfl, rfl⟩
            go_wp2
            go_ret2
            exact ⟨ret_si rfl (by have := HK.out; omega), (Below.refl _ _).alloc (Nat.le_refl _) _⟩
          · rw [if_neg hlt] at hr
            subst hr
            obtain rfl : k = 0 := by omega
            clear hk
            go_enter Tryz.func166, Tryz.ntmps166
            go_wp2_with fail
            (with_reducible refine hC.out.mono ?_); rintro e w' ⟨rfl, rfl⟩
            go_wp2_with fail
            (with_reducible refine H6.out.mono ?_); rintro e w' ⟨rfl, rfl⟩
            go_wp2_with fail
            (with_reducible refine H8.out.mono ?_); rintro e w' ⟨rfl, rfl⟩
            go_wp2
            go_ret2
            exact ⟨ret_si rfl (by omega), Below.refl _ _⟩
        · have n120 := byte_ne 120 h120 rfl
          rw [if_neg (by simpa using h120)] at hr
          clear hv8
          obtain ⟨v81, v82⟩ := v8
          dsimp only at *
          have H8 := hid h8
          clear h8
          generalize UInt8.ofNat v81 = b at *
          obtain ⟨k, hk⟩ : ∃ k, k = t.length + 1 - v82.length := ⟨_, rfl⟩
          rw [← hk] at H8
          have hcv := fun w => one_back b w
          by_cases hlt : v82.length < t.length + 1
          · rw [if_pos (by simpa using hlt)] at hr
            subst hr
            have hk0 : 0 < k := by omega
            have HK := hid hk
            clear hk
            have hkl : k ≤ t.length + 1 := by rw [HK.out]; omega
            go_enter Tryz.func166, Tryz.ntmps166
            go_wp2_with fail
            (with_reducible refine hC.out.mono ?_); rintro e w' ⟨rfl, rfl⟩
            go_wp2_with fail
            (with_reducible refine H8.out.mono ?_); rintro e w' ⟨rfl, rfl⟩
            go_wp2
            go_ret2
            exact ⟨ret_si rfl (by have := HK.out; omega), (Below.refl _ _).alloc (Nat.le_refl _) _⟩
          · rw [if_neg (by simpa using hlt)] at hr
            subst hr
            obtain rfl : k = 0 := by omega
            clear hk
            go_enter Tryz.func166, Tryz.ntmps166
            go_wp2_with fail
            (with_reducible refine hC.out.mono ?_); rintro e w' ⟨rfl, rfl⟩
            go_wp2_with fail
            (with_reducible refine H8.out.mono ?_); rintro e w' ⟨rfl, rfl⟩
            go_wp2
            go_ret2
            exact ⟨ret_si rfl (by omega), Below.refl _ _⟩
end Go.Proofs.YtheiageokcgbhaaGreatDoor.Pz
/-
  strings.Builder: what its methods do to one that this program has made.
-/
namespace Go.Proofs.YtheiageokcgbhaaGreatDoor.Pz
open Go.RowKit
/-- a builder in block b that holds l -/
def Bld (w : World) (b : Nat) (l : Str) : Prop := Lib.IsBuilderF 75 5 b b (Lib.byteCells l) w
/-- what stands behind a step of the builder in block b: all that lies below it, and every other block that is no row of bytes -/
def Kept (b : Nat) (w w' : World) : Prop := Below b w w' ∧ Lib.OthersKept 5 (some b) w w'
theorem Kept.refl (b : Nat) (w : World) : Kept b w w := ⟨Below.refl _ _, Lib.OthersKept.refl _ _ _⟩
theorem Kept.trans {b : Nat} {x y z : World} (h : Kept b x y) (k : Kept b y z) : Kept b x z := ⟨h.1.trans k.1, h.2.trans k.2⟩
theorem Bld.at {w : World} {b : Nat} {l : Str} (h : Bld w b l) : ∃ p, (p = .pointer none ∨ p = .pointer (some ⟨b, 0, none⟩)) ∧ Lib.BuilderAtF 75 5 b b p (Lib.byteCells l) w := by
  rcases h with h | h
  · exact ⟨_, .inl rfl, h⟩
  · exact ⟨_, .inr rfl, h⟩
theorem Bld.lt {w : World} {b : Nat} {l : Str} (h : Bld w b l) : b < w.heap.size := by
  obtain ⟨p, _, h⟩ := h.at
  exact h.lt
theorem Bld.new (w : World) : Bld (w.alloc (.cells #[.pointer none, .slice none 0 0] 75)) w.heap.size [] := Lib.IsBuilderF.of (Lib.fresh_isBuilder 75 5 w)
theorem Bld.of {w w' : World} {b : Nat} {l : Str} (h : Bld w b l) (hk : ∀ k, b ≤ k → k < w.heap.size → w'.heap[k]? = w.heap[k]?) : Bld w' b l := by
  have go : ∀ p, Lib.BuilderAtF 75 5 b b p (Lib.byteCells l) w → Lib.BuilderAtF 75 5 b b p (Lib.byteCells l) w' := by
    intro p h
    have hlt := h.lt
    obtain ⟨hB, v, hb, hown, hne⟩ := h
    refine ⟨hB, v, (hk b (Nat.le_refl _) hlt).trans hb, ⟨hown.1, ?_⟩, hne⟩
    rcases hown.2 with hn | ⟨g, cap, cur, fz, hv, hbg, hg, rest⟩
    · exact .inl hn
    · exact .inr ⟨g, cap, cur, fz, hv, hbg, (hk g hbg (Array.getElem?_eq_some_iff.1 hg).1).trans hg, rest⟩
  exact h.elim (fun x => .inl (go _ x)) (fun x => .inr (go _ x))
theorem Tryz.infoB : (Tryz.prog.info? 75).map (·.size) = some 2 := by kernel_rfl
theorem Tryz.liesB : liesAt Tryz.prog Tryz.prog.depth 75 (2 / Tryz.prog.cellsOf 75) 0 75 1 = true := by kernel_rfl
theorem Tryz.info5 : (Tryz.prog.info? 5).map (fun i => (i.zero, i.size, i.bytes)) = some (some (.int .u8 0), 1, 1) := by kernel_rfl
set_option maxRecDepth 100000 in
set_option maxHeartbeats 1000000 in
theorem copyCheck_fn {w : World} {b : Nat} {l : Str} (h : Bld w b l) :
    Calls Tryz.prog 119 #[.pointer (some ⟨b, 0, none⟩)] w fun e w' => e = .returned (.tuple #[]) ∧ Lib.BuilderAtF 75 5 b b (.pointer (some ⟨b, 0, none⟩)) (Lib.byteCells l) w' ∧ Kept b w w' := by
  obtain ⟨j, hj, hjs⟩ := Option.map_eq_some_iff.1 Tryz.infoB
  rcases h with h | h
  · have h0 := h.cell0
    have hsh := h.shape
    have hfz := h.frozen0
    have H := hid h
    clear h
    go_enter Tryz.func119, Tryz.ntmps119
    go_wp2
    rw [Lib.run_to_unsafe w ⟨b, 0, none⟩ Tryz.underlying72 Tryz.underlying148 hj (by rw [hjs]; decide) hsh (Nat.zero_lt_succ 1)]
    simp only [Result.andThen]
    rw [Oper.upon_value]
    go_wp2
    rw [run_callFunc_extern Tryz.func160 (by kernel_rfl) (by kernel_rfl) (by kernel_rfl) (e := Extern.AbiNoEscape.same) (by kernel_rfl)]
    rw [Lib.run_noEscape]
    simp only [Result.andThen]
    rw [Oper.upon_value]
    go_wp2
    rw [Lib.run_from_unsafe w ⟨b, 0, none⟩ Tryz.underlying148 Tryz.underlying72 hj hsh Tryz.liesB]
    simp only [Result.andThen]
    rw [Oper.upon_value]
    go_wp2
    go_end0
    exact ⟨rfl, H.out.used _, (Below.refl b w).setCell (p := ⟨b, 0, none⟩) (Nat.le_refl _) _, (Lib.OthersKept.refl _ _ w).setCell ⟨b, 0, none⟩ rfl _⟩
  · have h0 := h.cell0
    have H := hid h
    clear h
    go_enter Tryz.func119, Tryz.ntmps119
    go_wp2
    rw [Lib.run_neq_ptr_same w _ Tryz.underlying72 hj]
    go_wp2
    go_end0
    exact ⟨rfl, H.out, Kept.refl _ _⟩
theorem len_fn {w : World} {b : Nat} {l : Str} (h : Bld w b l) :
    Calls Tryz.prog 73 #[.pointer (some ⟨b, 0, none⟩)] w fun e w' => e = .returned (.int .i64 (l.length : Nat)) ∧ w' = w := by
  obtain ⟨p, _, hB, v, hbk, hown, hne⟩ := h.at
  rw [Lib.byteCells_length] at hown
  obtain ⟨ao, cap, rfl⟩ : ∃ ao cap, v = .slice ao l.length cap := by
    rcases hown.2 with ⟨hv, h0⟩ | ⟨g, cap, cur, fz, hv, _⟩
    · exact ⟨none, 0, by rw [hv, h0]⟩
    · exact ⟨_, _, hv⟩
  have c1 : w.cell? ⟨b, 1, none⟩ = some (.slice ao l.length cap) := by rw [Lib.cell_of_heap hbk]; rfl
  clear hown hne hbk
  go_enter Tryz.func73, Tryz.ntmps73
  go_wp2
  go_ret
  exact ⟨rfl, rfl⟩
set_option maxRecDepth 100000 in
set_option maxHeartbeats 2000000 in
theorem wbyte_fn {w : World} {b : Nat} {l : Str} (h : Bld w b l) (c : UInt8) (hl : l.length ≤ 1000000000) :
    Calls Tryz.prog 67 #[.pointer (some ⟨b, 0, none⟩), .int .u8 c.toNat] w fun e w' => e = .returned .nilIface ∧ Bld w' b (l ++ [c]) ∧ Kept b w w' := by
  obtain ⟨i0, hi, hz0, hz1, hz2⟩ := info_parts Tryz.info5
  have hc := hid (copyCheck_fn h)
  have hwb := h.lt
  have hcell : Lib.byteCells (l ++ [c]) = Lib.byteCells l ++ [.int .u8 c.toNat] := by simp [Lib.byteCells]
  have HC := hid hcell
  clear h hcell
  generalize hx : (c.toNat : Int) = x at *
  clear hx
  go_enter Tryz.func67, Tryz.ntmps67
  go_wp2_with fail
  (with_reducible refine hc.out.mono ?_)
  rintro e w1 ⟨rfl, ⟨hB, v, hbk, hown, hne⟩, hb1, hk1⟩
  rw [Lib.byteCells_length] at hown
  have c0 : w1.cell? ⟨b, 0, none⟩ = some (.pointer (some ⟨b, 0, none⟩)) := by rw [Lib.cell_of_heap hbk]; rfl
  have c1 : w1.cell? ⟨b, 1, none⟩ = some v := by rw [Lib.cell_of_heap hbk]; rfl
  go_wp2_with (at_builtin; refine wpList_append_ownF _ rfl _ _ 73 rfl b 5 i0 (.int .u8 0) 1 1 Tryz.underlying73 hi hz0 hz1 hz2 rfl (by decide) _ _ _ rfl (hown.alloc _) ⟨w1.heap.size, 0, none⟩ 1 1 [.int .u8 x] rfl rfl ?c1 ?c2 ?c3 ?c4 ?c5 ?_)
  case c1 =>
    intro j u hj
    match j, hj with
    | 0, hj => simp at hj; subst hj; simp [Addr.add]
  case c2 => intro u hu; simp at hu; subst hu; rfl
  case c3 => unfold maxLen; omega
  case c4 => omega
  case c5 => have := hb1.size; simp; omega
  intro v' w2 hown' hgrow _
  have hlt : b < w1.heap.size := by have := hb1.size; omega
  have hb2 : w2.heap[b]? = some (.cells #[.pointer (some ⟨b, 0, none⟩), v] 75 (0, 0)) := by
    rw [hgrow.block b (by simp; omega) (fun e => hne e.symm), Lib.alloc_old w1 _ b hlt]
    exact hbk
  have d0 : w2.cell? ⟨b, 0, none⟩ = some (.pointer (some ⟨b, 0, none⟩)) := by rw [Lib.cell_of_heap hb2]; rfl
  have d1 : w2.cell? ⟨b, 1, none⟩ = some v := by rw [Lib.cell_of_heap hb2]; rfl
  have f1 : w2.frozen? ⟨b, 1, none⟩ = false := Lib.frozen_of_heap hb2 1
  obtain ⟨g, cap, rfl⟩ : ∃ g cap, v' = .slice (some ⟨g, 0, none⟩) (l.length + 1) cap := by
    rcases hown'.2 with ⟨_, h0⟩ | ⟨g, cap, cur, fz, hv, _⟩
    · omega
    · exact ⟨g, cap, hv⟩
  go_wp2
  go_ret
  refine ⟨rfl, ?_, ?_, ((hk1.alloc _).grown hgrow (Lib.ownsRowF_kind (hown.alloc _))).setCell ⟨b, 1, none⟩ rfl _⟩
  · refine .inr ?_
    rw [HC.out]
    exact Lib.BuilderAtF.put (T := 75) (e := 5) hB hb2 (bs' := Lib.byteCells l ++ [.int .u8 x]) (by simpa [Lib.byteCells_length] using hown') (by decide)
  · exact ((hb1.alloc (by have := hb1.size; omega) _).grown hgrow (by have := hb1.size; simp; omega) (fun k hk => (hown.lt k hk).1)).setCell (p := ⟨b, 1, none⟩) hB _
set_option maxRecDepth 100000 in
set_option maxHeartbeats 2000000 in
theorem wstr_fn {w : World} {b : Nat} {l : Str} (h : Bld w b l) (x : Str) (hl : l.length + x.length ≤ 1000000000) :
    Calls Tryz.prog 72 #[.pointer (some ⟨b, 0, none⟩), .string ⟨x.toArray⟩] w fun e w' => e = .returned (.tuple #[.int .i64 (x.length : Nat), .nilIface]) ∧ Bld w' b (l ++ x) ∧ Kept b w w' := by
  obtain ⟨i0, hi, hz0, hz1, hz2⟩ := info_parts Tryz.info5
  have hc := hid (copyCheck_fn h)
  have hwb := h.lt
  have hsz : (⟨x.toArray⟩ : ByteArray).size = x.length := Lib.size_mk _
  clear h
  go_enter Tryz.func72, Tryz.ntmps72
  go_wp2_with fail
  (with_reducible refine hc.out.mono ?_)
  rintro e w1 ⟨rfl, ⟨hB, v, hbk, hown, hne⟩, hb1, hk1⟩
  rw [Lib.byteCells_length] at hown
  have c0 : w1.cell? ⟨b, 0, none⟩ = some (.pointer (some ⟨b, 0, none⟩)) := by rw [Lib.cell_of_heap hbk]; rfl
  have c1 : w1.cell? ⟨b, 1, none⟩ = some v := by rw [Lib.cell_of_heap hbk]; rfl
  go_wp2_with (at_builtin; refine Lib.wpList_append_own_stringF _ rfl _ _ 73 9 rfl b 5 i0 Tryz.underlying73 Tryz.underlying9 hi hz0 hz1 hz2 _ _ _ rfl hown ⟨x.toArray⟩ rfl ?c3 ?c4 ?c5 ?_)
  case c3 => unfold maxLen; omega
  case c4 => omega
  case c5 => have := hb1.size; omega
  intro v' w2 hown' hgrow _
  have hlt : b < w1.heap.size := by have := hb1.size; omega
  have hb2 : w2.heap[b]? = some (.cells #[.pointer (some ⟨b, 0, none⟩), v] 75 (0, 0)) := by
    rw [hgrow.block b hlt (fun e => hne e.symm)]
    exact hbk
  have d0 : w2.cell? ⟨b, 0, none⟩ = some (.pointer (some ⟨b, 0, none⟩)) := by rw [Lib.cell_of_heap hb2]; rfl
  have d1 : w2.cell? ⟨b, 1, none⟩ = some v := by rw [Lib.cell_of_heap hb2]; rfl
  have f1 : w2.frozen? ⟨b, 1, none⟩ = false := Lib.frozen_of_heap hb2 1
  obtain ⟨ao, n', cap, rfl⟩ : ∃ ao n' cap, v' = .slice ao n' cap := by
    rcases hown'.2 with ⟨hv, _⟩ | ⟨g, cap, cur, fz, hv, _⟩
    · exact ⟨_, _, _, hv⟩
    · exact ⟨_, _, _, hv⟩
  go_wp2
  go_ret2
  refine ⟨rfl, ?_, ?_, (hk1.grown hgrow (Lib.ownsRowF_kind hown)).setCell ⟨b, 1, none⟩ rfl _⟩
  · refine .inr ?_
    rw [Lib.byteCells_append]
    refine Lib.BuilderAtF.put (T := 75) (e := 5) hB hb2 (bs' := Lib.byteCells l ++ Lib.byteCells x) ?_ (by decide)
    rw [List.length_append, Lib.byteCells_length, Lib.byteCells_length]
    exact hown'
  · exact (hb1.grown hgrow (by have := hb1.size; omega) (fun k hk => (hown.lt k hk).1)).setCell (p := ⟨b, 1, none⟩) hB _
theorem str_fn {w : World} {b : Nat} {l : Str} (h : Bld w b l) :
    Calls Tryz.prog 68 #[.pointer (some ⟨b, 0, none⟩)] w fun e w' => e = .returned (.string ⟨l.toArray⟩) ∧ Bld w' b l ∧ Kept b w w' :=
  (Tryz.Builder_String_any_k b b l w h (Nat.le_of_lt h.lt)).mono fun _ _ ⟨a, b, c, d⟩ => ⟨a, b, c, d⟩
end Go.Proofs.YtheiageokcgbhaaGreatDoor.Pz
/-
  (Of Rd6: what lists need.)
-/
namespace Go.Proofs.YtheiageokcgbhaaGreatDoor.Pz
open Go.RowKit
theorem At.byte {s t : Str} {c : UInt8} {i : Nat} (h : At s (c :: t) i) : ∀ h', (⟨s.toArray⟩ : ByteArray)[i]'h' = c := by
  intro h'
  have h1 := h.head
  have h2 := h.lt
  rw [List.getElem?_eq_getElem h2] at h1
  exact Option.some.inj h1
theorem Bld.below {w w' : World} {b : Nat} {l : Str} (h : Bld w b l) (hb : Below w.heap.size w w') : Bld w' b l := h.of fun k _ hk => hb.block k hk
end Go.Proofs.YtheiageokcgbhaaGreatDoor.Pz
/-
  list: how elements are read.
-/
namespace Go.Proofs.YtheiageokcgbhaaGreatDoor.Pz
open Go.RowKit
theorem pre_pre (p q : Str) (o : Option (Str × Str)) : pre p (pre q o) = pre (p ++ q) o := by
  cases o with
  | none => rfl
  | some x => simp [pre]
theorem pre_nil (o : Option (Str × Str)) : pre [] o = o := by
  cases o with
  | none => rfl
  | some x => rfl
theorem brace_cons (D : Nat) (c : UInt8) (l' : Str) : brace D (c :: l') = if c == 92 then (match l' with | [] => none | e :: t' => pre [c, e] (brace D t')) else if c == 123 then pre [c] (brace (D + 1) l') else if c == 125 then (match D with | 0 => some ([], l') | d + 1 => pre [c] (brace d l')) else pre [c] (brace D l') := by
  rw [brace.eq_def]
  rfl
def kindOf (c : UInt8) : Nat := if c == 123 then 1 else if c == 34 then 2 else 0
theorem kind_fn (c : UInt8) (w : World) : Calls Tryz.prog 95 #[.int .u8 (c.toNat : Nat)] w fun e w' => e = .returned (.int .i64 (kindOf c : Nat)) ∧ w' = w := by
  by_cases h1 : c = 123
  · subst h1
    go_enter Tryz.func95, Tryz.ntmps95
    go_wp2
    go_ret
    exact ⟨rfl, rfl⟩
  · have n1 := byte_ne 123 h1 rfl
    by_cases h2 : c = 34
    · subst h2
      go_enter Tryz.func95, Tryz.ntmps95
      go_wp2
      go_ret
      exact ⟨rfl, rfl⟩
    · have n2 := byte_ne 34 h2 rfl
      have hk : kindOf c = 0 := by unfold kindOf; rw [if_neg (by simpa using h1), if_neg (by simpa using h2)]
      go_enter Tryz.func95, Tryz.ntmps95
      go_wp2
      go_ret
      exact ⟨by rw [hk]; rfl, rfl⟩
theorem Tryz.infoR : (Tryz.prog.info? 95).map (·.size) = some 3 := by kernel_rfl
theorem readers_fn (w : World) : Calls Tryz.prog 92 #[] w fun e w' => e = .returned (.agg #[.func (.func 131) #[] #[], .func (.func 132) #[] #[], .func (.func 133) #[] #[]]) ∧ Below w.heap.size w w' := by
  go_enter Tryz.func92, Tryz.ntmps92
  go_wp2
  refine bodyPost_ret (results_cell_row rfl _ _ w.heap.size _ _ (0, 0) _ rfl (heap_alloc_new _ _) Tryz.underlying95 rfl Tryz.infoR) rfl ?_
  exact ⟨rfl, (Below.refl _ _).alloc (Nat.le_refl _) _⟩
/-- what a reader answers about a text -/
def readAns (n : Nat) : Option (Str × Str) → Value
  | none => .tuple #[.string ⟨#[]⟩, .int .i64 0, .bool false]
  | some (x, r) => .tuple #[.string ⟨x.toArray⟩, .int .i64 ((n - r.length : Nat) : Int), .bool true]
set_option maxRecDepth 100000 in
set_option maxHeartbeats 1000000 in
theorem readBraced_fn (t : Str) (ht : t.length ≤ 1000000) (w : World) : Calls Tryz.prog 132 #[.string ⟨(123 :: t).toArray⟩] w fun e w' => e = .returned (readAns (t.length + 1) (brace 0 t)) ∧ w' = w := by
  obtain ⟨s, hs⟩ : ∃ s : Str, s = 123 :: t := ⟨_, rfl⟩
  have hat : At s (123 :: t) 0 := by rw [hs]; exact At.start _
  have hsl : s.length = t.length + 1 := by rw [hs]; rfl
  rw [← hs]
  have hsz : (⟨s.toArray⟩ : ByteArray).size = s.length := Lib.size_mk _
  obtain ⟨o, ho⟩ : ∃ o, o = brace 0 t := ⟨_, rfl⟩
  rw [← ho]
  have HO := hid ho
  have HAT := hid hat
  have HS := hid hs
  clear ho hat hs
  go_enter Tryz.func132, Tryz.ntmps132
  go_wp2_with fail
  go_loopg [5, 6] (t.length + 1) (fun k dv iv wr => ∃ i : Nat, iv = .int .i64 (i : Nat) ∧ wr = w ∧ ((dv = .int .i64 0 ∧ i = 0 ∧ k = t.length + 1) ∨
    (∃ (D : Nat) (p l' : Str), dv = .int .i64 ((D + 1 : Nat) : Int) ∧ D + 1 + l'.length ≤ 1000001 ∧ t = p ++ l' ∧ i = 1 + p.length ∧ k = l'.length ∧ o = pre p (brace D l')) ∨ ((∃ D : Int, dv = .int .i64 D) ∧ s.length ≤ i ∧ i ≤ s.length + 1 ∧ o = none ∧ k = 0)))
  case atStart => exact ⟨0, rfl, rfl, .inl ⟨rfl, rfl, rfl⟩⟩
  case round =>
    obtain ⟨i, rfl, rfl, hcase⟩ := hrel
    rcases hcase with ⟨rfl, rfl, rfl⟩ | ⟨D, p, l', rfl, hD, ht', hi', rfl, ho⟩ | ⟨⟨D, rfl⟩, hge, hle, ho, rfl⟩
    · have hlt := HAT.out.lt
      have hx := HAT.out.byte
      go_wp2
      go_roundg t.length
      case measure => omega
      case rel => exact ⟨1, rfl, rfl, .inr (.inl ⟨0, [], t, rfl, by omega, rfl, rfl, rfl, by rw [pre_nil]; exact HO.out⟩)⟩
    · have ha : At s l' i := by
        have h1 := HAT.out.tail
        rw [ht'] at h1
        have h2 := h1.app
        rw [show i = 0 + 1 + p.length by omega]
        exact h2
      have hlen := ha.len
      have HT := hid ht'
      have HI := hid hi'
      have HP := hid ho
      clear ht' ho
      cases l' with
      | nil =>
        have hge : s.length = i := by simpa using hlen.symm
        have HN : Hid (o = none) := hid (by rw [HP.out]; rfl)
        clear hi'
        go_wp2
        refine bodyPost_ret (v := readAns (t.length + 1) none) (by simp [readAns, results, Tryz.results132, go_sem]) rfl ?_
        exact ⟨by rw [HN.out], rfl⟩
      | cons c l' =>
        have hlt := ha.lt
        have hx := ha.byte
        have hB := brace_cons D c l'
        rw [hB] at HP
        clear hB
        simp only [List.length_cons] at hD hlen
        by_cases h92 : c = 92
        · subst h92
          clear hi'
          cases l' with
          | nil =>
            go_wp2
            go_roundg 0
            case measure => first | omega | simp
            case rel => exact ⟨i + 1 + 1, by go_num, rfl, .inr (.inr ⟨⟨_, rfl⟩, by simp at hlen; omega, by simp at hlen; omega, by rw [HP.out]; rfl, rfl⟩)⟩
          | cons e t' =>
            go_wp2
            go_roundg t'.length
            case measure => first | omega | simp
            case rel => exact ⟨i + 1 + 1, by go_num, rfl, .inr (.inl ⟨D, p ++ [92, e], t', rfl, by simp at hD; omega, by rw [HT.out]; simp, by rw [HI.out]; simp; omega, rfl, by rw [HP.out, if_pos (by decide)]; exact pre_pre _ _ _⟩)⟩
        have n92 := byte_ne 92 h92 rfl
        have hP2 := HP.out
        rw [if_neg (by simpa using h92)] at hP2
        have HP2 := hid hP2
        clear hP2 HP
        by_cases h123 : c = 123
        · subst h123
          clear hi' h92
          go_wp2
          go_roundg l'.length
          case measure => first | omega | simp
          case rel => exact ⟨i + 1, by go_num, rfl, .inr (.inl ⟨D + 1, p ++ [123], l', by go_num, by omega, by rw [HT.out]; simp, by rw [HI.out]; simp; omega, rfl, by rw [HP2.out, if_pos (by decide)]; exact pre_pre _ _ _⟩)⟩
        have n123 := byte_ne 123 h123 rfl
        have hP3 := HP2.out
        rw [if_neg (by simpa using h123)] at hP3
        have HP3 := hid hP3
        clear hP3 HP2
        by_cases h125 : c = 125
        · subst h125
          clear h92 h123
          cases D with
          | zero =>
            have hO : o = some (p, l') := by rw [HP3.out, if_pos (by decide)]; simp [pre]
            have hsl2 : (⟨s.toArray⟩ : ByteArray).extract 1 i = ⟨p.toArray⟩ := by
              have h1 := HAT.out.tail
              rw [HT.out] at h1
              have h2 := At.text h1
              rw [HI.out]
              simpa using h2
            have hri : i + 1 = t.length + 1 - l'.length := by rw [HT.out, HI.out]; simp; omega
            have HRI := hid hri
            have HO2 := hid hO
            have hi1 : (1 : Int) ≤ (i : Int) := by omega
            clear hri hO hi'
            go_wp2
            refine bodyPost_ret (v := readAns (t.length + 1) (some (p, l'))) (by rw [readAns, ← HRI.out]; simp [results, Tryz.results132, go_sem]) rfl ?_
            exact ⟨by rw [HO2.out], rfl⟩
          | succ d =>
            clear hi'
            go_wp2
            go_roundg l'.length
            case measure => first | omega | simp
            case rel => exact ⟨i + 1, by go_num, rfl, .inr (.inl ⟨d, p ++ [125], l', by go_num, by omega, by rw [HT.out]; simp, by rw [HI.out]; simp; omega, rfl, by rw [HP3.out, if_pos (by decide)]; exact pre_pre _ _ _⟩)⟩
        have n125 := byte_ne 125 h125 rfl
        have hP4 := HP3.out
        rw [if_neg (by simpa using h125)] at hP4
        have HP4 := hid hP4
        clear hP4 HP3 hi' h92 h123 h125
        go_wp2
        go_roundg l'.length
        case measure => first | omega | simp
        case rel => exact ⟨i + 1, by go_num, rfl, .inr (.inl ⟨D, p ++ [c], l', rfl, by omega, by rw [HT.out]; simp, by rw [HI.out]; simp; omega, rfl, by rw [HP4.out]; exact pre_pre _ _ _⟩)⟩
    · go_wp2
      refine bodyPost_ret (v := readAns (t.length + 1) none) (by simp [readAns, results, Tryz.results132, go_sem]) rfl ?_
      exact ⟨by rw [ho], rfl⟩
end Go.Proofs.YtheiageokcgbhaaGreatDoor.Pz
/-
  list: readQuoted, readBare.
-/
namespace Go.Proofs.YtheiageokcgbhaaGreatDoor.Pz
open Go.RowKit
theorem unesc_len (l : Str) : (unesc l).1.length = 1 := by
  cases l with
  | nil => rfl
  | cons c t =>
    show (unesc1 c t).1.length = 1
    unfold unesc1
    split
    · rfl
    · split
      · rfl
      · split
        · split <;> rfl
        · split <;> rfl
theorem belowA (w : World) (o : Obj) : Below w.heap.size w (w.alloc o) := (Below.refl _ _).alloc (Nat.le_refl _) _
theorem quotedE_cons (c : UInt8) (t : Str) : quotedE (c :: t) = if c == 34 then some ([], t) else if c == 92 then pre (unesc t).1 (quotedE (unesc t).2) else pre [c] (quotedE t) := by rw [quotedE]
theorem bareE_cons (c : UInt8) (t : Str) : bareE (c :: t) = if white c then ([], c :: t) else if c == 92 then preP (unesc t).1 (bareE (unesc t).2) else preP [c] (bareE t) := by rw [bareE]
set_option maxRecDepth 100000 in
set_option maxHeartbeats 2000000 in
theorem readQuoted_fn (t : Str) (ht : t.length ≤ 1000000) (w : World) : Calls Tryz.prog 133 #[.string ⟨(34 :: t).toArray⟩] w fun e w' => e = .returned (readAns (t.length + 1) (quotedE t)) ∧ Below w.heap.size w w' := by
  obtain ⟨s, hs⟩ : ∃ s : Str, s = 34 :: t := ⟨_, rfl⟩
  have hat : At s (34 :: t) 0 := by rw [hs]; exact At.start _
  have hsl : s.length = t.length + 1 := by rw [hs]; rfl
  rw [← hs]
  have hsz : (⟨s.toArray⟩ : ByteArray).size = s.length := Lib.size_mk _
  obtain ⟨o, ho⟩ : ∃ o, o = quotedE t := ⟨_, rfl⟩
  rw [← ho]
  have HO := hid ho
  have HAT := hid hat.tail
  have hB0 := Bld.new w
  have hbl0 := belowA w (.cells #[.pointer none, .slice none 0 0] 75)
  have HB0 := hid hB0
  have HBL0 := hid hbl0
  clear ho hat hs hB0 hbl0
  go_enter Tryz.func133, Tryz.ntmps133
  go_wp2_with fail
  go_loopg [6] t.length (fun k iv wr => ∃ (i : Nat) (done l : Str), iv = .int .i64 (i : Nat) ∧ At s l i ∧ 1 ≤ i ∧ Bld wr w.heap.size done ∧ Below w.heap.size w wr ∧ k = l.length ∧ done.length + l.length ≤ t.length ∧ o = pre done (quotedE l))
  case atStart => exact ⟨1, [], t, rfl, HAT.out, Nat.le_refl _, HB0.out, HBL0.out, rfl, by simp, by rw [pre_nil]; exact HO.out⟩
  case round =>
    obtain ⟨i, done, l, rfl, ha, h1, hB, hbl, rfl, hdl, ho⟩ := hrel
    have hlen := ha.len
    have hsz1 := hbl.size
    cases l with
    | nil =>
      have hge : i = s.length := by simpa using hlen
      have HN : Hid (o = none) := hid (by rw [ho, quotedE]; rfl)
      subst hge
      clear ho hB
      go_wp2
      refine bodyPost_ret (v := readAns (t.length + 1) none) (by simp [readAns, results, Tryz.results133, go_sem]) rfl ?_
      exact ⟨by rw [HN.out], hbl⟩
    | cons c l =>
      have hlt := ha.lt
      have hx := ha.byte
      rw [quotedE_cons] at ho
      simp only [List.length_cons] at hdl hlen
      by_cases h34 : c = 34
      · subst h34
        rw [if_pos (by decide)] at ho
        have hO : o = some (done, l) := by rw [ho]; simp [pre]
        have hst := hid (str_fn hB)
        have hri : i + 1 = t.length + 1 - l.length := by omega
        have HRI := hid hri
        have HO2 := hid hO
        clear ho hO hri hB
        go_wp2_with fail
        (with_reducible refine hst.out.mono ?_); rintro e w1 ⟨rfl, _, hk1⟩
        have HB1 := hid (hbl.trans hk1.1)
        clear hk1
        go_wp2
        refine bodyPost_ret (v := readAns (t.length + 1) (some (done, l))) (by rw [readAns, ← HRI.out]; simp [results, Tryz.results133, go_sem]) rfl ?_
        exact ⟨by rw [HO2.out], HB1.out⟩
      have n34 := byte_ne 34 h34 rfl
      rw [if_neg (by simpa using h34)] at ho
      by_cases h92 : c = 92
      · subst h92
        rw [if_pos (by decide)] at ho
        have hu := suf_len (unesc_suf l)
        have hul := unesc_len l
        have hex : (⟨s.toArray⟩ : ByteArray).extract i s.length = ⟨(92 :: l).toArray⟩ := At.all ha
        rw [hsl] at hex
        have HU := hid (unescape_fn l (by omega) wr)
        have HS := hid (unesc_suf l)
        obtain ⟨q, r, hqr⟩ : ∃ q r, unesc l = (q, r) := ⟨_, _, rfl⟩
        rw [hqr] at HU ho hu hul HS
        dsimp only at HU ho hu hul HS
        have HP := hid ho
        have HB := hid hB
        have HA := hid ha
        clear ho h34 hqr hB
        have HEX := hid hex
        clear hex
        go_wp2_with fail
        rw [HEX.out]
        (with_reducible refine HU.out.mono ?_); rintro e w1 ⟨rfl, hb1⟩
        have hc := hid (wstr_fn (HB.out.below hb1) q (by omega))
        have HL1 := hid (hbl.trans (hb1.mono hsz1))
        clear hb1
        go_wp2_with fail
        (with_reducible refine hc.out.mono ?_); rintro e w2 ⟨rfl, hB2, hk2⟩
        have HB2 := hid hB2
        have HL2 := hid (HL1.out.trans hk2.1)
        clear hB2 hk2
        go_wp2
        go_roundg r.length
        case measure => simp only [List.length_cons]; omega
        case rel => exact ⟨i + (l.length + 1 - r.length), done ++ q, r, by go_num, by have h9 := HA.out.tail.suf HS.out; rw [show i + (l.length + 1 - r.length) = s.length - r.length by omega]; exact h9, by omega, HB2.out, HL2.out, rfl, by rw [List.length_append]; omega, by rw [HP.out]; exact pre_pre _ _ _⟩
      · have n92 := byte_ne 92 h92 rfl
        rw [if_neg (by simpa using h92)] at ho
        have hc := hid (wbyte_fn hB c (by omega))
        have HP := hid ho
        have HA := hid ha
        clear ho h34 h92 hB
        go_wp2_with fail
        (with_reducible refine hc.out.mono ?_); rintro e w1 ⟨rfl, hB1, hk1⟩
        have HB1 := hid hB1
        have HL1 := hid (hbl.trans hk1.1)
        clear hB1 hk1
        go_wp2
        go_roundg l.length
        case measure => first | omega | simp
        case rel => exact ⟨i + 1, done ++ [c], l, by go_num, HA.out.tail, by omega, HB1.out, HL1.out, rfl, by rw [List.length_append]; simp; omega, by rw [HP.out]; exact pre_pre _ _ _⟩
set_option maxRecDepth 100000 in
set_option maxHeartbeats 2000000 in
theorem readBare_fn (s : Str) (hs : s.length ≤ 1000000) (w : World) : Calls Tryz.prog 131 #[.string ⟨s.toArray⟩] w fun e w' => e = .returned (readAns s.length (some (bareE s))) ∧ Below w.heap.size w w' := by
  have hsz : (⟨s.toArray⟩ : ByteArray).size = s.length := Lib.size_mk _
  obtain ⟨o, ho⟩ : ∃ o, o = bareE s := ⟨_, rfl⟩
  rw [← ho]
  have HO := hid ho
  have hB0 := Bld.new w
  have hbl0 := belowA w (.cells #[.pointer none, .slice none 0 0] 75)
  have HB0 := hid hB0
  have HBL0 := hid hbl0
  clear ho hB0 hbl0
  go_enter Tryz.func131, Tryz.ntmps131
  go_wp2_with fail
  go_loopg [6] s.length (fun k iv wr => ∃ (i : Nat) (done l : Str), iv = .int .i64 (i : Nat) ∧ At s l i ∧ Bld wr w.heap.size done ∧ Below w.heap.size w wr ∧ k = l.length ∧ done.length + l.length ≤ s.length ∧ o = preP done (bareE l))
  case atStart => exact ⟨0, [], s, rfl, At.start s, HB0.out, HBL0.out, rfl, by simp, HO.out⟩
  case round =>
    obtain ⟨i, done, l, rfl, ha, hB, hbl, rfl, hdl, ho⟩ := hrel
    have hlen := ha.len
    have hsz1 := hbl.size
    cases l with
    | nil =>
      have hge : i = s.length := by simpa using hlen
      have hO : o = (done, []) := by rw [ho, bareE]; simp [preP]
      have hst := hid (str_fn hB)
      have HO2 := hid hO
      subst hge
      clear ho hB hO
      go_wp2_with fail
      (with_reducible refine hst.out.mono ?_); rintro e w1 ⟨rfl, _, hk1⟩
      have HB1 := hid (hbl.trans hk1.1)
      clear hk1
      go_wp2
      refine bodyPost_ret (v := readAns s.length (some (done, []))) (by simp [readAns, results, Tryz.results131, go_sem]) rfl ?_
      exact ⟨by rw [HO2.out], HB1.out⟩
    | cons c l =>
      have hlt := ha.lt
      have hx := ha.byte
      rw [bareE_cons] at ho
      simp only [List.length_cons] at hdl hlen
      have hwf := hid (white_fn c wr)
      cases hw : white c with
      | true =>
        rw [hw] at hwf ho
        rw [if_pos rfl] at ho
        have hO : o = (done, c :: l) := by rw [ho]; simp [preP]
        have hst := hid (str_fn hB)
        have hri : i = s.length - (c :: l).length := by simp only [List.length_cons]; omega
        have HRI := hid hri
        have HO2 := hid hO
        clear ho hO hri hB hw
        go_wp2_with fail
        (with_reducible refine hwf.out.mono ?_); rintro e w1 ⟨rfl, rfl⟩
        go_wp2_with fail
        (with_reducible refine hst.out.mono ?_); rintro e w1 ⟨rfl, _, hk1⟩
        have HB1 := hid (hbl.trans hk1.1)
        clear hk1
        go_wp2
        refine bodyPost_ret (v := readAns s.length (some (done, c :: l))) (by rw [readAns, ← HRI.out]; simp [results, Tryz.results131, go_sem]) rfl ?_
        exact ⟨by rw [HO2.out], HB1.out⟩
      | false =>
        rw [hw] at hwf ho
        rw [if_neg (by simp)] at ho
        clear hw
        by_cases h92 : c = 92
        · subst h92
          rw [if_pos (by decide)] at ho
          replace hwf := hid (show Calls Tryz.prog 94 #[.int .u8 92] wr _ from hwf.out)
          have hu := suf_len (unesc_suf l)
          have hul := unesc_len l
          have hex : (⟨s.toArray⟩ : ByteArray).extract i s.length = ⟨(92 :: l).toArray⟩ := At.all ha
          have HU := hid (unescape_fn l (by omega) wr)
          have HS := hid (unesc_suf l)
          obtain ⟨q, r, hqr⟩ : ∃ q r, unesc l = (q, r) := ⟨_, _, rfl⟩
          rw [hqr] at HU ho hu hul HS
          dsimp only at HU ho hu hul HS
          have HP := hid ho
          have HB := hid hB
          have HA := hid ha
          have HEX := hid hex
          clear ho hqr hB hex
          go_wp2_with fail
          (with_reducible refine hwf.out.mono ?_); rintro e w0 ⟨rfl, rfl⟩
          go_wp2_with fail
          rw [HEX.out]
          (with_reducible refine HU.out.mono ?_); rintro e w1 ⟨rfl, hb1⟩
          have hc := hid (wstr_fn (HB.out.below hb1) q (by omega))
          have HL1 := hid (hbl.trans (hb1.mono hsz1))
          clear hb1
          go_wp2_with fail
          (with_reducible refine hc.out.mono ?_); rintro e w2 ⟨rfl, hB2, hk2⟩
          have HB2 := hid hB2
          have HL2 := hid (HL1.out.trans hk2.1)
          clear hB2 hk2
          go_wp2
          go_roundg r.length
          case measure => simp only [List.length_cons]; omega
          case rel => exact ⟨i + (l.length + 1 - r.length), done ++ q, r, by go_num, by have h9 := HA.out.tail.suf HS.out; rw [show i + (l.length + 1 - r.length) = s.length - r.length by omega]; exact h9, HB2.out, HL2.out, rfl, by rw [List.length_append]; omega, by rw [HP.out]; simp [preP, List.append_assoc]⟩
        · have n92 := byte_ne 92 h92 rfl
          rw [if_neg (by simpa using h92)] at ho
          have hc := hid (wbyte_fn hB c (by omega))
          have HP := hid ho
          have HA := hid ha
          clear ho h92 hB
          go_wp2_with fail
          (with_reducible refine hwf.out.mono ?_); rintro e w0 ⟨rfl, rfl⟩
          go_wp2_with fail
          (with_reducible refine hc.out.mono ?_); rintro e w1 ⟨rfl, hB1, hk1⟩
          have HB1 := hid hB1
          have HL1 := hid (hbl.trans hk1.1)
          clear hB1 hk1
          go_wp2
          go_roundg l.length
          case measure => first | omega | simp
          case rel => exact ⟨i + 1, done ++ [c], l, by go_num, HA.out.tail, HB1.out, HL1.out, rfl, by rw [List.length_append]; simp; omega, by rw [HP.out]; simp [preP, List.append_assoc]⟩
end Go.Proofs.YtheiageokcgbhaaGreatDoor.Pz
/-
  A region that draws its order: loads may be taken first although the region's last operations write the cells that they read: the condition on the world is asked only as long as loads are waited for.
-/
namespace Go.Proofs.YtheiageokcgbhaaGreatDoor.Pz
open Go.RowKit
section
variable {P : Program} {ops : Array Oper} {Q : Exit → Act → World → Prop} {md : Region.Mode} {S : World → Prop} {late : Nat → Bool}
/-- whatever order is picked; behind each operation that is not late, S holds -/
def anyU (P : Program) (md : Region.Mode) (ops : Array Oper) (Q : Exit → Act → World → Prop) (late : Nat → Bool) (S : World → Prop) : Nat → Array Bool → Act → World → Prop
  | 0, listed, a, w => Region.ready md ops listed = [] ∧ Q .normal a w
  | fuel + 1, listed, a, w => (Region.ready md ops listed = [] → Q .normal a w) ∧
      ∀ i ∈ Region.ready md ops listed, wpOp P ops Q i (fun b u => (late i = true ∨ S u) ∧ anyU P md ops Q late S fuel (listed.setIfInBounds i true) b u) a w
theorem any_of_U : ∀ (fuel : Nat) (listed : Array Bool) (a : Act) (w : World), anyU P md ops Q late S fuel listed a w → wpAny P md ops Q fuel listed a w
  | 0, _, _, _, h => h
  | fuel + 1, _, _, _, h => ⟨h.1, fun i hi => wpOp_mono (fun b u k => any_of_U fuel _ b u k.2) (h.2 i hi)⟩
theorem unlisted_of_ready {i : Nat} {listed : Array Bool} (h : i ∈ Region.ready md ops listed) : listed.getD i false = false := by
  have h0 := (mem_ready.1 h).1
  by_cases hlt : i < listed.size
  · simp [hlt] at h0 ⊢; exact h0
  · simp [Array.getElem?_eq_none (Nat.le_of_not_lt hlt)]
/-- what is listed has all that it waits for listed -/
def Closed (md : Region.Mode) (ops : Array Oper) (listed : Array Bool) : Prop := ∀ j oj, ops[j]? = some oj → listed.getD j false = true → ∀ e ∈ oj.after, Region.binds md e = true → listed.getD e.on false = true
theorem Closed.add {j : Nat} {listed : Array Bool} (h : Closed md ops listed) (hj : j ∈ Region.ready md ops listed) : Closed md ops (listed.setIfInBounds j true) := by
  obtain ⟨_, oj, hoj, hall⟩ := mem_ready.1 hj
  intro k ok hk hl e he hb
  apply getD_set_true
  rcases Nat.decEq j k with hjk | rfl
  · rw [getD_set_ne false hjk] at hl
    exact h k ok hk hl e he hb
  · have := Option.some.inj (hoj.symm.trans hk)
    subst this
    exact hall e he hb
/-- number j waits for number i, by one step or two -/
def waitsB (md : Region.Mode) (ops : Array Oper) (j i : Nat) : Bool :=
  ((ops[j]?).map fun o => o.after.any fun e => Region.binds md e && (e.on == i || ((ops[e.on]?).map fun o' => o'.after.any fun e' => Region.binds md e' && e'.on == i).getD false)).getD false
theorem waitsB_listed {i j : Nat} {listed : Array Bool} (h : waitsB md ops j i = true) (hc : Closed md ops listed) (hj : j ∈ Region.ready md ops listed) : listed.getD i false = true := by
  obtain ⟨_, oj, hoj, hall⟩ := mem_ready.1 hj
  unfold waitsB at h
  rw [hoj] at h
  have h2 : (oj.after.any fun e => Region.binds md e && (e.on == i || ((ops[e.on]?).map fun o' => o'.after.any fun e' => Region.binds md e' && e'.on == i).getD false)) = true := h
  obtain ⟨e, he, hb⟩ := Array.any_eq_true'.1 h2
  simp only [Bool.and_eq_true, Bool.or_eq_true, beq_iff_eq] at hb
  rcases hb.2 with h3 | h3
  · rw [← h3]; exact hall e he hb.1
  · cases ho : ops[e.on]? with
    | none => rw [ho] at h3; cases h3
    | some o' =>
      rw [ho] at h3
      have h4 : (o'.after.any fun e' => Region.binds md e' && e'.on == i) = true := h3
      obtain ⟨e', he', hb'⟩ := Array.any_eq_true'.1 h4
      simp only [Bool.and_eq_true, beq_iff_eq] at hb'
      rw [← hb'.2]
      exact hc e.on o' ho (hall e he hb.1) e' he' hb'.1
theorem U_first {i : Nat} {oi : Oper} {v : Value} (hi : ops[i]? = some oi) (hsel : ∀ (j : Nat) (o : Oper) cs b, ops[j]? = some o → o.op ≠ .select cs b)
    (hQ : ∀ c a w, Q (.panic c) (a.put oi.dst v) w → Q (.panic c) a w)
    (hlate : ∀ j, j < ops.size → late j = true → waitsB md ops j i = true) :
    ∀ (fuel : Nat) (listed : Array Bool) (a : Act) (w : World), Closed md ops listed →
      (∀ j oj, ops[j]? = some oj → j ≠ i → listed.getD j true = false → (∀ e ∈ oj.after, Region.binds md e = true → e.on ≠ i) → oi.apart ops oj = true) →
      i ∈ Region.ready md ops listed → YieldsIf P ops S oi v a → S w →
      anyU P md ops Q late S fuel (listed.setIfInBounds i true) (a.put oi.dst v) w → anyU P md ops Q late S (fuel + 1) listed a w
  | 0, listed, a, w, _, _, hr, hy, hS, H => by
    refine ⟨fun h => (by rw [h] at hr; cases hr), fun j hj => ?_⟩
    rcases Nat.decEq j i with hji | rfl
    · have hm := ready_mono hj hji
      rw [H.1] at hm; cases hm
    · exact hy.wpOp hi hS ⟨.inr hS, H⟩
  | fuel + 1, listed, a, w, hcl, hfree, hr, hy, hS, H => by
    refine ⟨fun h => (by rw [h] at hr; cases hr), fun j hj => ?_⟩
    rcases Nat.decEq j i with hji | rfl
    · obtain ⟨hjun, oj, hoj, hall⟩ := mem_ready.1 hj
      have hno : ∀ e ∈ oj.after, Region.binds md e = true → e.on ≠ i := fun e he hb heq => by
        have h1 := hall e he hb
        rw [heq, unlisted_of_ready hr] at h1; cases h1
      have hnl : ¬ late j = true := fun hl => by
        have h1 := waitsB_listed (hlate j (Array.getElem?_eq_some_iff.1 hoj).1 hl) hcl hj
        rw [unlisted_of_ready hr] at h1; cases h1
      have h2 := wpOp_putIf hoj (hfree j oj hoj hji hjun hno) (fun cs b => hsel i oi cs b hi) (fun cs b => hsel j oj cs b hoj) hQ hy (H.2 j (ready_mono hj hji))
      refine wpOp_mono (fun b u k => ?_) h2
      have hSu := k.2.1.resolve_left hnl
      refine ⟨.inr hSu, U_first hi hsel hQ hlate fuel _ b u (hcl.add hj) ?_ (ready_mono hr (Ne.symm hji)) k.1 hSu ?_⟩
      · intro l ol hol hli hun hw
        refine hfree l ol hol hli ?_ hw
        by_cases hjl : j = l
        · exact hjl ▸ hjun
        · rwa [getD_set_ne true hjl] at hun
      · rw [Array.setIfInBounds_comm _ _ hji]; exact k.2.2
    · exact hy.wpOp hi hS ⟨.inr hS, H⟩
def lateB (md : Region.Mode) (ops : Array Oper) (late : Nat → Bool) (i : Nat) : Bool := (List.range ops.size).all fun j => !late j || waitsB md ops j i
theorem lateB_spec {i : Nat} (h : lateB md ops late i = true) (j : Nat) (hj : j < ops.size) (hl : late j = true) : waitsB md ops j i = true := by
  have h1 := List.all_eq_true.1 h j (List.mem_range.2 hj)
  rwa [hl] at h1
def closedB (md : Region.Mode) (ops : Array Oper) (listed : Array Bool) : Bool := (List.range ops.size).all fun j => !listed.getD j false || ((ops[j]?).map fun o => o.after.all fun e => !Region.binds md e || listed.getD e.on false).getD true
theorem closedB_spec {listed : Array Bool} (h : closedB md ops listed = true) : Closed md ops listed := by
  intro j oj hj hl e he hb
  have h1 := List.all_eq_true.1 h j (List.mem_range.2 (Array.getElem?_eq_some_iff.1 hj).1)
  rw [hl, hj] at h1
  have h2 : (oj.after.all fun e => !Region.binds md e || listed.getD e.on false) = true := h1
  have h3 := Array.all_eq_true_iff_forall_mem.1 h2 e he
  rw [hb] at h3
  exact h3
theorem U_take {i : Nat} {oi : Oper} {v : Value} {fuel : Nat} {listed : Array Bool} {a : Act} {w : World} (hi : ops[i]? = some oi)
    (hs : Region.noSelect ops = true) (hf : Region.free md ops listed i = true) (hr : (Region.ready md ops listed).contains i = true) (hl : lateB md ops late i = true) (hc : closedB md ops listed = true)
    (hQ : ∀ c a w, Q (.panic c) (a.put oi.dst v) w → Q (.panic c) a w) (hy : YieldsIf P ops S oi v a) (hS : S w)
    (h : anyU P md ops Q late S fuel (listed.setIfInBounds i true) (a.put oi.dst v) w) : anyU P md ops Q late S (fuel + 1) listed a w :=
  U_first hi (Region.noSelect_spec hs) hQ (lateB_spec hl) fuel listed a w (closedB_spec hc) (Region.free_spec hi hf) (by simpa using hr) hy hS h
theorem U_begin {id : Nat} {a : Act} {w : World} (hm : P.follows .mixedOrders = true) (h : anyU P .any ops Q late S ops.size (Array.replicate ops.size false) a w.drew) : (Code.region id ops true).wp P Q a w :=
  wp_region_any hm (any_of_U _ _ _ _ h)
/-- one operation alone may come up -/
theorem U_step {j : Nat} {o : Oper} {fuel : Nat} {listed : Array Bool} {a : Act} {w : World} (hr : Region.ready md ops listed = [j]) (ho : ops[j]? = some o)
    (h : ∀ K : Act → World → Prop, Hid (∀ b u, (late j = true ∨ S u) → anyU P md ops Q late S fuel (listed.setIfInBounds j true) b u → K b u) → if Region.wanted o (yielded ops a.tmps) = true then Oper.wp P o a w K Q else K (a.put o.dst undef) w) :
    anyU P md ops Q late S (fuel + 1) listed a w := by
  refine ⟨fun h0 => (by rw [hr] at h0; cases h0), fun i hi => ?_⟩
  rw [hr] at hi
  obtain rfl : i = j := by simpa using hi
  exact wpOp_step ho fun K hK => h K fun b u h1 h2 => hK b u ⟨h1, h2⟩
/-- two operations may come up -/
theorem U_two {j1 j2 : Nat} {o1 o2 : Oper} {fuel : Nat} {listed : Array Bool} {a : Act} {w : World} (hr : Region.ready md ops listed = [j1, j2]) (ho1 : ops[j1]? = some o1) (ho2 : ops[j2]? = some o2)
    (h1 : ∀ K : Act → World → Prop, Hid (∀ b u, (late j1 = true ∨ S u) → anyU P md ops Q late S fuel (listed.setIfInBounds j1 true) b u → K b u) → if Region.wanted o1 (yielded ops a.tmps) = true then Oper.wp P o1 a w K Q else K (a.put o1.dst undef) w)
    (h2 : ∀ K : Act → World → Prop, Hid (∀ b u, (late j2 = true ∨ S u) → anyU P md ops Q late S fuel (listed.setIfInBounds j2 true) b u → K b u) → if Region.wanted o2 (yielded ops a.tmps) = true then Oper.wp P o2 a w K Q else K (a.put o2.dst undef) w) :
    anyU P md ops Q late S (fuel + 1) listed a w := by
  refine ⟨fun h0 => (by rw [hr] at h0; cases h0), fun i hi => ?_⟩
  rw [hr] at hi
  simp only [List.mem_cons, List.mem_nil_iff, or_false] at hi
  rcases hi with rfl | rfl
  · exact wpOp_step ho1 fun K hK => h1 K fun b u h1 h2 => hK b u ⟨h1, h2⟩
  · exact wpOp_step ho2 fun K hK => h2 K fun b u h1 h2 => hK b u ⟨h1, h2⟩
theorem U_done {listed : Array Bool} {a : Act} {w : World} (hr : Region.ready md ops listed = []) (h : Q .normal a w) : ∀ fuel, anyU P md ops Q late S fuel listed a w
  | 0 => ⟨hr, h⟩
  | _ + 1 => ⟨fun _ => h, by rw [hr]; simp⟩
end
section
variable {P : Program} {ops : Array Oper} {Q : Exit → Act → World → Prop} {md : Region.Mode} {S : World → Prop} {late : Nat → Bool}
/-- number j waits for number i, by so many steps at most -/
def waitsN (md : Region.Mode) (ops : Array Oper) : Nat → Nat → Nat → Bool
  | 0, _, _ => false
  | f + 1, j, i => ((ops[j]?).map fun o => o.after.any fun e => Region.binds md e && (e.on == i || waitsN md ops f e.on i)).getD false
theorem waitsN_of {i : Nat} {listed : Array Bool} (hc : Closed md ops listed) : ∀ (f j : Nat), waitsN md ops f j i = true → (∀ oj, ops[j]? = some oj → ∀ e ∈ oj.after, Region.binds md e = true → listed.getD e.on false = true) → listed.getD i false = true
  | 0, _, h, _ => by cases h
  | f + 1, j, h, hall => by
    unfold waitsN at h
    cases hoj : ops[j]? with
    | none => rw [hoj] at h; cases h
    | some oj =>
      rw [hoj] at h
      have h2 : (oj.after.any fun e => Region.binds md e && (e.on == i || waitsN md ops f e.on i)) = true := h
      obtain ⟨e, he, hb⟩ := Array.any_eq_true'.1 h2
      simp only [Bool.and_eq_true, Bool.or_eq_true, beq_iff_eq] at hb
      have hl := hall oj hoj e he hb.1
      rcases hb.2 with h3 | h3
      · rw [← h3]; exact hl
      · exact waitsN_of hc f e.on h3 fun o' ho e' he' hb' => hc e.on o' ho hl e' he' hb'
theorem waitsN_listed {i j f : Nat} {listed : Array Bool} (h : waitsN md ops f j i = true) (hc : Closed md ops listed) (hj : j ∈ Region.ready md ops listed) : listed.getD i false = true := by
  obtain ⟨_, oj, hoj, hall⟩ := mem_ready.1 hj
  refine waitsN_of hc f j h fun o ho e he hb => ?_
  have := Option.some.inj (hoj.symm.trans ho)
  subst this
  exact hall e he hb
theorem U_first2 {i f : Nat} {oi : Oper} {v : Value} (hi : ops[i]? = some oi) (hsel : ∀ (j : Nat) (o : Oper) cs b, ops[j]? = some o → o.op ≠ .select cs b)
    (hQ : ∀ c a w, Q (.panic c) (a.put oi.dst v) w → Q (.panic c) a w)
    (hlate : ∀ j, j < ops.size → late j = true → waitsN md ops f j i = true) :
    ∀ (fuel : Nat) (listed : Array Bool) (a : Act) (w : World), Closed md ops listed →
      (∀ j oj, ops[j]? = some oj → j ≠ i → listed.getD j true = false → waitsN md ops f j i = false → oi.apart ops oj = true) →
      i ∈ Region.ready md ops listed → YieldsIf P ops S oi v a → S w →
      anyU P md ops Q late S fuel (listed.setIfInBounds i true) (a.put oi.dst v) w → anyU P md ops Q late S (fuel + 1) listed a w
  | 0, listed, a, w, _, _, hr, hy, hS, H => by
    refine ⟨fun h => (by rw [h] at hr; cases hr), fun j hj => ?_⟩
    rcases Nat.decEq j i with hji | rfl
    · have hm := ready_mono hj hji
      rw [H.1] at hm; cases hm
    · exact hy.wpOp hi hS ⟨.inr hS, H⟩
  | fuel + 1, listed, a, w, hcl, hfree, hr, hy, hS, H => by
    refine ⟨fun h => (by rw [h] at hr; cases hr), fun j hj => ?_⟩
    rcases Nat.decEq j i with hji | rfl
    · obtain ⟨hjun, oj, hoj, hall⟩ := mem_ready.1 hj
      have hno : waitsN md ops f j i = false := by
        cases hw : waitsN md ops f j i with
        | false => rfl
        | true =>
          have h1 := waitsN_listed hw hcl hj
          rw [unlisted_of_ready hr] at h1; cases h1
      have hnl : ¬ late j = true := fun hl => by
        rw [hlate j (Array.getElem?_eq_some_iff.1 hoj).1 hl] at hno; cases hno
      have h2 := wpOp_putIf hoj (hfree j oj hoj hji hjun hno) (fun cs b => hsel i oi cs b hi) (fun cs b => hsel j oj cs b hoj) hQ hy (H.2 j (ready_mono hj hji))
      refine wpOp_mono (fun b u k => ?_) h2
      have hSu := k.2.1.resolve_left hnl
      refine ⟨.inr hSu, U_first2 hi hsel hQ hlate fuel _ b u (hcl.add hj) ?_ (ready_mono hr (Ne.symm hji)) k.1 hSu ?_⟩
      · intro l ol hol hli hun hw
        refine hfree l ol hol hli ?_ hw
        by_cases hjl : j = l
        · exact hjl ▸ hjun
        · rwa [getD_set_ne true hjl] at hun
      · rw [Array.setIfInBounds_comm _ _ hji]; exact k.2.2
    · exact hy.wpOp hi hS ⟨.inr hS, H⟩
def lateN (md : Region.Mode) (ops : Array Oper) (late : Nat → Bool) (f i : Nat) : Bool := (List.range ops.size).all fun j => !late j || waitsN md ops f j i
theorem lateN_spec {i f : Nat} (h : lateN md ops late f i = true) (j : Nat) (hj : j < ops.size) (hl : late j = true) : waitsN md ops f j i = true := by
  have h1 := List.all_eq_true.1 h j (List.mem_range.2 hj)
  rwa [hl] at h1
def freeN (md : Region.Mode) (ops : Array Oper) (listed : Array Bool) (f i : Nat) : Bool :=
  match ops[i]? with
  | none => false
  | some oi => (List.range ops.size).all fun j => j == i || listed.getD j true || waitsN md ops f j i || match ops[j]? with
      | some oj => oi.apart ops oj
      | none => true
theorem freeN_spec {i f : Nat} {oi : Oper} {listed : Array Bool} (hi : ops[i]? = some oi) (h : freeN md ops listed f i = true) (j : Nat) (oj : Oper)
    (hj : ops[j]? = some oj) (hne : j ≠ i) (hun : listed.getD j true = false) (hno : waitsN md ops f j i = false) : oi.apart ops oj = true := by
  simp only [freeN, hi, List.all_eq_true, List.mem_range] at h
  have h1 := h j (Array.getElem?_eq_some_iff.1 hj).1
  simp only [hj, Bool.or_eq_true, beq_iff_eq, hne, false_or, hun, hno, Bool.false_eq_true] at h1
  exact h1
theorem U_take2 (f : Nat) {i : Nat} {oi : Oper} {v : Value} {fuel : Nat} {listed : Array Bool} {a : Act} {w : World} (hi : ops[i]? = some oi)
    (hs : Region.noSelect ops = true) (hf : freeN md ops listed f i = true) (hr : (Region.ready md ops listed).contains i = true) (hl : lateN md ops late f i = true) (hc : closedB md ops listed = true)
    (hQ : ∀ c a w, Q (.panic c) (a.put oi.dst v) w → Q (.panic c) a w) (hy : YieldsIf P ops S oi v a) (hS : S w)
    (h : anyU P md ops Q late S fuel (listed.setIfInBounds i true) (a.put oi.dst v) w) : anyU P md ops Q late S (fuel + 1) listed a w :=
  U_first2 hi (Region.noSelect_spec hs) hQ (lateN_spec hl) fuel listed a w (closedB_spec hc) (freeN_spec hi hf) (by simpa using hr) hy hS h
end
section
variable {P : Program} {md : Region.Mode} {ops : Array Oper} {Q : Exit → Act → World → Prop} {late : Nat → Bool} {S : World → Prop}
/-- three operations may come up -/
theorem U_three {j1 j2 j3 : Nat} {o1 o2 o3 : Oper} {fuel : Nat} {listed : Array Bool} {a : Act} {w : World} (hr : Region.ready md ops listed = [j1, j2, j3]) (ho1 : ops[j1]? = some o1) (ho2 : ops[j2]? = some o2) (ho3 : ops[j3]? = some o3)
    (h1 : ∀ K : Act → World → Prop, Hid (∀ b u, (late j1 = true ∨ S u) → anyU P md ops Q late S fuel (listed.setIfInBounds j1 true) b u → K b u) → if Region.wanted o1 (yielded ops a.tmps) = true then Oper.wp P o1 a w K Q else K (a.put o1.dst undef) w)
    (h2 : ∀ K : Act → World → Prop, Hid (∀ b u, (late j2 = true ∨ S u) → anyU P md ops Q late S fuel (listed.setIfInBounds j2 true) b u → K b u) → if Region.wanted o2 (yielded ops a.tmps) = true then Oper.wp P o2 a w K Q else K (a.put o2.dst undef) w)
    (h3 : ∀ K : Act → World → Prop, Hid (∀ b u, (late j3 = true ∨ S u) → anyU P md ops Q late S fuel (listed.setIfInBounds j3 true) b u → K b u) → if Region.wanted o3 (yielded ops a.tmps) = true then Oper.wp P o3 a w K Q else K (a.put o3.dst undef) w) :
    anyU P md ops Q late S (fuel + 1) listed a w := by
  refine ⟨fun h0 => (by rw [hr] at h0; cases h0), fun i hi => ?_⟩
  rw [hr] at hi
  simp only [List.mem_cons, List.mem_nil_iff, or_false] at hi
  rcases hi with rfl | rfl | rfl
  · exact wpOp_step ho1 fun K hK => h1 K fun b u h1 h2 => hK b u ⟨h1, h2⟩
  · exact wpOp_step ho2 fun K hK => h2 K fun b u h1 h2 => hK b u ⟨h1, h2⟩
  · exact wpOp_step ho3 fun K hK => h3 K fun b u h1 h2 => hK b u ⟨h1, h2⟩
end
end Go.Proofs.YtheiageokcgbhaaGreatDoor.Pz
/-
  list: the iterator over elements.
-/
namespace Go.Proofs.YtheiageokcgbhaaGreatDoor.Pz
open Go.RowKit Go.Shelf
attribute [local go_sem] Oper.semAt_some
/-- the values of an item of a text of n bytes -/
def encI (n : Nat) (x : Item) : Array Value := #[.int .i64 ((n : Int) - (x.1 : Int)), .agg #[.string ⟨x.2.1.toArray⟩, .bool x.2.2]]
/-- what a round keeps: what lies below, and the iterator's two boxes -/
def KpL (B p q : Nat) (W W' : World) : Prop := Below B W W' ∧ W'.heap[p]? = W.heap[p]? ∧ W'.heap[q]? = W.heap[q]?
theorem KpL.refl (B p q : Nat) (W : World) : KpL B p q W W := ⟨Below.refl _ _, rfl, rfl⟩
theorem KpL.trans {B p q : Nat} {X Y Z : World} (h : KpL B p q X Y) (k : KpL B p q Y Z) : KpL B p q X Z := ⟨h.1.trans k.1, k.2.1.trans h.2.1, k.2.2.trans h.2.2⟩
theorem KpL.of {B p q : Nat} {X Y : World} (h : Below X.heap.size X Y) (hB : B ≤ X.heap.size) (hp : p < X.heap.size) (hq : q < X.heap.size) : KpL B p q X Y := ⟨h.mono hB, h.block p hp, h.block q hq⟩
def rdCells : Array Value := #[.func (.func 131) #[] #[], .func (.func 132) #[] #[], .func (.func 133) #[] #[]]
theorem readBraced_fn' (t : Str) (ht : t.length ≤ 1000000) (w : World) : Calls Tryz.prog 132 #[.string ⟨(123 :: t).toArray⟩] w fun e w' => e = .returned (readAns (t.length + 1) (brace 0 t)) ∧ Below w.heap.size w w' :=
  (readBraced_fn t ht w).mono fun _ _ ⟨h1, h2⟩ => ⟨h1, by rw [h2]; exact Below.refl _ _⟩
set_option maxRecDepth 100000 in
set_option maxHeartbeats 700000 in
theorem elements1_in (l B p q : Nat) (s : Str) (hs : s.length ≤ 1000000) (J Jx : List Item → World → Prop) (W : World) (N : Nat)
    (hY : ∀ pre x W1, J pre W1 → pre.length < (itemsE s).length → YieldAt Fence.wide (N - 1) Tryz.prog l (encI s.length x) W1 fun e W' => (e = .returned (.bool true) ∧ J (pre ++ [x]) W' ∧ KpL B p q W1 W') ∨ (e = .returned (.bool false) ∧ Jx (pre ++ [x]) W'))
    (hp : W.heap[p]? = some (.cells #[.string ⟨s.toArray⟩] 9 (0, 0))) (hq : W.heap[q]? = some (.cells rdCells 95 (0, 0))) (hBW : B ≤ W.heap.size)
    (hJd : ∀ s W1 W2, J s W1 → Below W1.heap.size W1 W2 → J s W2) (h0 : J [] W) :
    CallsIn Fence.wide N Tryz.prog 93 #[.func (.yield l) #[] #[], .pointer (some ⟨p, 0, none⟩), .pointer (some ⟨q, 0, none⟩)] W fun e W' => (∃ v, e = .returned v) ∧ (J (itemsE s) W' ∨ ∃ pre, pre <+: itemsE s ∧ Jx pre W') := by
  have hsz : (⟨s.toArray⟩ : ByteArray).size = s.length := Lib.size_mk _
  have HY := hid hY
  have HP := hid hp
  have HQ := hid hq
  have HJ := hid hJd
  have H0 := hid h0
  have hpl := (Array.getElem?_eq_some_iff.1 hp).1
  have hql := (Array.getElem?_eq_some_iff.1 hq).1
  have hpc : W.cell? ⟨p, 0, none⟩ = some (.string ⟨s.toArray⟩) := by rw [Lib.cell_of_heap hp]; rfl
  clear hY hp hq hJd h0
  refine callsIn_of_wp Tryz.func93 rfl trivial ?_ rfl
  simp only [Tryz.ntmps93, List.size_toArray, List.length_cons, List.length_nil, Nat.reduceAdd, Nat.reduceSub, Array.replicate_succ, Array.replicate_zero, List.push_toArray, List.append_toArray, List.nil_append, List.cons_append]
  gi_wp2
  gi_loopw [4] (fun iv wr => ∃ (i : Nat) (r : Str) (pre : List Item), iv = .int .i64 (i : Nat) ∧ (At s r i ∨ (r = [] ∧ s.length < i)) ∧ i ≤ s.length + 1 ∧ itemsE s = pre ++ itemsE r ∧ J pre wr ∧ KpL B p q W wr)
    (fun iv _ => s.length + 1 - (intOf iv).toNat)
  case atStart => exact ⟨0, s, [], rfl, .inl (At.start s), Nat.zero_le _, rfl, H0.out, KpL.refl _ _ _ _⟩
  case round =>
    obtain ⟨i, r, pre, rfl, hat, hi1, hpre, hJ, hkp⟩ := hrel
    have hsw := hkp.1.size
    have hpc' : wr.cell? ⟨p, 0, none⟩ = some (.string ⟨s.toArray⟩) := by rw [Lib.cell_of_heap (hkp.2.1.trans HP.out)]; rfl
    cases r with
    | nil =>
      have hge : s.length ≤ i := by
        rcases hat with h | h
        · exact h.nil_iff.1 rfl
        · omega
      rw [show itemsE [] = [] by rw [itemsE], List.append_nil] at hpre
      clear hat
      gi_wp2
      go_end0
      exact ⟨⟨_, rfl⟩, .inl (by rw [hpre]; exact hJ)⟩
    | cons c t =>
      have ha : At s (c :: t) i := by
        rcases hat with h | h
        · exact h
        · exact absurd h.1 (by simp)
      clear hat
      have hlt := ha.lt
      have hx := ha.byte
      have hlen := ha.len
      simp only [List.length_cons] at hlen
      have HA := hid ha
      have HPRE := hid hpre
      have HJ1 := hid hJ
      have HKP := hid hkp
      have hwf := hid (callsIn_wide (n := N - 1).2 (white_fn c wr))
      clear hpre hJ hkp
      cases hw : white c with
      | true =>
        rw [hw] at hwf
        gi_wp2_with (refine ⟨trivial, fun h => by (cases h), ?_⟩; gi_at_call 94; (with_reducible refine hwf.out.mono ?_); rintro e wr ⟨rfl, rfl⟩)
        go_roundw
        case rel => exact ⟨i + 1, t, pre, by go_num, .inl HA.out.tail, by omega, by rw [HPRE.out, itemsE_white hw], HJ1.out, HKP.out⟩
        case measure => simp [intOf] <;> omega
      | false =>
        rw [hw] at hwf
        have hex : (⟨s.toArray⟩ : ByteArray).extract i s.length = ⟨(c :: t).toArray⟩ := At.all ha
        have HIT := hid (itemsE_cons (t := t) hw)
        have hmx : Tryz.prog.follows .mixedOrders = true := by kernel_rfl
        have hcell : ∀ (F : Nat) (k : Nat), rdCells[k]? = some (.func (.func F) #[] #[]) → wr.cell? ⟨q, k, none⟩ = some (.func (.func F) #[] #[]) := fun F k h => by rw [Lib.cell_of_heap (HKP.out.2.2.trans HQ.out)]; exact h
        obtain ⟨k, F, hcf, hk3, hk, hck, hr0⟩ : ∃ (k : Nat) (F : Nat), (∀ args w, Sem.run Tryz.prog (callFunc F args) w = .ok (.enter F args) w) ∧ k < 3 ∧ (∀ w, Calls Tryz.prog 95 #[.int .u8 (c.toNat : Nat)] w fun e w' => e = .returned (.int .i64 (k : Nat)) ∧ w' = w) ∧ wr.cell? ⟨q, k, none⟩ = some (.func (.func F) #[] #[]) ∧
            ∀ w, Calls Tryz.prog F #[.string ⟨(c :: t).toArray⟩] w fun e w' => e = .returned (readAns (t.length + 1) (elemE (c :: t))) ∧ Below w.heap.size w w' := by
          by_cases h1 : c = 123
          · subst h1
            exact ⟨1, 132, fun _ _ => by go_simp, by omega, fun w => kind_fn 123 w, hcell _ 1 rfl, fun w => readBraced_fn' t (by omega) w⟩
          · by_cases h2 : c = 34
            · subst h2
              exact ⟨2, 133, fun _ _ => by go_simp, by omega, fun w => kind_fn 34 w, hcell _ 2 rfl, fun w => readQuoted_fn t (by omega) w⟩
            · refine ⟨0, 131, fun _ _ => by go_simp, by omega, fun w => ?_, hcell _ 0 rfl, fun w => ?_⟩
              · have h9 := kind_fn c w
                rw [show kindOf c = 0 by unfold kindOf; rw [if_neg (by simpa using h1), if_neg (by simpa using h2)]] at h9
                exact h9
              · have h9 := readBare_fn (c :: t) (by simp only [List.length_cons]; omega) w
                rw [show elemE (c :: t) = some (bareE (c :: t)) by show (if (c == 123) = true then brace 0 t else if (c == 34) = true then quotedE t else some (bareE (c :: t))) = _; rw [if_neg (by simpa using h1), if_neg (by simpa using h2)]]
                exact h9
        have hk0 : (0 : Int) ≤ (k : Int) := by omega
        have hk4 : (k : Int) < 3 := by omega
        clear ha hcell
        cases HEL : elemE (c :: t) with
        | none =>
          rw [HEL] at hr0
          replace HIT := hid (show itemsE (c :: t) = [(t.length + 1, [], false)] by rw [HIT.out, HEL])
          have hrd := hid (show ∀ w, Calls Tryz.prog F #[.string ⟨(c :: t).toArray⟩] w (fun e w' => e = .returned (.tuple #[.string ⟨#[]⟩, .int .i64 0, .bool false]) ∧ Below w.heap.size w w') from hr0)
          gi_wp2_with (refine ⟨trivial, fun h => by (cases h), ?_⟩; gi_at_call 94; (with_reducible refine hwf.out.mono ?_); rintro e wr ⟨rfl, rfl⟩)
          refine wpIn_wide.2 ?_
          have S0 : Hid ((fun u : World => u.cell? ⟨p, 0, none⟩ = some (.string ⟨s.toArray⟩) ∧ u.cell? ⟨q, k, none⟩ = some (.func (.func F) #[] #[])) wr.drew) := hid ⟨hpc', hck⟩
          refine U_begin (late := fun _ => false) (S := fun u : World => u.cell? ⟨p, 0, none⟩ = some (.string ⟨s.toArray⟩) ∧ u.cell? ⟨q, k, none⟩ = some (.func (.func F) #[] #[])) hmx ?_
          clear hpc' hck
          refine U_take2 8 (i := 0) (v := .string ⟨s.toArray⟩) rfl (by kernel_rfl) (by kernel_rfl) (by kernel_rfl) (by kernel_rfl) (by kernel_rfl) (fun _ _ _ h => h) (.inl ⟨rfl, fun u hu => (by obtain ⟨k1, k2⟩ := hu; go_simp)⟩) S0.out ?_
          refine U_take2 8 (i := 1) (v := .int .i64 (i : Nat)) rfl (by kernel_rfl) (by kernel_rfl) (by kernel_rfl) (by kernel_rfl) (by kernel_rfl) (fun _ _ _ h => h) (.inl ⟨rfl, fun u hu => (by obtain ⟨k1, k2⟩ := hu; go_simp)⟩) S0.out ?_
          refine U_take2 8 (i := 2) (v := .int .u8 (c.toNat : Nat)) rfl (by kernel_rfl) (by kernel_rfl) (by kernel_rfl) (by kernel_rfl) (by kernel_rfl) (fun _ _ _ h => h) (.inl ⟨rfl, fun u hu => (by obtain ⟨k1, k2⟩ := hu; go_simp)⟩) S0.out ?_
          refine U_take2 8 (i := 6) (v := .string ⟨s.toArray⟩) rfl (by kernel_rfl) (by kernel_rfl) (by kernel_rfl) (by kernel_rfl) (by kernel_rfl) (fun _ _ _ h => h) (.inl ⟨rfl, fun u hu => (by obtain ⟨k1, k2⟩ := hu; go_simp)⟩) S0.out ?_
          refine U_take2 8 (i := 7) (v := .int .i64 (i : Nat)) rfl (by kernel_rfl) (by kernel_rfl) (by kernel_rfl) (by kernel_rfl) (by kernel_rfl) (fun _ _ _ h => h) (.inl ⟨rfl, fun u hu => (by obtain ⟨k1, k2⟩ := hu; go_simp)⟩) S0.out ?_
          refine U_take2 8 (i := 8) (v := .string ⟨(c :: t).toArray⟩) rfl (by kernel_rfl) (by kernel_rfl) (by kernel_rfl) (by kernel_rfl) (by kernel_rfl) (fun _ _ _ h => h) (.inl ⟨rfl, fun u hu => (by obtain ⟨k1, k2⟩ := hu; go_simp; exact fun h => absurd h (by omega))⟩) S0.out ?_
          refine U_step (j := 3) (by kernel_rfl) rfl (fun K hK => ?_)
          go_simp
          (with_reducible refine (hk _).mono ?_); rintro e w4 ⟨rfl, rfl⟩
          refine hK.out _ _ (.inr S0.out) ?_
          clear hK K
          refine U_take2 8 (i := 4) (v := .pointer (some ⟨q, k, none⟩)) rfl (by kernel_rfl) (by kernel_rfl) (by kernel_rfl) (by kernel_rfl) (by kernel_rfl) (fun _ _ _ h => h) (.inl ⟨rfl, fun u hu => (by obtain ⟨k1, k2⟩ := hu; go_simp)⟩) S0.out ?_
          refine U_take2 8 (i := 5) (v := .func (.func F) #[] #[]) rfl (by kernel_rfl) (by kernel_rfl) (by kernel_rfl) (by kernel_rfl) (by kernel_rfl) (fun _ _ _ h => h) (.inl ⟨rfl, fun u hu => (by obtain ⟨k1, k2⟩ := hu; go_simp)⟩) S0.out ?_
          refine U_step (j := 9) (by kernel_rfl) rfl (fun K hK => ?_)
          go_simp
          (with_reducible refine (hrd.out _).mono ?_); rintro e w3 ⟨rfl, hw3⟩
          have S3 : Hid ((fun u : World => u.cell? ⟨p, 0, none⟩ = some (.string ⟨s.toArray⟩) ∧ u.cell? ⟨q, k, none⟩ = some (.func (.func F) #[] #[])) w3) := hid ⟨(hw3.cell (p := ⟨p, 0, none⟩) (by show p < wr.heap.size; omega)).trans S0.out.1, (hw3.cell (p := ⟨q, k, none⟩) (by show q < wr.heap.size; omega)).trans S0.out.2⟩
          refine hK.out _ _ (.inr S3.out) ?_
          clear hK K S0
          refine U_take2 8 (i := 10) (v := .tuple #[.string ⟨#[]⟩, .int .i64 0, .bool false]) rfl (by kernel_rfl) (by kernel_rfl) (by kernel_rfl) (by kernel_rfl) (by kernel_rfl) (fun _ _ _ h => h) (.inl ⟨rfl, fun u hu => (by obtain ⟨k1, k2⟩ := hu; go_simp)⟩) S3.out ?_
          refine U_take2 8 (i := 11) (v := .string ⟨#[]⟩) rfl (by kernel_rfl) (by kernel_rfl) (by kernel_rfl) (by kernel_rfl) (by kernel_rfl) (fun _ _ _ h => h) (.inl ⟨rfl, fun u hu => (by obtain ⟨k1, k2⟩ := hu; go_simp)⟩) S3.out ?_
          refine U_take2 8 (i := 12) (v := .int .i64 0) rfl (by kernel_rfl) (by kernel_rfl) (by kernel_rfl) (by kernel_rfl) (by kernel_rfl) (fun _ _ _ h => h) (.inl ⟨rfl, fun u hu => (by obtain ⟨k1, k2⟩ := hu; go_simp)⟩) S3.out ?_
          refine U_take2 8 (i := 13) (v := .bool false) rfl (by kernel_rfl) (by kernel_rfl) (by kernel_rfl) (by kernel_rfl) (by kernel_rfl) (fun _ _ _ h => h) (.inl ⟨rfl, fun u hu => (by obtain ⟨k1, k2⟩ := hu; go_simp)⟩) S3.out ?_
          refine U_take2 8 (i := 14) (v := .string ⟨#[]⟩) rfl (by kernel_rfl) (by kernel_rfl) (by kernel_rfl) (by kernel_rfl) (by kernel_rfl) (fun _ _ _ h => h) (.inl ⟨rfl, fun u hu => (by obtain ⟨k1, k2⟩ := hu; go_simp)⟩) S3.out ?_
          refine U_take2 8 (i := 15) (v := .int .i64 0) rfl (by kernel_rfl) (by kernel_rfl) (by kernel_rfl) (by kernel_rfl) (by kernel_rfl) (fun _ _ _ h => h) (.inl ⟨rfl, fun u hu => (by obtain ⟨k1, k2⟩ := hu; go_simp)⟩) S3.out ?_
          refine U_take2 8 (i := 16) (v := .bool false) rfl (by kernel_rfl) (by kernel_rfl) (by kernel_rfl) (by kernel_rfl) (by kernel_rfl) (fun _ _ _ h => h) (.inl ⟨rfl, fun u hu => (by obtain ⟨k1, k2⟩ := hu; go_simp)⟩) S3.out ?_
          refine U_done (by kernel_rfl) ?_ _
          have hw3 : Below wr.heap.size wr w3 := (Below.refl _ _).drew.trans hw3
          have hpc3 := S3.out.1
          clear S3 hrd
          have hxe : encI s.length (t.length + 1, [], false) = #[.int .i64 (i : Nat), .agg #[.string ⟨([] : Str).toArray⟩, .bool false]] := by
            unfold encI
            rw [show ((s.length : Nat) : Int) - (((t.length + 1, [], false) : Item).1 : Nat) = (i : Int) by show ((s.length : Nat) : Int) - ((t.length + 1 : Nat) : Int) = (i : Int); omega]
          obtain ⟨fn, tmps, assign, body, hy, hR⟩ := HY.out pre (t.length + 1, [], false) w3 (HJ.out _ _ _ HJ1.out hw3) (by rw [HPRE.out, HIT.out]; simp)
          rw [hxe] at hy
          have HR := hid hR
          have HK3 := hid (HKP.out.trans (KpL.of hw3 (by omega) (by omega) (by omega)))
          clear hR hxe hw3
          have hun : undef = .tuple #[] := rfl
          gi_wp2
          refine ⟨trivial, ?_⟩
          gi_wp2
          clear hun
          refine ⟨fun h => by (cases h), ?_⟩
          refine HR.out.mono ?_
          rintro e W3 (⟨rfl, hJ3, hk3⟩ | ⟨rfl, hJx3⟩)
          · have HJ3 := hid hJ3
            have HK4 := hid (HK3.out.trans hk3)
            clear hJ3 hk3
            gi_wp2
            refine bodyPost_ret (results_none rfl _ _ _) rfl ?_
            exact ⟨⟨_, rfl⟩, .inl (by rw [HPRE.out, HIT.out]; exact HJ3.out)⟩
          · have HX3 := hid hJx3
            clear hJx3
            gi_wp2
            refine bodyPost_ret (results_none rfl _ _ _) rfl ?_
            exact ⟨⟨_, rfl⟩, .inr ⟨_, by rw [HPRE.out, HIT.out]; exact (List.prefix_append_right_inj pre).2 (by simp), HX3.out⟩⟩
        | some y =>
          obtain ⟨x, r⟩ := y
          rw [HEL] at hr0
          have hrs := elemE_suf hw HEL
          obtain ⟨m, hm⟩ : ∃ m, m = t.length + 1 - r.length := ⟨_, rfl⟩
          have hr1 : ∀ w, Calls Tryz.prog F #[.string ⟨(c :: t).toArray⟩] w (fun e w' => e = .returned (.tuple #[.string ⟨x.toArray⟩, .int .i64 (m : Nat), .bool true]) ∧ Below w.heap.size w w') := fun w => by rw [hm]; exact hr0 w
          have hml : m ≤ t.length + 1 := by omega
          have HM := hid hm
          clear hr0 hm
          have hrd := hid (show ∀ w, Calls Tryz.prog F #[.string ⟨(c :: t).toArray⟩] w (fun e w' => e = .returned (.tuple #[.string ⟨x.toArray⟩, .int .i64 (m : Nat), .bool true]) ∧ Below w.heap.size w w') from hr1)
          gi_wp2_with (refine ⟨trivial, fun h => by (cases h), ?_⟩; gi_at_call 94; (with_reducible refine hwf.out.mono ?_); rintro e wr ⟨rfl, rfl⟩)
          refine wpIn_wide.2 ?_
          have S0 : Hid ((fun u : World => u.cell? ⟨p, 0, none⟩ = some (.string ⟨s.toArray⟩) ∧ u.cell? ⟨q, k, none⟩ = some (.func (.func F) #[] #[])) wr.drew) := hid ⟨hpc', hck⟩
          refine U_begin (late := fun _ => false) (S := fun u : World => u.cell? ⟨p, 0, none⟩ = some (.string ⟨s.toArray⟩) ∧ u.cell? ⟨q, k, none⟩ = some (.func (.func F) #[] #[])) hmx ?_
          clear hpc' hck
          refine U_take2 8 (i := 0) (v := .string ⟨s.toArray⟩) rfl (by kernel_rfl) (by kernel_rfl) (by kernel_rfl) (by kernel_rfl) (by kernel_rfl) (fun _ _ _ h => h) (.inl ⟨rfl, fun u hu => (by obtain ⟨k1, k2⟩ := hu; go_simp)⟩) S0.out ?_
          refine U_take2 8 (i := 1) (v := .int .i64 (i : Nat)) rfl (by kernel_rfl) (by kernel_rfl) (by kernel_rfl) (by kernel_rfl) (by kernel_rfl) (fun _ _ _ h => h) (.inl ⟨rfl, fun u hu => (by obtain ⟨k1, k2⟩ := hu; go_simp)⟩) S0.out ?_
          refine U_take2 8 (i := 2) (v := .int .u8 (c.toNat : Nat)) rfl (by kernel_rfl) (by kernel_rfl) (by kernel_rfl) (by kernel_rfl) (by kernel_rfl) (fun _ _ _ h => h) (.inl ⟨rfl, fun u hu => (by obtain ⟨k1, k2⟩ := hu; go_simp)⟩) S0.out ?_
          refine U_take2 8 (i := 6) (v := .string ⟨s.toArray⟩) rfl (by kernel_rfl) (by kernel_rfl) (by kernel_rfl) (by kernel_rfl) (by kernel_rfl) (fun _ _ _ h => h) (.inl ⟨rfl, fun u hu => (by obtain ⟨k1, k2⟩ := hu; go_simp)⟩) S0.out ?_
          refine U_take2 8 (i := 7) (v := .int .i64 (i : Nat)) rfl (by kernel_rfl) (by kernel_rfl) (by kernel_rfl) (by kernel_rfl) (by kernel_rfl) (fun _ _ _ h => h) (.inl ⟨rfl, fun u hu => (by obtain ⟨k1, k2⟩ := hu; go_simp)⟩) S0.out ?_
          refine U_take2 8 (i := 8) (v := .string ⟨(c :: t).toArray⟩) rfl (by kernel_rfl) (by kernel_rfl) (by kernel_rfl) (by kernel_rfl) (by kernel_rfl) (fun _ _ _ h => h) (.inl ⟨rfl, fun u hu => (by obtain ⟨k1, k2⟩ := hu; go_simp; exact fun h => absurd h (by omega))⟩) S0.out ?_
          refine U_step (j := 3) (by kernel_rfl) rfl (fun K hK => ?_)
          go_simp
          (with_reducible refine (hk _).mono ?_); rintro e w4 ⟨rfl, rfl⟩
          refine hK.out _ _ (.inr S0.out) ?_
          clear hK K
          refine U_take2 8 (i := 4) (v := .pointer (some ⟨q, k, none⟩)) rfl (by kernel_rfl) (by kernel_rfl) (by kernel_rfl) (by kernel_rfl) (by kernel_rfl) (fun _ _ _ h => h) (.inl ⟨rfl, fun u hu => (by obtain ⟨k1, k2⟩ := hu; go_simp)⟩) S0.out ?_
          refine U_take2 8 (i := 5) (v := .func (.func F) #[] #[]) rfl (by kernel_rfl) (by kernel_rfl) (by kernel_rfl) (by kernel_rfl) (by kernel_rfl) (fun _ _ _ h => h) (.inl ⟨rfl, fun u hu => (by obtain ⟨k1, k2⟩ := hu; go_simp)⟩) S0.out ?_
          refine U_step (j := 9) (by kernel_rfl) rfl (fun K hK => ?_)
          go_simp
          (with_reducible refine (hrd.out _).mono ?_); rintro e w3 ⟨rfl, hw3⟩
          have S3 : Hid ((fun u : World => u.cell? ⟨p, 0, none⟩ = some (.string ⟨s.toArray⟩) ∧ u.cell? ⟨q, k, none⟩ = some (.func (.func F) #[] #[])) w3) := hid ⟨(hw3.cell (p := ⟨p, 0, none⟩) (by show p < wr.heap.size; omega)).trans S0.out.1, (hw3.cell (p := ⟨q, k, none⟩) (by show q < wr.heap.size; omega)).trans S0.out.2⟩
          refine hK.out _ _ (.inr S3.out) ?_
          clear hK K S0
          refine U_take2 8 (i := 10) (v := .tuple #[.string ⟨x.toArray⟩, .int .i64 (m : Nat), .bool true]) rfl (by kernel_rfl) (by kernel_rfl) (by kernel_rfl) (by kernel_rfl) (by kernel_rfl) (fun _ _ _ h => h) (.inl ⟨rfl, fun u hu => (by obtain ⟨k1, k2⟩ := hu; go_simp)⟩) S3.out ?_
          refine U_take2 8 (i := 11) (v := .string ⟨x.toArray⟩) rfl (by kernel_rfl) (by kernel_rfl) (by kernel_rfl) (by kernel_rfl) (by kernel_rfl) (fun _ _ _ h => h) (.inl ⟨rfl, fun u hu => (by obtain ⟨k1, k2⟩ := hu; go_simp)⟩) S3.out ?_
          refine U_take2 8 (i := 12) (v := .int .i64 (m : Nat)) rfl (by kernel_rfl) (by kernel_rfl) (by kernel_rfl) (by kernel_rfl) (by kernel_rfl) (fun _ _ _ h => h) (.inl ⟨rfl, fun u hu => (by obtain ⟨k1, k2⟩ := hu; go_simp)⟩) S3.out ?_
          refine U_take2 8 (i := 13) (v := .bool true) rfl (by kernel_rfl) (by kernel_rfl) (by kernel_rfl) (by kernel_rfl) (by kernel_rfl) (fun _ _ _ h => h) (.inl ⟨rfl, fun u hu => (by obtain ⟨k1, k2⟩ := hu; go_simp)⟩) S3.out ?_
          refine U_take2 8 (i := 14) (v := .string ⟨x.toArray⟩) rfl (by kernel_rfl) (by kernel_rfl) (by kernel_rfl) (by kernel_rfl) (by kernel_rfl) (fun _ _ _ h => h) (.inl ⟨rfl, fun u hu => (by obtain ⟨k1, k2⟩ := hu; go_simp)⟩) S3.out ?_
          refine U_take2 8 (i := 15) (v := .int .i64 (m : Nat)) rfl (by kernel_rfl) (by kernel_rfl) (by kernel_rfl) (by kernel_rfl) (by kernel_rfl) (fun _ _ _ h => h) (.inl ⟨rfl, fun u hu => (by obtain ⟨k1, k2⟩ := hu; go_simp)⟩) S3.out ?_
          refine U_take2 8 (i := 16) (v := .bool true) rfl (by kernel_rfl) (by kernel_rfl) (by kernel_rfl) (by kernel_rfl) (by kernel_rfl) (fun _ _ _ h => h) (.inl ⟨rfl, fun u hu => (by obtain ⟨k1, k2⟩ := hu; go_simp)⟩) S3.out ?_
          refine U_done (by kernel_rfl) ?_ _
          have hw3 : Below wr.heap.size wr w3 := (Below.refl _ _).drew.trans hw3
          have hpc3 := S3.out.1
          clear S3 hrd
          obtain ⟨e, he⟩ : ∃ e, e = s.length - r.length := ⟨_, rfl⟩
          have hie : (i : Int) + (m : Int) = (e : Int) := by have := HM.out; omega
          have hae : At s r e := by rw [he]; exact HA.out.suf hrs.2
          have hae2 := hae.len
          clear he
          cases hsp : spaced r with
          | false =>
            replace HIT := hid (show itemsE (c :: t) = [(t.length + 1, x, false)] by rw [HIT.out, HEL]; dsimp only; rw [hsp]; rfl)
            cases r with
            | nil => cases hsp
            | cons c2 r2 =>
              have hx2 := hae.byte
              have hlt2 := hae.lt
              have hne : ((e : Int) == (s.length : Int)) = false := by rw [beq_eq_false_iff_ne]; omega
              have hwf2 := hid (callsIn_wide (n := N - 1).2 (white_fn c2 w3))
              rw [show white c2 = false from hsp] at hwf2
              have he0 : (0 : Int) ≤ (e : Int) ∧ (e : Int) < (s.length : Int) := by omega
              clear hsp hae
              have hxe : encI s.length (t.length + 1, x, false) = #[.int .i64 (i : Nat), .agg #[.string ⟨(x : Str).toArray⟩, .bool false]] := by
                unfold encI
                rw [show ((s.length : Nat) : Int) - (((t.length + 1, x, false) : Item).1 : Nat) = (i : Int) by show ((s.length : Nat) : Int) - ((t.length + 1 : Nat) : Int) = (i : Int); omega]
              obtain ⟨fn, tmps, assign, body, hy, hR⟩ := HY.out pre (t.length + 1, x, false) w3 (HJ.out _ _ _ HJ1.out hw3) (by rw [HPRE.out, HIT.out]; simp)
              rw [hxe] at hy
              have HR := hid hR
              have HK3 := hid (HKP.out.trans (KpL.of hw3 (by omega) (by omega) (by omega)))
              clear hR hxe hw3
              gi_wp2_with (refine ⟨trivial, fun h => by (cases h), ?_⟩; gi_at_call 94; (with_reducible refine hwf2.out.mono ?_); rintro e' w3 ⟨rfl, rfl⟩)
              refine ⟨fun h => by (cases h), ?_⟩
              refine HR.out.mono ?_
              rintro e W3 (⟨rfl, hJ3, hk3⟩ | ⟨rfl, hJx3⟩)
              · have HJ3 := hid hJ3
                have HK4 := hid (HK3.out.trans hk3)
                clear hJ3 hk3
                gi_wp2
                refine bodyPost_ret (results_none rfl _ _ _) rfl ?_
                exact ⟨⟨_, rfl⟩, .inl (by rw [HPRE.out, HIT.out]; exact HJ3.out)⟩
              · have HX3 := hid hJx3
                clear hJx3
                gi_wp2
                refine bodyPost_ret (results_none rfl _ _ _) rfl ?_
                exact ⟨⟨_, rfl⟩, .inr ⟨_, by rw [HPRE.out, HIT.out]; exact (List.prefix_append_right_inj pre).2 (by simp), HX3.out⟩⟩
          | true =>
            replace HIT := hid (show itemsE (c :: t) = (t.length + 1, x, true) :: itemsE r by rw [HIT.out, HEL]; dsimp only; rw [hsp]; rfl)
            cases r with
            | nil =>
              have hee : ((e : Int) == (s.length : Int)) = true := by rw [beq_iff_eq]; simp at hae2; omega
              simp only [List.length_nil] at hae2
              clear hsp hae
              have hxe : encI s.length (t.length + 1, x, true) = #[.int .i64 (i : Nat), .agg #[.string ⟨(x : Str).toArray⟩, .bool true]] := by
                unfold encI
                rw [show ((s.length : Nat) : Int) - (((t.length + 1, x, true) : Item).1 : Nat) = (i : Int) by show ((s.length : Nat) : Int) - ((t.length + 1 : Nat) : Int) = (i : Int); omega]
              obtain ⟨fn, tmps, assign, body, hy, hR⟩ := HY.out pre (t.length + 1, x, true) w3 (HJ.out _ _ _ HJ1.out hw3) (by rw [HPRE.out, HIT.out]; simp)
              rw [hxe] at hy
              have HR := hid hR
              have HK3 := hid (HKP.out.trans (KpL.of hw3 (by omega) (by omega) (by omega)))
              clear hR hxe hw3
              gi_wp2
              refine ⟨trivial, ?_⟩
              gi_wp2
              refine ⟨fun h => by (cases h), ?_⟩
              refine HR.out.mono ?_
              rintro e W3 (⟨rfl, hJ3, hk3⟩ | ⟨rfl, hJx3⟩)
              · have HJ3 := hid hJ3
                have HK4 := hid (HK3.out.trans hk3)
                clear hJ3 hk3
                gi_wp2
                go_roundw
                case rel => exact ⟨e + 1, [], pre ++ [_], by go_num, .inr ⟨rfl, by omega⟩, by omega, by rw [HPRE.out, HIT.out]; simp, HJ3.out, HK4.out⟩
                case measure => simp [intOf] <;> omega
              · have HX3 := hid hJx3
                clear hJx3
                gi_wp2
                refine bodyPost_ret (results_none rfl _ _ _) rfl ?_
                exact ⟨⟨_, rfl⟩, .inr ⟨_, by rw [HPRE.out, HIT.out]; exact (List.prefix_append_right_inj pre).2 (by simp), HX3.out⟩⟩
            | cons c2 r2 =>
              have hx2 := hae.byte
              have hlt2 := hae.lt
              have hne : ((e : Int) == (s.length : Int)) = false := by rw [beq_eq_false_iff_ne]; omega
              have hwf2 := hid (callsIn_wide (n := N - 1).2 (white_fn c2 w3))
              rw [show white c2 = true from hsp] at hwf2
              have HW2 := hid (show white c2 = true from hsp)
              have he0 : (0 : Int) ≤ (e : Int) ∧ (e : Int) < (s.length : Int) := by omega
              have HAE := hid hae
              simp only [List.length_cons] at hae2
              clear hsp hae
              have hxe : encI s.length (t.length + 1, x, true) = #[.int .i64 (i : Nat), .agg #[.string ⟨(x : Str).toArray⟩, .bool true]] := by
                unfold encI
                rw [show ((s.length : Nat) : Int) - (((t.length + 1, x, true) : Item).1 : Nat) = (i : Int) by show ((s.length : Nat) : Int) - ((t.length + 1 : Nat) : Int) = (i : Int); omega]
              obtain ⟨fn, tmps, assign, body, hy, hR⟩ := HY.out pre (t.length + 1, x, true) w3 (HJ.out _ _ _ HJ1.out hw3) (by rw [HPRE.out, HIT.out]; simp)
              rw [hxe] at hy
              have HR := hid hR
              have HK3 := hid (HKP.out.trans (KpL.of hw3 (by omega) (by omega) (by omega)))
              clear hR hxe hw3
              gi_wp2_with (refine ⟨trivial, fun h => by (cases h), ?_⟩; gi_at_call 94; (with_reducible refine hwf2.out.mono ?_); rintro e' w3 ⟨rfl, rfl⟩)
              refine ⟨fun h => by (cases h), ?_⟩
              refine HR.out.mono ?_
              rintro e W3 (⟨rfl, hJ3, hk3⟩ | ⟨rfl, hJx3⟩)
              · have HJ3 := hid hJ3
                have HK4 := hid (HK3.out.trans hk3)
                clear hJ3 hk3
                gi_wp2
                go_roundw
                case rel => exact ⟨e + 1, r2, pre ++ [_], by go_num, .inl HAE.out.tail, by omega, by rw [HPRE.out, HIT.out, itemsE_white HW2.out]; simp, HJ3.out, HK4.out⟩
                case measure => simp [intOf] <;> omega
              · have HX3 := hid hJx3
                clear hJx3
                gi_wp2
                refine bodyPost_ret (results_none rfl _ _ _) rfl ?_
                exact ⟨⟨_, rfl⟩, .inr ⟨_, by rw [HPRE.out, HIT.out]; exact (List.prefix_append_right_inj pre).2 (by simp), HX3.out⟩⟩
end Go.Proofs.YtheiageokcgbhaaGreatDoor.Pz
