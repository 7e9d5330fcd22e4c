/-
  Part K9 of the proofs of this seat: contracts of functions and plain facts, merged from 8 texts.
-/
import Derived.BigQuiet
import Derived.Test.YtabhkoklcjhlpaaGreatDoorK0
import Derived.Test.YtabhkoklcjhlpaaGreatDoorK1
import Derived.Test.YtabhkoklcjhlpaaGreatDoorK2
import Derived.Test.YtabhkoklcjhlpaaGreatDoorK3
import Derived.Test.YtabhkoklcjhlpaaGreatDoorK4
import Derived.Test.YtabhkoklcjhlpaaGreatDoorK5
import Derived.Test.YtabhkoklcjhlpaaGreatDoorK6
import Derived.Test.YtabhkoklcjhlpaaGreatDoorK7
import Derived.Test.YtabhkoklcjhlpaaGreatDoorK8
/-
  P2.2: what is joined is split into the same texts.
-/
namespace Go.Proofs.YtabhkoklcjhlpaaGreatDoor.Pz
theorem bareE_slash : ∀ (s : Str) (b : Bool) (r : Str), spaced r = true → bareE (slash b s ++ r) = (s, r)
  | [], b, [], _ => by rw [slash, List.nil_append, bareE]
  | [], b, c :: r, h => by
    have h : white c = true := h
    rw [slash, List.nil_append, bareE, if_pos h]
  | c :: t, b, r, h => by
    rw [slash]
    split
    · rename_i hc
      have hs : Slashy c := slashy (by
        rw [Bool.or_eq_true, Bool.and_eq_true, beq_iff_eq] at hc
        exact hc.imp id And.right)
      rw [List.cons_append, List.cons_append, bareE, if_neg (by decide), if_pos (by decide), unesc_slash hs, bareE_slash t false r h]
      rfl
    · rename_i hc
      have hc' : special c = false := by
        cases he : special c with
        | false => rfl
        | true => exact absurd (by rw [he]; rfl) hc
      have hp := plain_facts hc'
      rw [List.cons_append, bareE, if_neg (by rw [hp.1]; decide), if_neg (by simpa using hp.2.1), bareE_slash t false r h]
      rfl
theorem elemE_quote (s r : Str) (hr : spaced r = true) : (∃ e u, quote s = e :: u ∧ white e = false) ∧ elemE (quote s ++ r) = some (s, r) := by
  unfold quote
  split
  · rename_i h
    obtain rfl : s = [] := List.isEmpty_iff.1 h
    refine ⟨⟨123, [125], rfl, by decide⟩, ?_⟩
    show elemE (123 :: 125 :: r) = _
    rw [elemE, if_pos (by decide)]
    exact brace_bal r 0 [] (Nat.le_refl _) 0 rfl
  · rename_i h
    obtain ⟨c, t, rfl⟩ : ∃ c t, s = c :: t := by
      cases s with
      | nil => exact absurd rfl h
      | cons c t => exact ⟨c, t, rfl⟩
    split
    · rename_i hp
      have hq := quote_plain hp
      rw [plainW, Bool.and_eq_true, List.all_cons, Bool.and_eq_true] at hp
      have hc : special c = false := by simpa using hp.2.1
      have hf := plain_facts hc
      refine ⟨⟨c, t, rfl, hf.1⟩, ?_⟩
      have hb := bareE_slash (c :: t) true r hr
      rw [hq] at hb
      rw [List.cons_append, elemE, if_neg (by simpa using hf.2.2.2.2.1), if_neg (by simpa using hf.2.2.2.2.2.1), ← List.cons_append, hb]
    · rename_i hp
      split
      · rename_i hb
        refine ⟨⟨123, (c :: t) ++ [125], rfl, by decide⟩, ?_⟩
        rw [balanced, Bool.and_eq_true] at hb
        have h9 := brace_bal r _ (c :: t) (Nat.le_refl _) 0 hb.1
        rw [List.cons_append, List.append_assoc, elemE, if_pos (by decide)]
        exact h9
      · have hb := bareE_slash (c :: t) true r hr
        have hh : ∃ e u, slash true (c :: t) = e :: u ∧ white e = false ∧ e ≠ 123 ∧ e ≠ 34 := by
          rw [slash]
          split
          · exact ⟨92, _, rfl, by decide, by decide, by decide⟩
          · rename_i hc
            have hc' : special c = false := by
              cases he : special c with
              | false => rfl
              | true => exact absurd (by rw [he]; rfl) hc
            have hf := plain_facts hc'
            exact ⟨c, _, rfl, hf.1, hf.2.2.2.2.1, hf.2.2.2.2.2.1⟩
        obtain ⟨e, u, he, h1, h2, h3⟩ := hh
        refine ⟨⟨e, u, he, h1⟩, ?_⟩
        rw [he] at hb ⊢
        rw [List.cons_append, elemE, if_neg (by simpa using h2), if_neg (by simpa using h3), ← List.cons_append, hb]
theorem listE_quoted : ∀ (l : List Str), listE (quotedL l) = .inr l
  | [] => by rw [quotedL, listE]
  | [s] => by
    obtain ⟨⟨e, u, he, hw⟩, h⟩ := elemE_quote s [] rfl
    rw [List.append_nil] at h
    show listE (quote s) = _
    rw [he] at h ⊢
    rw [listE_cons hw, h]
    dsimp only
    rw [if_pos (show spaced [] = true from rfl), listE]
  | s :: s' :: l => by
    obtain ⟨⟨e, u, he, hw⟩, h⟩ := elemE_quote s (32 :: quotedL (s' :: l)) rfl
    rw [quotedL_two]
    rw [he] at h ⊢
    rw [List.cons_append] at h ⊢
    rw [listE_cons hw, h]
    dsimp only
    rw [if_pos (show spaced (32 :: quotedL (s' :: l)) = true from rfl), listE_white (by decide), listE_quoted (s' :: l)]
theorem splitE_quoted (l : List Str) (h : l.length ≤ 10000) : splitE (quotedL l) = (l, 0, 0) := by
  unfold splitE
  rw [listE_quoted]
  dsimp only
  rw [if_pos h]
end Go.Proofs.YtabhkoklcjhlpaaGreatDoor.Pz
/-
  Unescaped, plain: what is read of an element is its bytes unescaped.
-/
namespace Go.Proofs.YtabhkoklcjhlpaaGreatDoor.Pz
theorem suf_same {a r p : Str} (h : a ++ r = p ++ r) : a = p := List.append_cancel_right h
theorem suf_short {r x p : Str} (h : x <:+ r) (he : x = p ++ r) : p = [] ∧ x = r := by
  have h1 := h.length_le
  have h2 : p = [] := by
    rw [he, List.length_append] at h1
    exact List.length_eq_zero_iff.1 (by omega)
  subst h2
  exact ⟨rfl, he⟩
theorem digs_cut (b : Nat) : ∀ (n v : Nat) (a r p : Str), (digs b n v (a ++ r)).2 = p ++ r → digs b n v a = ((digs b n v (a ++ r)).1, p)
  | 0, v, a, r, p, h => by
    obtain rfl : a = p := suf_same h
    rfl
  | n + 1, v, [], [], p, h => by
    have : p = [] := by simpa [digs] using h.symm
    subst this
    rfl
  | n + 1, v, [], c :: t, p, h => by
    obtain ⟨rfl, h2⟩ := suf_short (digs_suf b (n + 1) v (c :: t)) h
    rw [List.nil_append] at h ⊢
    rw [digs] at h ⊢
    cases hd : digv b c with
    | none => rfl
    | some d =>
      rw [hd] at h
      dsimp only at h
      have := suf_len (digs_suf b n (v * b + d) t)
      rw [h] at this
      simp at this
      omega
  | n + 1, v, c :: a, r, p, h => by
    rw [List.cons_append] at h ⊢
    rw [digs] at h ⊢
    rw [digs]
    cases hd : digv b c with
    | none =>
      rw [hd] at h
      dsimp only at h ⊢
      have : c :: a = p := suf_same (r := r) (by simpa using h)
      rw [this]
    | some d =>
      rw [hd] at h
      dsimp only at h ⊢
      exact digs_cut b n _ a r p h
theorem blanks0_cut : ∀ (a r p : Str), blanks0 (a ++ r) = p ++ r → blanks0 a = p
  | [], [], p, h => by
    have : p = [] := by simpa [blanks0] using h.symm
    subst this
    rfl
  | [], c :: t, p, h => by
    obtain ⟨rfl, _⟩ := suf_short (blanks0_suf (c :: t)) h
    rfl
  | c :: a, r, p, h => by
    rw [List.cons_append, blanks0] at h
    rw [blanks0]
    split
    · rename_i hc
      rw [if_pos hc] at h
      exact blanks0_cut a r p h
    · rename_i hc
      rw [if_neg hc] at h
      exact suf_same (r := r) (by simpa using h)
theorem unesc1_cut (c : UInt8) (a r p : Str) (h : (unesc1 c (a ++ r)).2 = p ++ r) : unesc1 c a = ((unesc1 c (a ++ r)).1, p) := by
  unfold unesc1 at h ⊢
  cases hn : named1 c with
  | some x =>
    rw [hn] at h
    dsimp only at h ⊢
    rw [suf_same h]
  | none =>
    rw [hn] at h
    dsimp only at h ⊢
    by_cases h10 : (c == 10) = true
    · rw [if_pos h10] at h ⊢
      rw [if_pos h10, blanks0_cut a r p h]
    · rw [if_neg h10] at h ⊢
      rw [if_neg h10]
      by_cases h120 : (c == 120) = true
      · rw [if_pos h120] at h ⊢
        rw [if_pos h120]
        by_cases hl : (digs 16 2 0 (a ++ r)).2.length < (a ++ r).length
        · rw [if_pos hl] at h ⊢
          have hd := digs_cut 16 2 0 a r p h
          dsimp only at h
          rw [h] at hl
          rw [hd, if_pos (by simpa using hl)]
        · rw [if_neg hl] at h ⊢
          obtain rfl : a = p := suf_same h
          have hs := digs_suf 16 2 0 (a ++ r)
          have he : (digs 16 2 0 (a ++ r)).2 = a ++ r := hs.eq_of_length (by have := hs.length_le; omega)
          rw [digs_cut 16 2 0 a r a he, if_neg (by simp)]
      · rw [if_neg h120] at h ⊢
        rw [if_neg h120]
        by_cases hl : (digs 8 3 0 (c :: (a ++ r))).2.length < (c :: (a ++ r)).length
        · rw [if_pos hl] at h ⊢
          have hd := digs_cut 8 3 0 (c :: a) r p h
          rw [List.cons_append] at hd
          dsimp only at h
          rw [h] at hl
          rw [hd, if_pos (by simp at hl ⊢; omega)]
        · rw [if_neg hl] at h ⊢
          obtain rfl : a = p := suf_same h
          have hs := digs_suf 8 3 0 (c :: (a ++ r))
          have he : (digs 8 3 0 (c :: (a ++ r))).2 = c :: (a ++ r) := hs.eq_of_length (by have := hs.length_le; omega)
          have hd := digs_cut 8 3 0 (c :: a) r (c :: a) he
          rw [hd, if_neg (by simp)]
theorem unesc_cut (a r p : Str) (h : (unesc (a ++ r)).2 = p ++ r) : unesc a = ((unesc (a ++ r)).1, p) := by
  cases a with
  | nil =>
    cases r with
    | nil =>
      have : p = [] := by simpa [unesc] using h.symm
      subst this
      rfl
    | cons c t =>
      have h1 := suf_len (unesc1_suf c t)
      have h2 : (unesc1 c t).2 = p ++ c :: t := h
      rw [h2] at h1
      simp at h1
      omega
  | cons c a => exact unesc1_cut c a r p h
/-- all escaped bytes replaced -/
def unescAll : Str → Str
  | [] => []
  | c :: t => if c == 92 then (unesc t).1 ++ unescAll (unesc t).2 else c :: unescAll t
termination_by l => l.length
decreasing_by
  · have := suf_len (unesc_suf t)
    simp only [List.length_cons]
    omega
  · simp
theorem unescAll_cons (c : UInt8) (t : Str) : unescAll (c :: t) = if c == 92 then (unesc t).1 ++ unescAll (unesc t).2 else c :: unescAll t := by rw [unescAll]
theorem bareE_text : ∀ (n : Nat) (l : Str), l.length ≤ n → ∃ p, l = p ++ (bareE l).2 ∧ unescAll p = (bareE l).1
  | _, [], _ => ⟨[], by rw [bareE]; rfl, by rw [bareE, unescAll]⟩
  | 0, c :: t, hn => absurd hn (by simp)
  | n + 1, c :: t, hn => by
    have ht : t.length ≤ n := by simpa using hn
    rw [bareE]
    split
    · exact ⟨[], rfl, by rw [unescAll]⟩
    · split
      · rename_i h92
        have hu := suf_len (unesc_suf t)
        obtain ⟨p, h1, h2⟩ := bareE_text n (unesc t).2 (by omega)
        obtain ⟨q, hq⟩ := unesc_suf t
        refine ⟨c :: (q ++ p), ?_, ?_⟩
        · show c :: t = c :: (q ++ p) ++ (bareE (unesc t).2).2
          rw [List.cons_append, List.append_assoc, ← h1, hq]
        · have ht2 : q ++ p ++ (bareE (unesc t).2).2 = t := by rw [List.append_assoc, ← h1, hq]
          have hc := unesc_cut (q ++ p) (bareE (unesc t).2).2 p (by rw [ht2]; exact h1)
          rw [ht2] at hc
          rw [unescAll_cons, if_pos h92, hc, h2]
          rfl
      · rename_i h92
        obtain ⟨p, h1, h2⟩ := bareE_text n t ht
        refine ⟨c :: p, ?_, ?_⟩
        · show c :: t = c :: p ++ (bareE t).2
          rw [List.cons_append, ← h1]
        · rw [unescAll_cons, if_neg h92, h2]
          rfl
theorem quotedE_text : ∀ (n : Nat) (l : Str), l.length ≤ n → ∀ x r, quotedE l = some (x, r) → ∃ p, l = p ++ 34 :: r ∧ unescAll p = x
  | _, [], _, x, r, h => by rw [quotedE] at h; cases h
  | 0, c :: t, hn, _, _, _ => absurd hn (by simp)
  | n + 1, c :: t, hn, x, r, h => by
    have ht : t.length ≤ n := by simpa using hn
    rw [quotedE] at h
    split at h
    · rename_i h34
      simp only [Option.some.injEq, Prod.mk.injEq] at h
      obtain ⟨rfl, rfl⟩ := h
      exact ⟨[], by rw [beq_iff_eq.1 h34]; rfl, by rw [unescAll]⟩
    · split at h
      · rename_i h92
        obtain ⟨x', h', rfl⟩ := pre_some h
        have hu := suf_len (unesc_suf t)
        obtain ⟨p, h1, h2⟩ := quotedE_text n _ (by omega) _ _ h'
        obtain ⟨q, hq⟩ := unesc_suf t
        have ht2 : q ++ p ++ 34 :: r = t := by rw [List.append_assoc, ← h1, hq]
        refine ⟨c :: (q ++ p), ?_, ?_⟩
        · rw [List.cons_append, ht2]
        · have hc := unesc_cut (q ++ p) (34 :: r) p (by rw [ht2]; exact h1)
          rw [ht2] at hc
          rw [unescAll_cons, if_pos h92, hc, h2]
      · rename_i h92
        obtain ⟨x', h', rfl⟩ := pre_some h
        obtain ⟨p, h1, h2⟩ := quotedE_text n t ht _ _ h'
        exact ⟨c :: p, by rw [h1]; rfl, by rw [unescAll_cons, if_neg h92, h2]; rfl⟩
theorem unescAll_len : ∀ (n : Nat) (l : Str), l.length ≤ n → (∀ l, (unesc l).1.length = 1) → (unescAll l).length ≤ l.length
  | _, [], _, _ => by rw [unescAll]; simp
  | 0, c :: t, hn, _ => absurd hn (by simp)
  | n + 1, c :: t, hn, hu => by
    have ht : t.length ≤ n := by simpa using hn
    rw [unescAll_cons]
    split
    · have h1 := suf_len (unesc_suf t)
      have h2 := unescAll_len n (unesc t).2 (by omega) hu
      have h3 := hu t
      simp
      omega
    · have h2 := unescAll_len n t ht hu
      simp
      omega
end Go.Proofs.YtabhkoklcjhlpaaGreatDoor.Pz
/-
  dict, plain: keys and values by turns, read back.
-/
namespace Go.Proofs.YtabhkoklcjhlpaaGreatDoor.Pz
theorem idx_none {l : List Str} {s : Str} : idx l s = none ↔ s ∉ l := by
  induction l with
  | nil => simp [idx]
  | cons x l ih =>
    rw [idx]
    by_cases h : x = s
    · subst h; simp
    · rw [if_neg h, Option.map_eq_none_iff, ih]
      simp [Ne.symm h]
theorem idx_some {l : List Str} {s : Str} {i : Nat} (h : idx l s = some i) : l[i]? = some s := by
  induction l generalizing i with
  | nil => cases h
  | cons x l ih =>
    rw [idx] at h
    split at h
    · rename_i hx
      simp only [Option.some.injEq] at h
      subst h
      simp [hx]
    · obtain ⟨j, hj, rfl⟩ := Option.map_eq_some_iff.1 h
      simpa using ih hj
theorem idx_first {l : List Str} {s : Str} {i : Nat} (h : l[i]? = some s) (hn : ∀ j, j < i → l[j]? ≠ some s) : idx l s = some i := by
  induction l generalizing i with
  | nil => simp at h
  | cons x l ih =>
    rw [idx]
    cases i with
    | zero =>
      have : x = s := by simpa using h
      rw [if_pos this]
    | succ i =>
      have h0 : x ≠ s := by
        have := hn 0 (by omega)
        simpa using this
      rw [if_neg h0, ih (i := i) (by simpa using h) (fun j hj => by
        have := hn (j + 1) (by omega)
        simpa using this)]
      rfl
theorem flatP_cons (k v : Str) (Ks Vs : List Str) : flatP ((k :: Ks).zip (v :: Vs)) = k :: v :: flatP (Ks.zip Vs) := rfl
theorem flat_key : ∀ (Ks Vs : List Str), Vs.length = Ks.length → ∀ i, (flatP (Ks.zip Vs))[2 * i]? = Ks[i]?
  | [], Vs, h, i => by simp [flatP]
  | k :: Ks, [], h, i => by simp at h
  | k :: Ks, v :: Vs, h, i => by
    rw [flatP_cons]
    cases i with
    | zero => rfl
    | succ i =>
      have := flat_key Ks Vs (by simpa using h) i
      rw [show 2 * (i + 1) = 2 * i + 1 + 1 by omega]
      simpa using this
theorem flat_val : ∀ (Ks Vs : List Str), Vs.length = Ks.length → ∀ i, (flatP (Ks.zip Vs))[2 * i + 1]? = Vs[i]?
  | [], Vs, h, i => by
    have : Vs = [] := List.length_eq_zero_iff.1 h
    subst this
    simp [flatP]
  | k :: Ks, [], h, i => by simp at h
  | k :: Ks, v :: Vs, h, i => by
    rw [flatP_cons]
    cases i with
    | zero => rfl
    | succ i =>
      have := flat_val Ks Vs (by simpa using h) i
      rw [show 2 * (i + 1) + 1 = 2 * i + 1 + 1 + 1 by omega]
      simpa using this
theorem flat_set : ∀ (Ks Vs : List Str), Vs.length = Ks.length → ∀ (i : Nat) (x : Str), (flatP (Ks.zip Vs)).set (2 * i + 1) x = flatP (Ks.zip (Vs.set i x))
  | [], Vs, h, i, x => by simp [flatP]
  | k :: Ks, [], h, i, x => by simp at h
  | k :: Ks, v :: Vs, h, i, x => by
    cases i with
    | zero => rfl
    | succ i =>
      rw [List.set_cons_succ, flatP_cons, flatP_cons, ← flat_set Ks Vs (by simpa using h) i x, show 2 * (i + 1) + 1 = 2 * i + 1 + 1 + 1 by omega]
      rfl
theorem flat_snoc (Ks Vs : List Str) (h : Vs.length = Ks.length) (k x : Str) : flatP ((Ks ++ [k]).zip (Vs ++ [x])) = flatP (Ks.zip Vs) ++ [k, x] := by
  rw [List.zip_append h.symm]
  exact flatP_snoc _ (k, x)
theorem flat_len {Ks Vs : List Str} (h : Vs.length = Ks.length) : (flatP (Ks.zip Vs)).length = 2 * Ks.length := by
  rw [flatP_len, List.length_zip, h, Nat.min_self]
theorem setV_len {Ks Vs : List Str} (h : Vs.length = Ks.length) (k x : Str) : (setV Ks Vs k x).length = (setK Ks k).length := by
  unfold setV setK
  split <;> simp [h]
theorem setK_nodup {Ks : List Str} (h : Ks.Nodup) (k : Str) : (setK Ks k).Nodup := by
  unfold setK
  cases hi : idx Ks k with
  | some i => exact h
  | none =>
    have := idx_none.1 hi
    dsimp only
    rw [List.nodup_append]
    exact ⟨h, by simp, fun a ha b hb => by
      simp only [List.mem_singleton] at hb
      subst hb
      exact fun e => this (e ▸ ha)⟩
theorem bookOf_good : ∀ (l Ks Vs : List Str), Vs.length = Ks.length → Ks.Nodup → (bookOf Ks Vs l).2.length = (bookOf Ks Vs l).1.length ∧ (bookOf Ks Vs l).1.Nodup
  | [], _, _, h, hn => by simp [bookOf, h, hn]
  | [_], _, _, h, hn => by simp [bookOf, h, hn]
  | k :: x :: l, Ks, Vs, h, hn => by
    rw [bookOf]
    exact bookOf_good l _ _ (setV_len h k x) (setK_nodup hn k)
theorem bookOf_flat : ∀ (Ks2 Vs2 : List Str), Vs2.length = Ks2.length → ∀ (Ks Vs : List Str), (Ks ++ Ks2).Nodup → bookOf Ks Vs (flatP (Ks2.zip Vs2)) = (Ks ++ Ks2, Vs ++ Vs2)
  | [], Vs2, h, Ks, Vs, _ => by
    have : Vs2 = [] := List.length_eq_zero_iff.1 h
    subst this
    simp [flatP, bookOf]
  | k :: Ks2, [], h, Ks, Vs, _ => by simp at h
  | k :: Ks2, v :: Vs2, h, Ks, Vs, hn => by
    have hk : idx Ks k = none := idx_none.2 fun hm => by
      rw [List.nodup_append] at hn
      exact hn.2.2 k hm k (by simp) rfl
    rw [flatP_cons, bookOf]
    unfold setK setV
    rw [hk]
    dsimp only
    have := bookOf_flat Ks2 Vs2 (by simpa using h) (Ks ++ [k]) (Vs ++ [v]) (by simpa using hn)
    simpa using this
/-- keys and values by turns, each key once -/
def DictL (l : List Str) : Prop := ∃ Ks Vs : List Str, Vs.length = Ks.length ∧ Ks.Nodup ∧ l = flatP (Ks.zip Vs)
theorem pairsE_dict (s : Str) : DictL (pairsE s).1 := by
  unfold pairsE
  split
  · have h := bookOf_good (splitE s).1 [] [] rfl List.nodup_nil
    exact ⟨_, _, h.1, h.2, rfl⟩
  · exact ⟨[], [], rfl, List.nodup_nil, rfl⟩
theorem pairsE_quoted {l : List Str} (hd : DictL l) (h : l.length ≤ 10000) : pairsE (quotedL l) = (l, 0) := by
  obtain ⟨Ks, Vs, hl, hn, rfl⟩ := hd
  unfold pairsE
  rw [splitE_quoted _ h]
  dsimp only
  rw [if_pos ⟨rfl, by rw [flat_len hl]; omega⟩, bookOf_flat Ks Vs hl [] [] (by simpa using hn)]
  rfl
end Go.Proofs.YtabhkoklcjhlpaaGreatDoor.Pz
/-
  The reference 01: within, White, stands, First.
-/
namespace Go.Proofs.YtabhkoklcjhlpaaGreatDoor.Pz
open Go.RowKit
set_option maxRecDepth 100000 in
theorem within1_fn (n lo hi : Int) (w : World) : Calls Tryz.prog 119 #[.int .i64 n, .int .i64 lo, .int .i64 hi] w fun e w' => e = .returned (.bool (decide (lo ≤ n) && decide (n ≤ hi))) ∧ w' = w := by
  obtain ⟨R, hR⟩ : ∃ R, R = (decide (lo ≤ n) && decide (n ≤ hi)) := ⟨_, rfl⟩
  rw [← hR]
  have HR := hid hR
  clear hR
  by_cases h1 : n ≥ lo
  · by_cases h2 : n ≤ hi
    · have hr : R = true := by rw [HR.out, decide_eq_true h1, decide_eq_true h2]; rfl
      subst hr
      go_enter Tryz.func119, Tryz.ntmps119
      go_wp2
      go_ret
      exact ⟨rfl, rfl⟩
    · have hr : R = false := by rw [HR.out, decide_eq_true h1, decide_eq_false h2]; rfl
      subst hr
      go_enter Tryz.func119, Tryz.ntmps119
      go_wp2
      go_ret
      exact ⟨rfl, rfl⟩
  · have hr : R = false := by rw [HR.out, decide_eq_false h1]; rfl
    subst hr
    go_enter Tryz.func119, Tryz.ntmps119
    go_wp2
    go_ret
    exact ⟨rfl, rfl⟩
set_option maxRecDepth 100000 in
theorem whiteR_fn (c : UInt8) (w : World) : Calls Tryz.prog 91 #[.int .u8 (c.toNat : Nat)] w fun e w' => e = .returned (.bool (white c)) ∧ w' = w := by
  have hc := hid (within1_fn (c.toNat : Nat) 9 13 w)
  have hW := hid (white_nat c)
  have hl : c.toNat < 256 := c.toNat_lt
  generalize white c = W at hW ⊢
  generalize c.toNat = x at hl hW hc ⊢
  by_cases h1 : 9 ≤ x ∧ x ≤ 13
  · have hd : (decide ((9 : Int) ≤ (x : Int)) && decide ((x : Int) ≤ 13)) = true := by simp; omega
    rw [hd] at hc
    go_enter Tryz.func91, Tryz.ntmps91
    go_wp2_with fail
    (with_reducible refine hc.out.mono ?_); rintro e w1 ⟨rfl, hw⟩; subst w1
    go_wp2
    go_ret
    exact ⟨by rw [hW.out, decide_eq_true h1.1, decide_eq_true h1.2]; rfl, rfl⟩
  · have hd : (decide ((9 : Int) ≤ (x : Int)) && decide ((x : Int) ≤ 13)) = false := by
      rw [Bool.eq_false_iff]
      intro e
      simp at e
      omega
    have hn : (decide (9 ≤ x) && decide (x ≤ 13)) = false := by
      rw [Bool.eq_false_iff]
      intro e
      simp at e
      omega
    rw [hd] at hc
    by_cases h3 : x = 32
    · have h4 : ((x : Int) == 32) = true := by rw [h3]; rfl
      have H3 := hid h3
      clear h3
      go_enter Tryz.func91, Tryz.ntmps91
      go_wp2_with fail
      (with_reducible refine hc.out.mono ?_); rintro e w1 ⟨rfl, hw⟩; subst w1
      go_wp2
      go_ret
      exact ⟨by rw [hW.out, H3.out]; rfl, rfl⟩
    · have h4 : ((x : Int) == 32) = false := by simp; omega
      go_enter Tryz.func91, Tryz.ntmps91
      go_wp2_with fail
      (with_reducible refine hc.out.mono ?_); rintro e w1 ⟨rfl, hw⟩; subst w1
      go_wp2
      go_ret
      refine ⟨?_, rfl⟩
      rw [hW.out, hn, decide_eq_false h3]
      rfl
theorem pre_take (n l : Str) (_h : n.length ≤ l.length) : n.isPrefixOf l = (l.take n.length == n) := by
  rw [Bool.eq_iff_iff, List.isPrefixOf_iff_prefix, beq_iff_eq, List.prefix_iff_eq_take]
  exact ⟨fun h => h.symm, fun h => h.symm⟩
theorem pre_short (n l : Str) (h : l.length < n.length) : n.isPrefixOf l = false := by
  rw [Bool.eq_false_iff]
  intro e
  have := (List.isPrefixOf_iff_prefix.1 e).length_le
  omega
set_option maxRecDepth 100000 in
theorem stands_fn (n s l : Str) (i : Nat) (h : At s l i) (_hs : s.length ≤ 1000000000) (_hn : n.length ≤ 1000000000) (w : World) :
    Calls Tryz.prog 154 #[.string ⟨n.toArray⟩, .string ⟨s.toArray⟩, .int .i64 (i : Nat)] w fun e w' => e = .returned (.bool (n.isPrefixOf l)) ∧ w' = w := by
  have hsz : (⟨s.toArray⟩ : ByteArray).size = s.length := Lib.size_mk _
  have hnz : (⟨n.toArray⟩ : ByteArray).size = n.length := Lib.size_mk _
  have hlen := h.len
  rcases Nat.lt_or_ge l.length n.length with hlt | hge
  · rw [pre_short n l hlt]
    have h1 : ¬ ((i : Int) ≤ (s.length : Int) - (n.length : Int)) := by omega
    go_enter Tryz.func154, Tryz.ntmps154
    go_wp2
    go_ret
    exact ⟨rfl, rfl⟩
  · have h1 : (i : Int) ≤ (s.length : Int) - (n.length : Int) := by omega
    have hex : (⟨s.toArray⟩ : ByteArray).extract i (i + n.length) = ⟨(l.take n.length).toArray⟩ := by
      have h' : At s (l.take n.length ++ l.drop n.length) i := by rw [List.take_append_drop]; exact h
      have := h'.text
      rw [List.length_take, Nat.min_eq_left hge] at this
      exact this
    obtain ⟨R, hR⟩ : ∃ R, R = n.isPrefixOf l := ⟨_, rfl⟩
    rw [← hR]
    rw [pre_take n l hge] at hR
    have HR := hid hR
    clear hR
    go_enter Tryz.func154, Tryz.ntmps154
    go_wp2
    go_ret
    refine ⟨?_, rfl⟩
    rw [HR.out]
    rfl
/-- the first place, from a place on, at which a needle stands -/
def firstI (n : Str) (f : Int) : Nat → Str → Int
  | _, [] => -1
  | i, c :: t => if decide (f ≤ (i : Int)) && n.isPrefixOf (c :: t) then (i : Int) else firstI n f (i + 1) t
set_option maxRecDepth 100000 in
set_option maxHeartbeats 1000000 in
theorem first_fn (n s : Str) (f : Int) (hn : n ≠ []) (hs : s.length ≤ 1000000000) (hnl : n.length ≤ 1000000000) (w : World) :
    Calls Tryz.prog 130 #[.string ⟨n.toArray⟩, .string ⟨s.toArray⟩, .int .i64 f] w fun e w' => e = .returned (.int .i64 (firstI n f 0 s)) ∧ w' = w := by
  have hsz : (⟨s.toArray⟩ : ByteArray).size = s.length := Lib.size_mk _
  have hne : n.isEmpty = false := by simpa using hn
  obtain ⟨R, hR⟩ : ∃ R, R = firstI n f 0 s := ⟨_, rfl⟩
  rw [← hR]
  have HR := hid hR
  clear hR
  go_enter Tryz.func130, Tryz.ntmps130
  go_wp2_with fail
  go_loopg [10] s.length (fun k iv wr => ∃ (i : Nat) (rest : Str), iv = .int .i64 (i : Nat) ∧ At s rest i ∧ R = firstI n f i rest ∧ wr = w ∧ k = rest.length)
  case atStart => exact ⟨0, s, rfl, At.start s, HR.out, rfl, rfl⟩
  case round =>
    obtain ⟨i, rest, rfl, ha, hr, hw, rfl⟩ := hrel
    replace hw := hw.symm
    subst hw
    have HR2 := hid hr
    clear hr HR
    cases rest with
    | nil =>
      have hge : s.length ≤ i := ha.nil_iff.1 rfl
      go_wp2
      go_ret
      exact ⟨by rw [HR2.out]; rfl, rfl⟩
    | cons c t =>
      have hlt := ha.lt
      have hst := stands_fn n s (c :: t) i ha hs hnl w
      obtain ⟨S, hS⟩ : ∃ S, S = n.isPrefixOf (c :: t) := ⟨_, rfl⟩
      have hr2 : R = if decide (f ≤ (i : Int)) && S then (i : Int) else firstI n f (i + 1) t := by rw [HR2.out, hS]; rfl
      rw [← hS] at hst
      have HS := hid hst
      have HR3 := hid hr2
      clear hS hst hr2 HR2
      by_cases hf : f ≤ (i : Int)
      · cases S with
        | true =>
          go_wp2_with fail
          (with_reducible refine HS.out.mono ?_); rintro e w1 ⟨rfl, hw⟩; subst w1
          go_wp2
          go_ret
          refine ⟨?_, rfl⟩
          rw [HR3.out, decide_eq_true hf]
          rfl
        | false =>
          have hR4 : R = firstI n f (i + 1) t := by rw [HR3.out, Bool.and_false, if_neg (by simp)]
          have HR4 := hid hR4
          clear hR4
          go_wp2_with fail
          (with_reducible refine HS.out.mono ?_); rintro e w1 ⟨rfl, hw⟩; subst w1
          go_wp2
          go_roundg t.length
          case measure => simp
          case rel => exact ⟨i + 1, t, by go_num, ha.tail, HR4.out, rfl, rfl⟩
      · have hR4 : R = firstI n f (i + 1) t := by rw [HR3.out, decide_eq_false hf, Bool.false_and, if_neg (by simp)]
        have HR4 := hid hR4
        clear hR4
        go_wp2
        go_roundg t.length
        case measure => simp
        case rel => exact ⟨i + 1, t, by go_num, ha.tail, HR4.out, rfl, rfl⟩
end Go.Proofs.YtabhkoklcjhlpaaGreatDoor.Pz
/-
  The reference's First; its Quote.
-/
namespace Go.Proofs.YtabhkoklcjhlpaaGreatDoor.Pz
open Go.RowKit
theorem first_has (c : UInt8) : ∀ (l : Str) (i : Nat), decide (0 ≤ firstI [c] 0 i l) = l.contains c
  | [], _ => rfl
  | d :: t, i => by
    have ih := first_has c t (i + 1)
    rw [firstI, List.contains_cons, decide_eq_true (show (0 : Int) ≤ (i : Int) by omega), Bool.true_and]
    have hp : ([c] : Str).isPrefixOf (d :: t) = (c == d) := by simp [List.isPrefixOf]
    rw [hp]
    by_cases h : (c == d) = true
    · rw [if_pos h, h, Bool.true_or]
      simp
    · rw [if_neg h, ih]
      rw [Bool.not_eq_true] at h
      rw [h, Bool.false_or]
theorem first_bn : ∀ (l : Str) (i : Nat), decide (firstI [92, 10] 0 i l < 0) = !hasBN l
  | [], _ => rfl
  | c :: t, i => by
    have ih := first_bn t (i + 1)
    rw [firstI, hasBN, decide_eq_true (show (0 : Int) ≤ (i : Int) by omega), Bool.true_and]
    have hp := pre_bn c t
    rw [hp]
    by_cases h : (c == 92 && t.head? == some 10) = true
    · rw [if_pos h, h]
      simp
    · rw [if_neg h, ih]
      rw [Bool.not_eq_true] at h
      rw [h, Bool.false_or]
end Go.Proofs.YtabhkoklcjhlpaaGreatDoor.Pz
/-
  The reference's Quote.
-/
namespace Go.Proofs.YtabhkoklcjhlpaaGreatDoor.Pz
open Go.RowKit
set_option maxRecDepth 100000 in
set_option maxHeartbeats 1000000 in
theorem specialR_fn (c : UInt8) (w : World) : Calls Tryz.prog 104 #[.int .u8 (c.toNat : Nat)] w fun e w' => e = .returned (.bool (special c)) ∧ Below w.heap.size w w' := by
  have hwc := whiteR_fn c w
  have hfc := fun u => first_fn [c] [34, 92, 123, 125, 36, 91, 93, 59] 0 (by simp) (by simp) (by simp) u
  have hcv := fun u => one_back c u
  obtain ⟨I, hI⟩ : ∃ I, I = firstI [c] 0 0 [34, 92, 123, 125, 36, 91, 93, 59] := ⟨_, rfl⟩
  obtain ⟨W, hW⟩ : ∃ W, W = white c := ⟨_, rfl⟩
  obtain ⟨S, hS⟩ : ∃ S, S = special c := ⟨_, rfl⟩
  have hS2 : S = (W || decide (0 ≤ I)) := by rw [hS, special, hW, hI, first_has]
  rw [← hW] at hwc
  rw [← hS]
  rw [← hI] at hfc
  have HC := hid hfc
  have HW := hid hwc
  have HS := hid hS2
  clear hfc hwc hS hS2 hW hI
  cases W with
  | true =>
    go_enter Tryz.func104, Tryz.ntmps104
    go_wp2_with fail
    (with_reducible refine HW.out.mono ?_); rintro e w1 ⟨rfl, hw⟩; subst w1
    go_wp2
    go_ret
    exact ⟨by rw [HS.out]; rfl, Below.refl _ _⟩
  | false =>
    go_enter Tryz.func104, Tryz.ntmps104
    go_wp2_with fail
    (with_reducible refine HW.out.mono ?_); rintro e w1 ⟨rfl, hw⟩; subst w1
    go_wp2_with fail
    (with_reducible refine (HC.out _).mono ?_); rintro e w1 ⟨rfl, hw⟩; subst w1
    go_wp2
    go_ret
    exact ⟨by rw [HS.out]; rfl, (Below.refl _ _).alloc (Nat.le_refl _) _⟩
set_option maxRecDepth 100000 in
set_option maxHeartbeats 2000000 in
theorem balancedR_fn (s : Str) (hs : s.length ≤ 1000000) (w : World) :
    Calls Tryz.prog 105 #[.string ⟨s.toArray⟩] w fun e w' => e = .returned (.bool (balanced s)) ∧ w' = w := by
  have hsz : (⟨s.toArray⟩ : ByteArray).size = s.length := Lib.size_mk _
  obtain ⟨B, hB⟩ : ∃ B, B = bal 0 s := ⟨_, rfl⟩
  obtain ⟨R, hR⟩ : ∃ R, R = balanced s := ⟨_, rfl⟩
  have hc := first_fn [92, 10] s 0 (by simp) (by omega) (by simp) w
  obtain ⟨I, hI⟩ : ∃ I, I = firstI [92, 10] 0 0 s := ⟨_, rfl⟩
  have hIH := first_bn s 0
  rw [← hI] at hc hIH
  have hR2 : R = (B && decide (I < 0)) := by rw [hR, hB, hIH]; rfl
  rw [← hR]
  have HC := hid hc
  have HB := hid hB
  have HR := hid hR2
  clear hc hB hR2 hR hI hIH
  go_enter Tryz.func105, Tryz.ntmps105
  go_wp2_with fail
  go_loopg [3, 4] s.length (fun k dv iv wr => ∃ (i d : Nat) (rest : Str), dv = .int .i64 (d : Nat) ∧ iv = .int .i64 (i : Nat) ∧ At s rest i ∧ B = bal d rest ∧ wr = w ∧ k = rest.length ∧ d ≤ i)
  case atStart => exact ⟨0, 0, s, rfl, rfl, At.start s, HB.out, rfl, rfl, Nat.le_refl _⟩
  case round =>
    obtain ⟨i, d, rest, rfl, rfl, ha, hb, hw, rfl, hd⟩ := hrel
    subst hw
    have HB2 := hid hb
    clear hb HB
    have hle : i ≤ s.length := by have := ha.len; omega
    cases rest with
    | nil =>
      have hge : s.length ≤ i := ha.nil_iff.1 rfl
      have HB3 : B = (d == 0) := by rw [HB2.out]; rfl
      have HB4 := hid HB3
      clear HB3 HB2
      by_cases h0 : d = 0
      · subst h0
        go_wp2_with fail
        (with_reducible refine HC.out.mono ?_); rintro e w1 ⟨rfl, hw⟩; subst w1
        go_wp2
        go_ret
        exact ⟨by rw [HR.out, HB4.out]; rfl, rfl⟩
      · have hne : ((d : Int) == 0) = false := by rw [beq_eq_false_iff_ne]; omega
        go_wp2
        go_ret
        refine ⟨?_, rfl⟩
        rw [HR.out, HB4.out, show (d == 0) = false by simpa using h0]
        rfl
    | cons c t =>
      have hlt := ha.lt
      have hx := ha.byte
      have hlen := ha.len
      simp only [List.length_cons] at hlen
      by_cases h92 : c = 92
      · subst h92
        cases t with
        | nil =>
          have he : ((i : Int) + 1 == (s.length : Int)) = true := by rw [beq_iff_eq]; simp at hlen; omega
          go_wp2
          go_ret
          exact ⟨by rw [HR.out, HB2.out, bal_cons]; rfl, rfl⟩
        | cons e t =>
          simp only [List.length_cons] at hlen
          have he : ((i : Int) + 1 == (s.length : Int)) = false := by rw [beq_eq_false_iff_ne]; omega
          go_wp2
          go_roundg t.length
          case measure => simp; omega
          case rel => exact ⟨i + 2, d, t, rfl, by rw [Value.int.injEq]; exact ⟨rfl, by omega⟩, ha.tail.tail, by rw [HB2.out, bal_cons]; rfl, rfl, rfl, by omega⟩
      · have n92 := byte_ne 92 h92 rfl
        by_cases h123 : c = 123
        · subst h123
          go_wp2
          go_roundg t.length
          case measure => simp
          case rel => exact ⟨i + 1, d + 1, t, by go_num, by go_num, ha.tail, by rw [HB2.out, bal_cons]; rfl, rfl, rfl, by omega⟩
        · have n123 := byte_ne 123 h123 rfl
          by_cases h125 : c = 125
          · subst h125
            cases d with
            | zero =>
              go_wp2
              go_ret
              exact ⟨by rw [HR.out, HB2.out, bal_cons]; rfl, rfl⟩
            | succ d =>
              have hnn : ¬ (((d + 1 : Nat) : Int) - 1 < 0) := by omega
              go_wp2
              go_roundg t.length
              case measure => simp
              case rel => exact ⟨i + 1, d, t, by rw [Value.int.injEq]; exact ⟨rfl, by omega⟩, by go_num, ha.tail, by rw [HB2.out, bal_cons]; rfl, rfl, rfl, by omega⟩
          · have n125 := byte_ne 125 h125 rfl
            go_wp2
            go_roundg t.length
            case measure => simp
            case rel => exact ⟨i + 1, d, t, rfl, by go_num, ha.tail, by rw [HB2.out, bal_cons, if_neg (by simpa using h92), if_neg (by simpa using h123), if_neg (by simpa using h125)], rfl, rfl, by omega⟩
set_option maxRecDepth 100000 in
set_option maxHeartbeats 4000000 in
theorem slashed_fn (s : Str) (hs : s.length ≤ 1000000) (w : World) :
    Calls Tryz.prog 106 #[.string ⟨s.toArray⟩] w fun e w' => e = .returned (.string ⟨(slash true s).toArray⟩) ∧ Below w.heap.size w w' := by
  have hsz : (⟨s.toArray⟩ : ByteArray).size = s.length := Lib.size_mk _
  obtain ⟨J, hJ⟩ : ∃ J, J = slash true s := ⟨_, rfl⟩
  rw [← hJ]
  have HJ := hid hJ
  clear hJ
  go_enter Tryz.func106, Tryz.ntmps106
  go_wp2_with fail
  go_loopg [3, 7] s.length (fun k sv jv wr => ∃ (j : Nat) (done rest : Str), sv = .string ⟨done.toArray⟩ ∧ jv = .int .i64 (j : Nat) ∧ At s rest j ∧ J = done ++ slash (j == 0) rest ∧ Below w.heap.size w wr ∧ k = rest.length ∧ done.length + 2 * rest.length ≤ 2 * s.length)
  case atStart => exact ⟨0, [], s, rfl, rfl, At.start s, by rw [HJ.out]; rfl, Below.refl _ _, rfl, by simp⟩
  case round =>
    obtain ⟨j, done, rest, rfl, rfl, ha, hj, hbl, rfl, hl⟩ := hrel
    have hds : (⟨done.toArray⟩ : ByteArray).size = done.length := Lib.size_mk _
    have HD := hid hj
    clear hj
    have hle : j ≤ s.length := by have := ha.len; omega
    have hsw := hbl.size
    cases rest with
    | nil =>
      have hge : s.length ≤ j := ha.nil_iff.1 rfl
      go_wp2
      go_ret
      exact ⟨by rw [HD.out]; simp [slash], hbl⟩
    | cons c t =>
      have hlt := ha.lt
      have hx := ha.byte
      have hlen := ha.len
      have hex : (⟨s.toArray⟩ : ByteArray).extract j (j + 1) = ⟨[c].toArray⟩ := At.text (x := [c]) ha
      simp only [List.length_cons] at hlen hl
      by_cases h13 : c.toNat ≤ 13 ∧ 9 ≤ c.toNat
      · have hw : white c = true := by rw [white_nat]; simp; omega
        have hsp : special c = true := by rw [special, hw]; rfl
        rcases special_split hsp with rfl | rfl | rfl | rfl | rfl | h14
        · have hk : (⟨#[116, 110, 118, 102, 114]⟩ : ByteArray).extract 0 1 = ⟨#[116]⟩ := by decide
          have k1 : IntKind.u8.wrap 0 = 0 := rfl
          have k2 : IntKind.u8.wrap 1 = 1 := rfl
          go_wp2
          go_quiet (fail)
          go_wp2
          go_roundg t.length
          case measure => simp
          case rel => exact ⟨j + 1, done ++ [92, 116], t, by rw [Value.string.injEq, ByteArray.ext_iff]; simp, by go_num, ha.tail, by rw [HD.out, slash_yes t (.inl hsp)]; simp [slash1], below_drewN hbl _, rfl, by simp; omega⟩
        · have hk : (⟨#[116, 110, 118, 102, 114]⟩ : ByteArray).extract 1 2 = ⟨#[110]⟩ := by decide
          have k1 : IntKind.u8.wrap 1 = 1 := rfl
          have k2 : IntKind.u8.wrap 2 = 2 := rfl
          go_wp2
          go_quiet (fail)
          go_wp2
          go_roundg t.length
          case measure => simp
          case rel => exact ⟨j + 1, done ++ [92, 110], t, by rw [Value.string.injEq, ByteArray.ext_iff]; simp, by go_num, ha.tail, by rw [HD.out, slash_yes t (.inl hsp)]; simp [slash1], below_drewN hbl _, rfl, by simp; omega⟩
        · have hk : (⟨#[116, 110, 118, 102, 114]⟩ : ByteArray).extract 2 3 = ⟨#[118]⟩ := by decide
          have k1 : IntKind.u8.wrap 2 = 2 := rfl
          have k2 : IntKind.u8.wrap 3 = 3 := rfl
          go_wp2
          go_quiet (fail)
          go_wp2
          go_roundg t.length
          case measure => simp
          case rel => exact ⟨j + 1, done ++ [92, 118], t, by rw [Value.string.injEq, ByteArray.ext_iff]; simp, by go_num, ha.tail, by rw [HD.out, slash_yes t (.inl hsp)]; simp [slash1], below_drewN hbl _, rfl, by simp; omega⟩
        · have hk : (⟨#[116, 110, 118, 102, 114]⟩ : ByteArray).extract 3 4 = ⟨#[102]⟩ := by decide
          have k1 : IntKind.u8.wrap 3 = 3 := rfl
          have k2 : IntKind.u8.wrap 4 = 4 := rfl
          go_wp2
          go_quiet (fail)
          go_wp2
          go_roundg t.length
          case measure => simp
          case rel => exact ⟨j + 1, done ++ [92, 102], t, by rw [Value.string.injEq, ByteArray.ext_iff]; simp, by go_num, ha.tail, by rw [HD.out, slash_yes t (.inl hsp)]; simp [slash1], below_drewN hbl _, rfl, by simp; omega⟩
        · have hk : (⟨#[116, 110, 118, 102, 114]⟩ : ByteArray).extract 4 5 = ⟨#[114]⟩ := by decide
          have k1 : IntKind.u8.wrap 4 = 4 := rfl
          have k2 : IntKind.u8.wrap 5 = 5 := rfl
          go_wp2
          go_quiet (fail)
          go_wp2
          go_roundg t.length
          case measure => simp
          case rel => exact ⟨j + 1, done ++ [92, 114], t, by rw [Value.string.injEq, ByteArray.ext_iff]; simp, by go_num, ha.tail, by rw [HD.out, slash_yes t (.inl hsp)]; simp [slash1], below_drewN hbl _, rfl, by simp; omega⟩
        · omega
      · have hn : ¬ ((9 : Int) ≤ (c.toNat : Int) ∧ (c.toNat : Int) ≤ 13) := by omega
        have hsp := specialR_fn c wr
        obtain ⟨S, hS⟩ : ∃ S, special c = S := ⟨_, rfl⟩
        rw [hS] at hsp
        have HQ := hid hS
        have HS := hid hsp
        clear hS hsp
        have hr : ∀ (h : special c = true ∨ ((j == 0) = true ∧ c = 35)), slash1 c = c := by
          rintro (h | ⟨_, rfl⟩)
          · rcases special_split h with rfl | rfl | rfl | rfl | rfl | h14
            · exact absurd ⟨by decide, by decide⟩ h13
            · exact absurd ⟨by decide, by decide⟩ h13
            · exact absurd ⟨by decide, by decide⟩ h13
            · exact absurd ⟨by decide, by decide⟩ h13
            · exact absurd ⟨by decide, by decide⟩ h13
            · exact slash1_same h14
          · rfl
        have HR := hid hr
        clear hr
        have h2 : ((9 : Int) ≤ (c.toNat : Int) ∧ ¬ (c.toNat : Int) ≤ 13) ∨ ¬ (9 : Int) ≤ (c.toNat : Int) := by omega
        clear hn
        cases S with
        | true =>
          rcases h2 with ⟨h9, h13'⟩ | h9
          · go_wp2_with fail
            (with_reducible refine HS.out.mono ?_); rintro e w1 ⟨rfl, hb1⟩
            go_wp2
            go_roundg t.length
            case measure => simp
            case rel => exact ⟨j + 1, done ++ [92, c], t, by rw [Value.string.injEq, ByteArray.ext_iff]; simp, by go_num, ha.tail, by rw [HD.out, slash_yes (b := (j == 0)) t (.inl HQ.out), HR.out (.inl HQ.out)]; simp, hbl.trans (hb1.mono hsw), rfl, by simp; omega⟩
          · go_wp2_with fail
            (with_reducible refine HS.out.mono ?_); rintro e w1 ⟨rfl, hb1⟩
            go_wp2
            go_roundg t.length
            case measure => simp
            case rel => exact ⟨j + 1, done ++ [92, c], t, by rw [Value.string.injEq, ByteArray.ext_iff]; simp, by go_num, ha.tail, by rw [HD.out, slash_yes (b := (j == 0)) t (.inl HQ.out), HR.out (.inl HQ.out)]; simp, hbl.trans (hb1.mono hsw), rfl, by simp; omega⟩
        | false =>
          rcases h2 with ⟨h9, h13'⟩ | h9
          · by_cases h0 : j = 0
            · subst h0
              by_cases h35 : c = 35
              · subst h35
                replace HS := hid (show Calls Tryz.prog 104 #[.int .u8 35] wr _ from HS.out)
                go_wp2_with fail
                (with_reducible refine HS.out.mono ?_); rintro e w1 ⟨rfl, hb1⟩
                go_wp2
                go_roundg t.length
                case measure => simp
                case rel => exact ⟨0 + 1, done ++ [92, 35], t, by rw [Value.string.injEq, ByteArray.ext_iff]; simp, by go_num, ha.tail, by rw [HD.out, slash_yes (b := ((0 : Nat) == 0)) t (.inr ⟨rfl, rfl⟩), show slash1 35 = 35 from rfl]; simp, hbl.trans (hb1.mono hsw), rfl, by simp; omega⟩
              · have n35 := byte_ne 35 h35 rfl
                go_wp2_with fail
                (with_reducible refine HS.out.mono ?_); rintro e w1 ⟨rfl, hb1⟩
                go_wp2
                go_roundg t.length
                case measure => simp
                case rel => exact ⟨0 + 1, done ++ [c], t, by rw [Value.string.injEq, ByteArray.ext_iff]; simp, by go_num, ha.tail, by rw [HD.out, slash_no t HQ.out (fun _ => h35)]; simp, hbl.trans (hb1.mono hsw), rfl, by simp; omega⟩
            · have hj0 : ((j : Int) == 0) = false := by rw [beq_eq_false_iff_ne]; omega
              go_wp2_with fail
              (with_reducible refine HS.out.mono ?_); rintro e w1 ⟨rfl, hb1⟩
              go_wp2
              go_roundg t.length
              case measure => simp
              case rel => exact ⟨j + 1, done ++ [c], t, by rw [Value.string.injEq, ByteArray.ext_iff]; simp, by go_num, ha.tail, by rw [HD.out, slash_no t HQ.out (fun h => absurd (by simpa using h) h0)]; simp, hbl.trans (hb1.mono hsw), rfl, by simp; omega⟩
          · by_cases h0 : j = 0
            · subst h0
              by_cases h35 : c = 35
              · subst h35
                exact absurd (show (9 : Int) ≤ ((35 : UInt8).toNat : Int) by decide) h9
              · have n35 := byte_ne 35 h35 rfl
                go_wp2_with fail
                (with_reducible refine HS.out.mono ?_); rintro e w1 ⟨rfl, hb1⟩
                go_wp2
                go_roundg t.length
                case measure => simp
                case rel => exact ⟨0 + 1, done ++ [c], t, by rw [Value.string.injEq, ByteArray.ext_iff]; simp, by go_num, ha.tail, by rw [HD.out, slash_no t HQ.out (fun _ => h35)]; simp, hbl.trans (hb1.mono hsw), rfl, by simp; omega⟩
            · have hj0 : ((j : Int) == 0) = false := by rw [beq_eq_false_iff_ne]; omega
              go_wp2_with fail
              (with_reducible refine HS.out.mono ?_); rintro e w1 ⟨rfl, hb1⟩
              go_wp2
              go_roundg t.length
              case measure => simp
              case rel => exact ⟨j + 1, done ++ [c], t, by rw [Value.string.injEq, ByteArray.ext_iff]; simp, by go_num, ha.tail, by rw [HD.out, slash_no t HQ.out (fun h => absurd (by simpa using h) h0)]; simp, hbl.trans (hb1.mono hsw), rfl, by simp; omega⟩
set_option maxRecDepth 100000 in
set_option maxHeartbeats 4000000 in
theorem quoteR_fn (s : Str) (hs : s.length ≤ 1000000) (w : World) :
    Calls Tryz.prog 84 #[.string ⟨s.toArray⟩] w fun e w' => e = .returned (.string ⟨(quote s).toArray⟩) ∧ Below w.heap.size w w' := by
  cases s with
  | nil =>
    go_enter Tryz.func84, Tryz.ntmps84
    go_wp2
    go_ret
    exact ⟨rfl, Below.refl _ _⟩
  | cons c0 t0 =>
  have hsz : (⟨(c0 :: t0).toArray⟩ : ByteArray).size = (c0 :: t0).length := Lib.size_mk _
  have hx0 : ∀ h, (⟨(c0 :: t0).toArray⟩ : ByteArray)[0]'h = c0 := fun h => rfl
  have hemp : (c0 :: t0).isEmpty = false := rfl
  have hpos : 0 < (c0 :: t0).length := by simp
  have hst : At (c0 :: t0) (c0 :: t0) 0 := At.start _
  have hp2 : plainW (c0 :: t0) = (((c0.toNat : Int) != 35) && (c0 :: t0).all fun c => !special c) := by
    rw [show ((c0.toNat : Int) != 35) = (c0 != 35) by
      by_cases h : c0 = 35
      · subst h; rfl
      · rw [byte_ne' 35 h rfl]; exact (show (c0 != 35) = true by simpa using h).symm]
    rfl
  have hq : quote (c0 :: t0) = if plainW (c0 :: t0) = true then c0 :: t0 else if balanced (c0 :: t0) = true then 123 :: (c0 :: t0 ++ [125]) else slash true (c0 :: t0) := by
    unfold quote
    rw [if_neg (by simp)]
  generalize c0 :: t0 = s at *
  obtain ⟨R, hR⟩ : ∃ R, R = quote s := ⟨_, rfl⟩
  rw [← hR] at hq ⊢
  have hcat := cat3 s
  have HP := hid hp2
  have HQ := hid hq
  have HJ := hid hcat
  clear hp2 hq hR hcat
  go_enter Tryz.func84, Tryz.ntmps84
  go_wp2_with fail
  go_loopg [3, 12] s.length (fun k bv iv wr => ∃ (i : Nat) (b : Bool) (rest : Str), bv = .bool b ∧ iv = .int .i64 (i : Nat) ∧ At s rest i ∧ plainW s = (b && rest.all fun c => !special c) ∧ Below w.heap.size w wr ∧ k = rest.length)
  case atStart => exact ⟨0, ((c0.toNat : Int) != 35), s, rfl, rfl, hst, HP.out, Below.refl _ _, rfl⟩
  case round =>
    obtain ⟨i, b, rest, rfl, rfl, ha, hb, hbl, rfl⟩ := hrel
    have HB2 := hid hb
    clear hb HP hx0
    have hsw := hbl.size
    have hle : i ≤ s.length := by have := ha.len; omega
    cases rest with
    | nil =>
      have hge : s.length ≤ i := ha.nil_iff.1 rfl
      cases b with
      | true =>
        have hR2 : R = s := by rw [HQ.out, if_pos (show plainW s = true from HB2.out)]
        have HR := hid hR2
        clear hR2
        go_wp2
        go_ret
        rw [HR.out]
        exact ⟨rfl, hbl⟩
      | false =>
        have hbc := balancedR_fn s hs wr
        have hn : ¬ plainW s = true := by rw [HB2.out]; simp
        cases hbal : balanced s with
        | true =>
          rw [hbal] at hbc
          have hR2 : R = 123 :: (s ++ [125]) := by rw [HQ.out, if_neg hn, if_pos hbal]
          have HC := hid hbc
          have HR := hid hR2
          clear hR2 hbc hn hbal
          go_wp2_with fail
          (with_reducible refine HC.out.mono ?_); rintro e w1 ⟨rfl, hw⟩; subst w1
          go_wp2
          go_ret
          rw [HR.out]
          exact ⟨rfl, hbl⟩
        | false =>
          rw [hbal] at hbc
          have hR2 : R = slash true s := by rw [HQ.out, if_neg hn, if_neg (by rw [hbal]; simp)]
          have hsl := slashed_fn s hs wr
          rw [← hR2] at hsl
          have HC := hid hbc
          have HS := hid hsl
          clear hR2 hbc hn hbal hsl
          go_wp2_with fail
          (with_reducible refine HC.out.mono ?_); rintro e w1 ⟨rfl, hw⟩; subst w1
          go_wp2_with fail
          (with_reducible refine HS.out.mono ?_); rintro e w1 ⟨rfl, hb1⟩
          go_wp2
          go_ret
          exact ⟨rfl, hbl.trans (hb1.mono hsw)⟩
    | cons c t =>
      have hlt := ha.lt
      have hx := ha.byte
      have hlen := ha.len
      cases b with
      | false =>
        have hq : plainW s = (false && t.all fun c => !special c) := by rw [HB2.out]; rfl
        have HQ2 := hid hq
        clear hq HB2
        go_wp2
        go_roundg t.length
        case measure => simp
        case rel => exact ⟨i + 1, false, t, rfl, by go_num, ha.tail, HQ2.out, hbl, rfl⟩
      | true =>
        have hsp := specialR_fn c wr
        have hq := HB2.out
        rw [List.all_cons, Bool.true_and] at hq
        obtain ⟨S, hS⟩ : ∃ S, S = special c := ⟨_, rfl⟩
        rw [← hS] at hsp hq
        have HS := hid hsp
        have HQ2 := hid hq
        clear hS hsp hq HB2
        go_wp2_with fail
        (with_reducible refine HS.out.mono ?_); rintro e w1 ⟨rfl, hb1⟩
        go_wp2
        go_roundg t.length
        case measure => simp
        case rel => exact ⟨i + 1, !S, t, rfl, by go_num, ha.tail, HQ2.out, hbl.trans (hb1.mono hsw), rfl⟩
end Go.Proofs.YtabhkoklcjhlpaaGreatDoor.Pz
/-
  The reference 06: what its walks rest on.
-/
namespace Go.Proofs.YtabhkoklcjhlpaaGreatDoor.Pz
open Go.RowKit
end Go.Proofs.YtabhkoklcjhlpaaGreatDoor.Pz
/-
  The reference's small, digit, Unescape.
-/
namespace Go.Proofs.YtabhkoklcjhlpaaGreatDoor.Pz
open Go.RowKit
set_option maxRecDepth 100000 in
theorem small_fn (x r : Nat) (hl : x < 256) (hr : Hid (r = if 65 ≤ x ∧ x ≤ 90 then x + 32 else x)) (w : World) : Calls Tryz.prog 167 #[.int .u8 (x : Nat)] w fun e w' => e = .returned (.int .u8 (r : Nat)) ∧ w' = w := by
  have hc := hid (within1_fn (x : Nat) 65 90 w)
  by_cases h1 : 65 ≤ x ∧ x ≤ 90
  · have hd : (decide ((65 : Int) ≤ (x : Int)) && decide ((x : Int) ≤ 90)) = true := by simp; omega
    have hz : IntKind.u8.wrap ((x : Int) + 32) = ((x + 32 : Nat) : Int) := by rw [← u8_wrap (x + 32) (by omega)]; congr 1
    rw [hd] at hc
    go_enter Tryz.func167, Tryz.ntmps167
    go_wp2_with fail
    (with_reducible refine hc.out.mono ?_); rintro e w1 ⟨rfl, hw⟩; subst w1
    go_wp2
    go_ret
    exact ⟨ret_i (by rw [hr.out, if_pos h1]; omega), rfl⟩
  · have hd : (decide ((65 : Int) ≤ (x : Int)) && decide ((x : Int) ≤ 90)) = false := by
      rw [Bool.eq_false_iff]
      intro e
      simp at e
      omega
    rw [hd] at hc
    go_enter Tryz.func167, Tryz.ntmps167
    go_wp2_with fail
    (with_reducible refine hc.out.mono ?_); rintro e w1 ⟨rfl, hw⟩; subst w1
    go_wp2
    go_ret
    exact ⟨ret_i (by rw [hr.out, if_neg h1]), rfl⟩
set_option maxRecDepth 100000 in
set_option maxHeartbeats 1000000 in
theorem digitR_fn (c : UInt8) (b : Nat) (hb : b ≤ 16) (hb0 : 0 < b) (w : World) : Calls Tryz.prog 148 #[.int .u8 c.toNat, .int .i64 (b : Nat)] w fun e w' => e = .returned (.int .i64 (if dig16 c < b then (dig16 c : Int) else -1)) ∧ w' = w := by
  have hW := hexv_nat c
  have hl : c.toNat < 256 := c.toNat_lt
  obtain ⟨R, hR⟩ : ∃ R : Int, R = if dig16 c < b then (dig16 c : Int) else -1 := ⟨_, rfl⟩
  rw [← hR]
  rw [hW] at hR
  clear hW
  have HR := hid hR
  clear hR
  generalize c.toNat = x at hl HR ⊢
  obtain ⟨y, hy⟩ : ∃ y, y = if 65 ≤ x ∧ x ≤ 90 then x + 32 else x := ⟨_, rfl⟩
  have hy2 : y < 256 := by rw [hy]; split <;> omega
  have hY := hid hy
  have hs := hid (small_fn x y hl hY w)
  have hw1 := hid (within1_fn (x : Nat) 48 57 w)
  have hw2 := hid (within1_fn (y : Nat) 97 122 w)
  have hb1 : (0 : Int) < (b : Int) := by omega
  clear hy
  by_cases h1 : 48 ≤ x ∧ x ≤ 57
  · have hd : (decide ((48 : Int) ≤ (x : Int)) && decide ((x : Int) ≤ 57)) = true := by simp; omega
    have hz : IntKind.u8.wrap ((x : Int) - 48) = ((x - 48 : Nat) : Int) := by rw [← u8_wrap (x - 48) (by omega)]; congr 1; omega
    have hr : R = if x - 48 < b then ((x - 48 : Nat) : Int) else -1 := by rw [HR.out, if_pos h1]
    rw [hd] at hw1
    obtain ⟨v, hv⟩ : ∃ v, v = x - 48 := ⟨_, rfl⟩
    rw [← hv] at hz hr
    have hvl : v ≤ 9 := by omega
    have HR2 := hid hr
    clear hr hv
    by_cases hvb : v < b
    · have hg : ¬ ((b : Int) ≤ (v : Int)) := by omega
      go_enter Tryz.func148, Tryz.ntmps148
      go_wp2_with fail
      (with_reducible refine hw1.out.mono ?_); rintro e w1 ⟨rfl, hw⟩; subst w1
      go_wp2
      go_ret
      exact ⟨by rw [HR2.out, if_pos hvb]; rfl, rfl⟩
    · have hg : (b : Int) ≤ (v : Int) := by omega
      go_enter Tryz.func148, Tryz.ntmps148
      go_wp2_with fail
      (with_reducible refine hw1.out.mono ?_); rintro e w1 ⟨rfl, hw⟩; subst w1
      go_wp2
      go_ret
      exact ⟨by rw [HR2.out, if_neg hvb]; rfl, rfl⟩
  · have hd : (decide ((48 : Int) ≤ (x : Int)) && decide ((x : Int) ≤ 57)) = false := by
      rw [Bool.eq_false_iff]
      intro e
      simp at e
      omega
    rw [hd] at hw1
    by_cases h2 : 97 ≤ y ∧ y ≤ 122
    · have hd2 : (decide ((97 : Int) ≤ (y : Int)) && decide ((y : Int) ≤ 122)) = true := by simp; omega
      have hz : IntKind.u8.wrap ((y : Int) - 97) = ((y - 97 : Nat) : Int) := by rw [← u8_wrap (y - 97) (by omega)]; congr 1; omega
      rw [hd2] at hw2
      have hr : R = if y - 97 + 10 < b then ((y - 97 : Nat) : Int) + 10 else -1 := by
        rw [HR.out, if_neg h1]
        have := hY.out
        split at this <;> (repeat' split) <;> omega
      obtain ⟨v, hv⟩ : ∃ v, v = y - 97 := ⟨_, rfl⟩
      rw [← hv] at hz hr
      have hvl : v ≤ 25 := by omega
      have HR2 := hid hr
      clear hr hv
      by_cases hvb : v + 10 < b
      · have hg : ¬ ((b : Int) ≤ (v : Int) + 10) := by omega
        go_enter Tryz.func148, Tryz.ntmps148
        go_wp2_with fail
        (with_reducible refine hw1.out.mono ?_); rintro e w1 ⟨rfl, hw⟩; subst w1
        go_wp2_with fail
        (with_reducible refine hs.out.mono ?_); rintro e w1 ⟨rfl, hw⟩; subst w1
        go_wp2_with fail
        (with_reducible refine hw2.out.mono ?_); rintro e w1 ⟨rfl, hw⟩; subst w1
        go_wp2_with fail
        (with_reducible refine hs.out.mono ?_); rintro e w1 ⟨rfl, hw⟩; subst w1
        go_wp2
        go_ret
        exact ⟨by rw [HR2.out, if_pos hvb]; rfl, rfl⟩
      · have hg : (b : Int) ≤ (v : Int) + 10 := by omega
        go_enter Tryz.func148, Tryz.ntmps148
        go_wp2_with fail
        (with_reducible refine hw1.out.mono ?_); rintro e w1 ⟨rfl, hw⟩; subst w1
        go_wp2_with fail
        (with_reducible refine hs.out.mono ?_); rintro e w1 ⟨rfl, hw⟩; subst w1
        go_wp2_with fail
        (with_reducible refine hw2.out.mono ?_); rintro e w1 ⟨rfl, hw⟩; subst w1
        go_wp2_with fail
        (with_reducible refine hs.out.mono ?_); rintro e w1 ⟨rfl, hw⟩; subst w1
        go_wp2
        go_ret
        exact ⟨by rw [HR2.out, if_neg hvb]; rfl, rfl⟩
    · have hd2 : (decide ((97 : Int) ≤ (y : Int)) && decide ((y : Int) ≤ 122)) = false := by
        rw [Bool.eq_false_iff]
        intro e
        simp at e
        omega
      rw [hd2] at hw2
      have hr : R = -1 := by
        rw [HR.out, if_neg h1]
        have := hY.out
        split at this <;> (repeat' split) <;> omega
      have HR2 := hid hr
      clear hr
      have hg : ¬ ((b : Int) ≤ -1) := by omega
      go_enter Tryz.func148, Tryz.ntmps148
      go_wp2_with fail
      (with_reducible refine hw1.out.mono ?_); rintro e w1 ⟨rfl, hw⟩; subst w1
      go_wp2_with fail
      (with_reducible refine hs.out.mono ?_); rintro e w1 ⟨rfl, hw⟩; subst w1
      go_wp2_with fail
      (with_reducible refine hw2.out.mono ?_); rintro e w1 ⟨rfl, hw⟩; subst w1
      go_wp2
      go_ret
      rw [HR2.out]
      exact ⟨rfl, rfl⟩
theorem named_first (c : UInt8) : firstI [c] 0 0 [97, 98, 102, 110, 114, 116, 118] = match named1 c with
    | some x => (if x.toNat = 7 then 0 else if x.toNat = 8 then 1 else if x.toNat = 12 then 2 else if x.toNat = 10 then 3 else if x.toNat = 13 then 4 else if x.toNat = 9 then 5 else 6)
    | none => -1 := by
  unfold named1
  by_cases h1 : c = 97
  · subst h1; rfl
  by_cases h2 : c = 98
  · subst h2; rfl
  by_cases h3 : c = 116
  · subst h3; rfl
  by_cases h4 : c = 110
  · subst h4; rfl
  by_cases h5 : c = 118
  · subst h5; rfl
  by_cases h6 : c = 102
  · subst h6; rfl
  by_cases h7 : c = 114
  · subst h7; rfl
  simp [firstI, List.isPrefixOf, h1, h2, h3, h4, h5, h6, h7]
theorem unescNo_fn (c : UInt8) (t : Str) (_ht : t.length ≤ 1000000) (h : c ≠ 92) (w : World) :
    Calls Tryz.prog 121 #[.string ⟨(c :: t).toArray⟩] w fun e w' => e = .returned (.tuple #[.string ⟨#[]⟩, .int .i64 0]) ∧ w' = w := by
  have hsz : (⟨(c :: t).toArray⟩ : ByteArray).size = t.length + 1 := by rw [Lib.size_mk]; simp
  have hx : ∀ h, (⟨(c :: t).toArray⟩ : ByteArray)[0]'h = c := fun h => rfl
  have hb := byte_ne' 92 h rfl
  go_enter Tryz.func121, Tryz.ntmps121
  go_wp2
  go_ret2
  exact ⟨rfl, rfl⟩
set_option maxRecDepth 100000 in
set_option maxHeartbeats 8000000 in
theorem unescR_fn (t : Str) (ht : t.length ≤ 1000000) (w : World) :
    Calls Tryz.prog 121 #[.string ⟨(92 :: t).toArray⟩] w fun e w' => e = .returned (.tuple #[.string ⟨(unesc t).1.toArray⟩, .int .i64 (((t.length + 1 - (unesc t).2.length : Nat) : Nat) : Int)]) ∧ Below w.heap.size w w' := by
  cases t with
  | nil =>
    go_enter Tryz.func121, Tryz.ntmps121
    go_wp2
    go_ret2
    exact ⟨rfl, Below.refl _ _⟩
  | cons c t =>
    have hsz : (⟨(92 :: c :: t).toArray⟩ : ByteArray).size = t.length + 2 := by rw [Lib.size_mk]; simp
    have hx : ∀ h, (⟨(92 :: c :: t).toArray⟩ : ByteArray)[0]'h = 92 := fun h => rfl
    have hx1 : ∀ h, (⟨(92 :: c :: t).toArray⟩ : ByteArray)[1]'h = c := fun h => rfl
    have hs12 : (⟨(92 :: c :: t).toArray⟩ : ByteArray).extract 1 2 = ⟨[c].toArray⟩ := by rw [Lib.extract_mk]; simp
    have ht' : t.length ≤ 999999 := by simpa using ht
    have hf : ∀ u, Calls Tryz.prog 130 #[.string ⟨[c].toArray⟩, .string ⟨#[97, 98, 102, 110, 114, 116, 118]⟩, .int .i64 0] u fun e w' => e = .returned (.int .i64 (firstI [c] 0 0 [97, 98, 102, 110, 114, 116, 118])) ∧ w' = u := fun u => first_fn [c] [97, 98, 102, 110, 114, 116, 118] 0 (by simp) (by simp) (by simp) u
    rw [named_first] at hf
    clear ht
    show Calls _ _ _ _ fun e w' => e = .returned (.tuple #[.string ⟨(unesc1 c t).1.toArray⟩, .int .i64 (((t.length + 1 + 1 - (unesc1 c t).2.length : Nat) : Nat) : Int)]) ∧ Below w.heap.size w w'
    obtain ⟨r, hr⟩ : ∃ r, r = unesc1 c t := ⟨_, rfl⟩
    rw [← hr]
    by_cases hn : (named1 c).isSome = true
    · have hcs : c = 97 ∨ c = 98 ∨ c = 116 ∨ c = 110 ∨ c = 118 ∨ c = 102 ∨ c = 114 := by
        unfold named1 at hn
        by_cases h1 : c = 97
        · exact .inl h1
        by_cases h2 : c = 98
        · exact .inr (.inl h2)
        by_cases h3 : c = 116
        · exact .inr (.inr (.inl h3))
        by_cases h4 : c = 110
        · exact .inr (.inr (.inr (.inl h4)))
        by_cases h5 : c = 118
        · exact .inr (.inr (.inr (.inr (.inl h5))))
        by_cases h6 : c = 102
        · exact .inr (.inr (.inr (.inr (.inr (.inl h6)))))
        by_cases h7 : c = 114
        · exact .inr (.inr (.inr (.inr (.inr (.inr h7)))))
        simp [h1, h2, h3, h4, h5, h6, h7] at hn
      rcases hcs with rfl | rfl | rfl | rfl | rfl | rfl | rfl
      · have hr2 : r = ([7], t) := by rw [hr]; rfl
        subst hr2
        have hf2 := hid (show ∀ u, Calls Tryz.prog 130 #[.string ⟨#[97]⟩, .string ⟨#[97, 98, 102, 110, 114, 116, 118]⟩, .int .i64 0] u fun e w' => e = .returned (.int .i64 0) ∧ w' = u from hf)
        have hk : (⟨#[7, 8, 12, 10, 13, 9, 11]⟩ : ByteArray).extract 0 1 = ⟨#[7]⟩ := by decide
        clear hf hr hn
        go_enter Tryz.func121, Tryz.ntmps121
        go_wp2_with fail
        (with_reducible refine (hf2.out _).mono ?_); rintro e w1 ⟨rfl, hw⟩; subst w1
        go_wp2
        go_ret2
        exact ⟨ret_si rfl (by omega), Below.refl _ _⟩
      · have hr2 : r = ([8], t) := by rw [hr]; rfl
        subst hr2
        have hf2 := hid (show ∀ u, Calls Tryz.prog 130 #[.string ⟨#[98]⟩, .string ⟨#[97, 98, 102, 110, 114, 116, 118]⟩, .int .i64 0] u fun e w' => e = .returned (.int .i64 1) ∧ w' = u from hf)
        have hk : (⟨#[7, 8, 12, 10, 13, 9, 11]⟩ : ByteArray).extract 1 2 = ⟨#[8]⟩ := by decide
        clear hf hr hn
        go_enter Tryz.func121, Tryz.ntmps121
        go_wp2_with fail
        (with_reducible refine (hf2.out _).mono ?_); rintro e w1 ⟨rfl, hw⟩; subst w1
        go_wp2
        go_ret2
        exact ⟨ret_si rfl (by omega), Below.refl _ _⟩
      · have hr2 : r = ([9], t) := by rw [hr]; rfl
        subst hr2
        have hf2 := hid (show ∀ u, Calls Tryz.prog 130 #[.string ⟨#[116]⟩, .string ⟨#[97, 98, 102, 110, 114, 116, 118]⟩, .int .i64 0] u fun e w' => e = .returned (.int .i64 5) ∧ w' = u from hf)
        have hk : (⟨#[7, 8, 12, 10, 13, 9, 11]⟩ : ByteArray).extract 5 6 = ⟨#[9]⟩ := by decide
        clear hf hr hn
        go_enter Tryz.func121, Tryz.ntmps121
        go_wp2_with fail
        (with_reducible refine (hf2.out _).mono ?_); rintro e w1 ⟨rfl, hw⟩; subst w1
        go_wp2
        go_ret2
        exact ⟨ret_si rfl (by omega), Below.refl _ _⟩
      · have hr2 : r = ([10], t) := by rw [hr]; rfl
        subst hr2
        have hf2 := hid (show ∀ u, Calls Tryz.prog 130 #[.string ⟨#[110]⟩, .string ⟨#[97, 98, 102, 110, 114, 116, 118]⟩, .int .i64 0] u fun e w' => e = .returned (.int .i64 3) ∧ w' = u from hf)
        have hk : (⟨#[7, 8, 12, 10, 13, 9, 11]⟩ : ByteArray).extract 3 4 = ⟨#[10]⟩ := by decide
        clear hf hr hn
        go_enter Tryz.func121, Tryz.ntmps121
        go_wp2_with fail
        (with_reducible refine (hf2.out _).mono ?_); rintro e w1 ⟨rfl, hw⟩; subst w1
        go_wp2
        go_ret2
        exact ⟨ret_si rfl (by omega), Below.refl _ _⟩
      · have hr2 : r = ([11], t) := by rw [hr]; rfl
        subst hr2
        have hf2 := hid (show ∀ u, Calls Tryz.prog 130 #[.string ⟨#[118]⟩, .string ⟨#[97, 98, 102, 110, 114, 116, 118]⟩, .int .i64 0] u fun e w' => e = .returned (.int .i64 6) ∧ w' = u from hf)
        have hk : (⟨#[7, 8, 12, 10, 13, 9, 11]⟩ : ByteArray).extract 6 7 = ⟨#[11]⟩ := by decide
        clear hf hr hn
        go_enter Tryz.func121, Tryz.ntmps121
        go_wp2_with fail
        (with_reducible refine (hf2.out _).mono ?_); rintro e w1 ⟨rfl, hw⟩; subst w1
        go_wp2
        go_ret2
        exact ⟨ret_si rfl (by omega), Below.refl _ _⟩
      · have hr2 : r = ([12], t) := by rw [hr]; rfl
        subst hr2
        have hf2 := hid (show ∀ u, Calls Tryz.prog 130 #[.string ⟨#[102]⟩, .string ⟨#[97, 98, 102, 110, 114, 116, 118]⟩, .int .i64 0] u fun e w' => e = .returned (.int .i64 2) ∧ w' = u from hf)
        have hk : (⟨#[7, 8, 12, 10, 13, 9, 11]⟩ : ByteArray).extract 2 3 = ⟨#[12]⟩ := by decide
        clear hf hr hn
        go_enter Tryz.func121, Tryz.ntmps121
        go_wp2_with fail
        (with_reducible refine (hf2.out _).mono ?_); rintro e w1 ⟨rfl, hw⟩; subst w1
        go_wp2
        go_ret2
        exact ⟨ret_si rfl (by omega), Below.refl _ _⟩
      · have hr2 : r = ([13], t) := by rw [hr]; rfl
        subst hr2
        have hf2 := hid (show ∀ u, Calls Tryz.prog 130 #[.string ⟨#[114]⟩, .string ⟨#[97, 98, 102, 110, 114, 116, 118]⟩, .int .i64 0] u fun e w' => e = .returned (.int .i64 4) ∧ w' = u from hf)
        have hk : (⟨#[7, 8, 12, 10, 13, 9, 11]⟩ : ByteArray).extract 4 5 = ⟨#[13]⟩ := by decide
        clear hf hr hn
        go_enter Tryz.func121, Tryz.ntmps121
        go_wp2_with fail
        (with_reducible refine (hf2.out _).mono ?_); rintro e w1 ⟨rfl, hw⟩; subst w1
        go_wp2
        go_ret2
        exact ⟨ret_si rfl (by omega), Below.refl _ _⟩
    · have hn0 : named1 c = none := by simpa using hn
      rw [hn0] at hf
      dsimp only at hf
      have HF := hid hf
      unfold unesc1 at hr
      rw [hn0] at hr
      dsimp only at hr
      clear hf hn hn0
      have hatt : At (92 :: c :: t) t 2 := (At.start (92 :: c :: t)).tail.tail
      have hatc : At (92 :: c :: t) (c :: t) 1 := (At.start (92 :: c :: t)).tail
      by_cases h10 : c = 10
      · subst h10
        rw [if_pos (by decide)] at hr
        subst hr
        replace HF := hid (show ∀ u, Calls Tryz.prog 130 #[.string ⟨#[10]⟩, .string ⟨#[97, 98, 102, 110, 114, 116, 118]⟩, .int .i64 0] u fun e w' => e = .returned (.int .i64 (-1)) ∧ w' = u from HF.out)
        clear hatc
        go_enter Tryz.func121, Tryz.ntmps121
        go_wp2_with fail
        (with_reducible refine (HF.out _).mono ?_); rintro e w1 ⟨rfl, hw⟩; subst w1
        go_wp2_with fail
        go_loopg [3] t.length (fun k nv wr => ∃ (n : Nat) (rest : Str), nv = .int .i64 (n : Nat) ∧ At (92 :: 10 :: t) rest n ∧ blanks0 rest = blanks0 t ∧ wr = w ∧ k = rest.length)
        case atStart => exact ⟨2, t, rfl, hatt, rfl, rfl, rfl⟩
        case round =>
          obtain ⟨n, rest, rfl, ha, hb, hw, rfl⟩ := hrel
          replace hw := hw.symm
          subst hw
          have HB := hid hb
          clear hb hatt
          have hlen := ha.len
          simp only [List.length_cons] at hlen
          cases rest with
          | nil =>
            have hge : ¬ ((n : Int) < ((t.length + 2 : Nat) : Int)) := by simp at hlen; omega
            have hge2 : t.length + 2 ≤ n := by simp at hlen; omega
            go_wp2
            go_ret2
            exact ⟨ret_si rfl (by have := HB.out; rw [← this]; simp [blanks0] at hlen ⊢; omega), Below.refl _ _⟩
          | cons d rest =>
            have hlt : n < t.length + 2 := by simp at hlen; omega
            have hxd := ha.byte
            simp only [List.length_cons] at hlen
            by_cases hd : d = 32
            · subst hd
              go_wp2
              go_roundg rest.length
              case measure => simp
              case rel => exact ⟨n + 1, rest, by go_num, ha.tail, by rw [← HB.out]; rfl, rfl, rfl⟩
            · have e1 := byte_ne 32 hd rfl
              by_cases hd9 : d = 9
              · subst hd9
                go_wp2
                go_roundg rest.length
                case measure => simp
                case rel => exact ⟨n + 1, rest, by go_num, ha.tail, by rw [← HB.out]; rfl, rfl, rfl⟩
              · have e2 := byte_ne 9 hd9 rfl
                have hres : blanks0 t = d :: rest := by rw [← HB.out, blanks0_cons, if_neg (by simp [hd, hd9])]
                have HR := hid hres
                clear hres
                go_wp2
                go_ret2
                exact ⟨ret_si rfl (by rw [HR.out, List.length_cons]; omega), Below.refl _ _⟩
      · rw [if_neg (by simpa using h10)] at hr
        have n10 := byte_ne 10 h10 rfl
        by_cases h120 : c = 120
        · subst h120
          rw [if_pos (by decide)] at hr
          replace HF := hid (show ∀ u, Calls Tryz.prog 130 #[.string ⟨#[120]⟩, .string ⟨#[97, 98, 102, 110, 114, 116, 118]⟩, .int .i64 0] u fun e w' => e = .returned (.int .i64 (-1)) ∧ w' = u from HF.out)
          have hat := hatt
          clear hatc hatt
          have hd3 : ∀ (d : UInt8) u, Hid (Calls Tryz.prog 148 #[.int .u8 d.toNat, .int .i64 16] u fun e w' => e = .returned (.int .i64 (if dig16 d < 16 then (dig16 d : Int) else -1)) ∧ w' = u) := fun d u => digitR_fn d 16 (by decide) (by decide) u
          obtain ⟨V, hV⟩ : ∃ V, V = digs 16 2 0 t := ⟨_, rfl⟩
          rw [← hV] at hr
          have HV := hid hV
          have HR := hid hr
          clear hr hV
          go_enter Tryz.func121, Tryz.ntmps121
          go_wp2_with fail
          (with_reducible refine (HF.out _).mono ?_); rintro e w1 ⟨rfl, hw⟩; subst w1
          go_wp2_with fail
          go_loopg [3, 8] 2 (fun k nv vv wr => ∃ (n v j : Nat) (rest : Str), nv = .int .i64 (n : Nat) ∧ vv = .int .i64 (v : Nat) ∧ n = 2 + j ∧ j ≤ 2 ∧ v < 16 ^ j ∧ At (92 :: 120 :: t) rest n ∧ digs 16 (2 - j) v rest = V ∧ wr = w ∧ k = 2 - j)
          case atStart => exact ⟨2, 0, 0, t, rfl, rfl, rfl, Nat.zero_le _, by decide, hat, HV.out.symm, rfl, rfl⟩
          case round =>
            obtain ⟨n, v, j, rest, rfl, rfl, hnj, hj, hv, ha, hdg, hw, rfl⟩ := hrel
            clear hx1
            replace hw := hw.symm
            subst hw
            have HD := hid hdg
            have HP := hid hv
            have HN := hid hnj
            have hn2 : 2 ≤ n := by omega
            have hn3 : n ≤ 4 := by omega
            have hv4 : v < 4096 := Nat.lt_of_lt_of_le hv (show 16 ^ j ≤ 16 ^ 3 from Nat.pow_le_pow_right (by decide) (by omega))
            clear hdg hv hat hnj
            have hlen := ha.len
            simp only [List.length_cons] at hlen
            have hcv := fun u => one_back (UInt8.ofNat v) u
            rw [show ((UInt8.ofNat v).toNat : Int) = (v : Int) % 256 by rw [UInt8.toNat_ofNat']; omega] at hcv
            have fin : V = (v, rest) → (n = 2 → r = ([120], t)) ∧ (n ≠ 2 → r = ([UInt8.ofNat v], rest)) := by
              intro hVe
              have hr := HR.out
              rw [hVe] at hr
              dsimp only at hr
              refine ⟨fun h => ?_, fun h => ?_⟩
              · rw [hr, if_neg]
                first
                  | omega
                  | (simp only [List.length_cons]; omega)
              · rw [hr, if_pos]
                first
                  | omega
                  | (simp only [List.length_cons]; omega)
            cases rest with
            | nil =>
              have hge : ¬ (n < t.length + 2) := by simp at hlen; omega
              have hVe : V = (v, []) := by rw [← HD.out, digs_nil]
              obtain ⟨f1, f2⟩ := fin hVe
              clear fin hVe
              by_cases hn1 : n = 2
              · have hr1 := f1 hn1
                subst hr1
                subst hn1
                clear f1 f2
                go_wp2
                go_ret2
                exact ⟨ret_si rfl (by (try simp only [List.length_nil] at *); omega), Below.refl _ _⟩
              · have hr1 := f2 hn1
                subst hr1
                have hne : ((n : Int) == 2) = false := by rw [beq_eq_false_iff_ne]; omega
                clear f1 f2
                go_wp2
                go_ret2
                exact ⟨ret_si rfl (by (try simp only [List.length_nil] at *); omega), (Below.refl _ _).alloc (Nat.le_refl _) _⟩
            | cons d rest =>
              have hlt : n < t.length + 2 := by simp at hlen; omega
              have hxd := ha.byte
              simp only [List.length_cons] at hlen
              by_cases hjm : j = 2
              · have hge : ¬ ((n : Int) < 4) := by have := HN.out; omega
                have hVe : V = (v, d :: rest) := by rw [← HD.out, hjm]; rfl
                obtain ⟨f1, f2⟩ := fin hVe
                clear fin hVe
                have hn1 : n ≠ 2 := by have := HN.out; omega
                have hr1 := f2 hn1
                subst hr1
                have hne : ((n : Int) == 2) = false := by rw [beq_eq_false_iff_ne]; omega
                clear f1 f2
                go_wp2
                go_ret2
                exact ⟨ret_si rfl (by (try simp only [List.length_cons, List.length_nil] at *); omega), (Below.refl _ _).alloc (Nat.le_refl _) _⟩
              · have hlt2 : (n : Int) < 4 := by have := HN.out; omega
                have hstep : digs 16 (2 - j) v (d :: rest) = if dig16 d < 16 then digs 16 (2 - (j + 1)) (v * 16 + dig16 d) rest else (v, d :: rest) := by
                  rw [show 2 - j = (2 - (j + 1)) + 1 by omega, digs_step 16 _ v (by decide)]
                rw [HD.out] at hstep
                by_cases hdd : dig16 d < 16
                · rw [if_pos hdd] at hstep
                  have HS := hid hstep.symm
                  have hdl := dig16_le d
                  have hc := hd3 d w
                  rw [if_pos hdd] at hc
                  obtain ⟨q, hq⟩ : ∃ q, q = dig16 d := ⟨_, rfl⟩
                  rw [← hq] at hc HS hdl hdd
                  clear hstep hq fin
                  have hp2 : v * 16 + q < 16 ^ (j + 1) := by
                    have := HP.out
                    rw [Nat.pow_succ]
                    omega
                  have HP2 := hid hp2
                  clear hp2
                  go_wp2_with fail
                  (with_reducible refine hc.out.mono ?_); rintro e w1 ⟨rfl, hw⟩; subst w1
                  go_wp2_with fail
                  (with_reducible refine hc.out.mono ?_); rintro e w1 ⟨rfl, hw⟩; subst w1
                  go_wp2
                  go_roundg (2 - (j + 1))
                  case measure => omega
                  case rel => exact ⟨n + 1, v * 16 + q, j + 1, rest, by go_num, by go_num, by have := HN.out; omega, by omega, HP2.out, ha.tail, HS.out, rfl, rfl⟩
                · rw [if_neg hdd] at hstep
                  obtain ⟨f1, f2⟩ := fin hstep
                  have hc := hd3 d w
                  rw [if_neg hdd] at hc
                  clear fin hstep
                  by_cases hn1 : n = 2
                  · have hr1 := f1 hn1
                    subst hr1
                    subst hn1
                    clear f1 f2
                    go_wp2_with fail
                    (with_reducible refine hc.out.mono ?_); rintro e w1 ⟨rfl, hw⟩; subst w1
                    go_wp2
                    go_ret2
                    exact ⟨ret_si rfl (by (try simp only [List.length_cons, List.length_nil] at *); omega), Below.refl _ _⟩
                  · have hr1 := f2 hn1
                    subst hr1
                    have hne : ((n : Int) == 2) = false := by rw [beq_eq_false_iff_ne]; omega
                    clear f1 f2
                    go_wp2_with fail
                    (with_reducible refine hc.out.mono ?_); rintro e w1 ⟨rfl, hw⟩; subst w1
                    go_wp2
                    go_ret2
                    exact ⟨ret_si rfl (by (try simp only [List.length_cons, List.length_nil] at *); omega), (Below.refl _ _).alloc (Nat.le_refl _) _⟩
        · have n120 := byte_ne 120 h120 rfl
          rw [if_neg (by simpa using h120)] at hr
          have hat := hatc
          clear hatc hatt
          have hd3 : ∀ (d : UInt8) u, Hid (Calls Tryz.prog 148 #[.int .u8 d.toNat, .int .i64 8] u fun e w' => e = .returned (.int .i64 (if dig16 d < 8 then (dig16 d : Int) else -1)) ∧ w' = u) := fun d u => digitR_fn d 8 (by decide) (by decide) u
          obtain ⟨V, hV⟩ : ∃ V, V = digs 8 3 0 (c :: t) := ⟨_, rfl⟩
          rw [← hV] at hr
          have HV := hid hV
          have HR := hid hr
          clear hr hV
          go_enter Tryz.func121, Tryz.ntmps121
          go_wp2_with fail
          (with_reducible refine (HF.out _).mono ?_); rintro e w1 ⟨rfl, hw⟩; subst w1
          go_wp2_with fail
          go_loopg [3, 8] 3 (fun k nv vv wr => ∃ (n v j : Nat) (rest : Str), nv = .int .i64 (n : Nat) ∧ vv = .int .i64 (v : Nat) ∧ n = 1 + j ∧ j ≤ 3 ∧ v < 16 ^ j ∧ At (92 :: c :: t) rest n ∧ digs 8 (3 - j) v rest = V ∧ wr = w ∧ k = 3 - j)
          case atStart => exact ⟨1, 0, 0, (c :: t), rfl, rfl, rfl, Nat.zero_le _, by decide, hat, HV.out.symm, rfl, rfl⟩
          case round =>
            obtain ⟨n, v, j, rest, rfl, rfl, hnj, hj, hv, ha, hdg, hw, rfl⟩ := hrel
            clear hx1
            replace hw := hw.symm
            subst hw
            have HD := hid hdg
            have HP := hid hv
            have HN := hid hnj
            have hn2 : 1 ≤ n := by omega
            have hn3 : n ≤ 4 := by omega
            have hv4 : v < 4096 := Nat.lt_of_lt_of_le hv (show 16 ^ j ≤ 16 ^ 3 from Nat.pow_le_pow_right (by decide) (by omega))
            clear hdg hv hat hnj
            have hlen := ha.len
            simp only [List.length_cons] at hlen
            have hcv := fun u => one_back (UInt8.ofNat v) u
            rw [show ((UInt8.ofNat v).toNat : Int) = (v : Int) % 256 by rw [UInt8.toNat_ofNat']; omega] at hcv
            have fin : V = (v, rest) → (n = 1 → r = ([c], t)) ∧ (n ≠ 1 → r = ([UInt8.ofNat v], rest)) := by
              intro hVe
              have hr := HR.out
              rw [hVe] at hr
              dsimp only at hr
              refine ⟨fun h => ?_, fun h => ?_⟩
              · rw [hr, if_neg]
                first
                  | omega
                  | (simp only [List.length_cons]; omega)
              · rw [hr, if_pos]
                first
                  | omega
                  | (simp only [List.length_cons]; omega)
            cases rest with
            | nil =>
              have hge : ¬ (n < t.length + 2) := by simp at hlen; omega
              have hVe : V = (v, []) := by rw [← HD.out, digs_nil]
              obtain ⟨f1, f2⟩ := fin hVe
              clear fin hVe
              have hn1 : n ≠ 1 := by simp at hlen; omega
              have hr1 := f2 hn1
              subst hr1
              have hne : ((n : Int) == 1) = false := by rw [beq_eq_false_iff_ne]; omega
              clear f1 f2
              go_wp2
              go_ret2
              exact ⟨ret_si rfl (by (try simp only [List.length_cons, List.length_nil] at *); omega), (Below.refl _ _).alloc (Nat.le_refl _) _⟩
            | cons d rest =>
              have hlt : n < t.length + 2 := by simp at hlen; omega
              have hxd := ha.byte
              simp only [List.length_cons] at hlen
              by_cases hjm : j = 3
              · have hge : ¬ ((n : Int) < 4) := by have := HN.out; omega
                have hVe : V = (v, d :: rest) := by rw [← HD.out, hjm]; rfl
                obtain ⟨f1, f2⟩ := fin hVe
                clear fin hVe
                have hn1 : n ≠ 1 := by have := HN.out; omega
                have hr1 := f2 hn1
                subst hr1
                have hne : ((n : Int) == 1) = false := by rw [beq_eq_false_iff_ne]; omega
                clear f1 f2
                go_wp2
                go_ret2
                exact ⟨ret_si rfl (by (try simp only [List.length_cons] at *); omega), (Below.refl _ _).alloc (Nat.le_refl _) _⟩
              · have hlt2 : (n : Int) < 4 := by have := HN.out; omega
                have hstep : digs 8 (3 - j) v (d :: rest) = if dig16 d < 8 then digs 8 (3 - (j + 1)) (v * 8 + dig16 d) rest else (v, d :: rest) := by
                  rw [show 3 - j = (3 - (j + 1)) + 1 by omega, digs_step 8 _ v (by decide)]
                rw [HD.out] at hstep
                by_cases hdd : dig16 d < 8
                · rw [if_pos hdd] at hstep
                  have HS := hid hstep.symm
                  have hdl := dig16_le d
                  have hc := hd3 d w
                  rw [if_pos hdd] at hc
                  obtain ⟨q, hq⟩ : ∃ q, q = dig16 d := ⟨_, rfl⟩
                  rw [← hq] at hc HS hdl hdd
                  clear hstep hq fin
                  have hp2 : v * 8 + q < 16 ^ (j + 1) := by
                    have := HP.out
                    rw [Nat.pow_succ]
                    omega
                  have HP2 := hid hp2
                  clear hp2
                  go_wp2_with fail
                  (with_reducible refine hc.out.mono ?_); rintro e w1 ⟨rfl, hw⟩; subst w1
                  go_wp2_with fail
                  (with_reducible refine hc.out.mono ?_); rintro e w1 ⟨rfl, hw⟩; subst w1
                  go_wp2
                  go_roundg (3 - (j + 1))
                  case measure => omega
                  case rel => exact ⟨n + 1, v * 8 + q, j + 1, rest, by go_num, by go_num, by have := HN.out; omega, by omega, HP2.out, ha.tail, HS.out, rfl, rfl⟩
                · rw [if_neg hdd] at hstep
                  obtain ⟨f1, f2⟩ := fin hstep
                  have hc := hd3 d w
                  rw [if_neg hdd] at hc
                  clear fin hstep
                  by_cases hn1 : n = 1
                  · have hr1 := f1 hn1
                    subst hr1
                    subst hn1
                    clear f1 f2
                    go_wp2_with fail
                    (with_reducible refine hc.out.mono ?_); rintro e w1 ⟨rfl, hw⟩; subst w1
                    go_wp2
                    go_ret2
                    exact ⟨ret_si rfl (by (try simp only [List.length_cons] at *); omega), Below.refl _ _⟩
                  · have hr1 := f2 hn1
                    subst hr1
                    have hne : ((n : Int) == 1) = false := by rw [beq_eq_false_iff_ne]; omega
                    clear f1 f2
                    go_wp2_with fail
                    (with_reducible refine hc.out.mono ?_); rintro e w1 ⟨rfl, hw⟩; subst w1
                    go_wp2
                    go_ret2
                    exact ⟨ret_si rfl (by (try simp only [List.length_cons] at *); omega), (Below.refl _ _).alloc (Nat.le_refl _) _⟩
end Go.Proofs.YtabhkoklcjhlpaaGreatDoor.Pz
