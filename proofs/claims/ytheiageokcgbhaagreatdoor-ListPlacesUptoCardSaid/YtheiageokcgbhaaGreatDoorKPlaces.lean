/-
  ListPlacesCard: the law's card and what it alone needs, merged from 7 texts. Conditions: the row's own.
-/
import Derived.BigQuiet
import Derived.Test.YtheiageokcgbhaaGreatDoorCards
import Derived.Test.YtheiageokcgbhaaGreatDoorTie
import Derived.Deep.DeepHandedRow
import Derived.ProofKit
import Derived.OpenShut
import Derived.Lay
import Derived.MakeChecks
import Derived.ChangeMaps5
import Derived.SliceStrings
import Derived.Carry
import Derived.Shelf.Vars
import Derived.Test.YtheiageokcgbhaaGreatDoorK0
import Derived.Test.YtheiageokcgbhaaGreatDoorK1
import Derived.Test.YtheiageokcgbhaaGreatDoorK2
import Derived.Test.YtheiageokcgbhaaGreatDoorK3
import Derived.Test.YtheiageokcgbhaaGreatDoorK4
import Derived.Test.YtheiageokcgbhaaGreatDoorK5
import Derived.Test.YtheiageokcgbhaaGreatDoorK6
/-
  Lists: canonical lists put together are canonical; the first that is a text (plain).
-/
namespace Go.Proofs.YtheiageokcgbhaaGreatDoor.Pz
open Go.RowKit
theorem cutR_stay {c : UInt8} {t : Str} (h : white c = false ∨ slashes t % 2 = 1) : cutR (c :: t) = c :: t := by
  rw [cutR, if_neg]
  rw [Bool.and_eq_true]
  rintro ⟨h1, h2⟩
  rcases h with h | h
  · rw [h] at h1; cases h1
  · have h2 : slashes t % 2 = 0 := by simpa using h2
    omega
theorem slashes_app32 : ∀ (t x : Str), slashes (t ++ 32 :: x) = slashes t
  | [], x => rfl
  | c :: t, x => by
    rw [List.cons_append, slashes, slashes, slashes_app32 t x]
theorem slash_snoc : ∀ (s : Str) (b : Bool) (c : UInt8), slash b (s ++ [c]) = slash b s ++ (if special c || (s.isEmpty && b && c == 35) then [92, slash1 c] else [c])
  | [], b, c => by
    rw [List.nil_append, slash, slash, slash, List.nil_append]
    simp only [List.isEmpty_nil, Bool.true_and]
  | d :: s, b, c => by
    have ih := slash_snoc s false c
    rw [List.cons_append, slash, slash, ih]
    simp only [List.isEmpty_cons, Bool.false_and, Bool.and_false, Bool.or_false]
    split <;> rfl
theorem slash1_bs {c : UInt8} (h : special c = true ∨ c = 35) : (slash1 c == 92) = true → c = 92 := by
  intro h2
  rcases slashy h with rfl | rfl | rfl | rfl | rfl | rfl | rfl | rfl | rfl | rfl | rfl | rfl | rfl | rfl | rfl <;> first | rfl | (exact absurd h2 (by decide))
theorem slash_even (b : Bool) : ∀ r : Str, slashes (slash b r.reverse).reverse % 2 = 0
  | [] => by rw [List.reverse_nil, slash]; rfl
  | c :: t => by
    have ih := slash_even b t
    rw [List.reverse_cons, slash_snoc, List.reverse_append]
    split
    · rename_i h
      show slashes (slash1 c :: 92 :: (slash b t.reverse).reverse) % 2 = 0
      rw [slashes, slashes, if_pos (show ((92 : UInt8) == 92) = true from rfl)]
      split <;> omega
    · rename_i h
      have hs : special c = false := by
        cases hc : special c with
        | false => rfl
        | true => rw [hc] at h; exact absurd rfl h
      have h92 : (c == 92) = false := by
        rw [beq_eq_false_iff_ne]
        rintro rfl
        exact absurd hs (by decide)
      show slashes (c :: (slash b t.reverse).reverse) % 2 = 0
      rw [slashes, h92]
      rfl
theorem slash_end (b : Bool) (c : UInt8) (t : Str) : ∃ d u, (slash b (c :: t).reverse).reverse = d :: u ∧ (white d = false ∨ slashes u % 2 = 1) := by
  rw [List.reverse_cons, slash_snoc, List.reverse_append]
  split
  · refine ⟨slash1 c, 92 :: (slash b t.reverse).reverse, rfl, .inr ?_⟩
    have := slash_even b t
    rw [slashes, if_pos (show ((92 : UInt8) == 92) = true from rfl)]
    omega
  · rename_i h
    have hs : special c = false := by
      cases hc : special c with
      | false => rfl
      | true => rw [hc] at h; exact absurd rfl h
    exact ⟨c, _, rfl, .inl (plain_facts hs).1⟩
theorem quote_end (s : Str) : ∃ d u, (quote s).reverse = d :: u ∧ (white d = false ∨ slashes u % 2 = 1) := by
  unfold quote
  split
  · exact ⟨125, [123], rfl, .inl rfl⟩
  · rename_i h
    obtain ⟨c, t, hs⟩ : ∃ c t, s.reverse = c :: t := by
      cases hr : s.reverse with
      | nil => rw [List.reverse_eq_nil_iff] at hr; subst hr; exact absurd rfl h
      | cons c t => exact ⟨c, t, rfl⟩
    have hs2 : s = (c :: t).reverse := by rw [← hs, List.reverse_reverse]
    split
    · rename_i hp
      rw [plainW, Bool.and_eq_true] at hp
      have hc : special c = false := by
        have := List.all_eq_true.1 hp.2 c (by rw [hs2]; simp)
        simpa using this
      exact ⟨c, t, hs, .inl (plain_facts hc).1⟩
    · split
      · exact ⟨125, (123 :: s).reverse, by rw [← List.cons_append, List.reverse_append]; rfl, .inl rfl⟩
      · rw [hs2]
        exact slash_end true c t
theorem quote_first (s : Str) : ∃ e u, quote s = e :: u ∧ white e = false := (elemE_quote s [] rfl).1
theorem cutL_quoted : ∀ l : List Str, cutL (quotedL l) = quotedL l
  | [] => rfl
  | [a] => by
    obtain ⟨e, u, h1, h2⟩ := quote_first a
    rw [quotedL, h1, cutL, if_neg (by rw [h2]; simp)]
  | a :: b :: l => by
    obtain ⟨e, u, h1, h2⟩ := quote_first a
    rw [quotedL_two, h1, List.cons_append, cutL, if_neg (by rw [h2]; simp)]
theorem cutR_quoted (r : List Str) : cutR (quotedL r.reverse).reverse = (quotedL r.reverse).reverse := by
  cases r with
  | nil => rfl
  | cons s t =>
    obtain ⟨d, u, h1, h2⟩ := quote_end s
    rw [List.reverse_cons, quotedL_snoc]
    split
    · rw [h1]
      exact cutR_stay h2
    · have e : (quotedL t.reverse ++ 32 :: quote s).reverse = d :: (u ++ 32 :: (quotedL t.reverse).reverse) := by
        rw [List.reverse_append, List.reverse_cons, h1]
        simp
      rw [e]
      refine cutR_stay ?_
      rcases h2 with h | h
      · exact .inl h
      · exact .inr (by rw [slashes_app32]; exact h)
theorem trimE_quoted (l : List Str) : trimE (quotedL l) = quotedL l := by
  have h := cutR_quoted l.reverse
  rw [List.reverse_reverse] at h
  rw [trimE, cutL_quoted, h, List.reverse_reverse]
theorem quotedL_app : ∀ (a b : List Str), a ≠ [] → b ≠ [] → quotedL (a ++ b) = quotedL a ++ 32 :: quotedL b
  | [], _, h, _ => absurd rfl h
  | [x], [], _, h => absurd rfl h
  | [x], y :: b, _, _ => by rw [List.singleton_append, quotedL_two, quotedL]
  | x :: y :: a, b, _, h => by
    have ih := quotedL_app (y :: a) b (by simp) h
    rw [List.cons_append] at ih
    rw [List.cons_append, List.cons_append, quotedL_two, ih, quotedL_two, List.append_assoc, List.cons_append]
theorem quotedL_ne {x : Str} {l : List Str} : quotedL (x :: l) ≠ [] := by
  obtain ⟨e, u, h1, _⟩ := quote_first x
  cases l with
  | nil => rw [quotedL, h1]; simp
  | cons y l => rw [quotedL_two, h1]; simp
theorem concat_two (a b : List Str) : concatE [quotedL a, quotedL b] = quotedL (a ++ b) := by
  unfold concatE
  rw [catE, catE, catE, trimE_quoted, trimE_quoted]
  cases a with
  | nil =>
    rw [if_pos (show (quotedL []).isEmpty = true from rfl), List.nil_append]
    cases b with
    | nil => rfl
    | cons y b =>
      rw [if_neg (by simpa using quotedL_ne)]
      rfl
  | cons x a =>
    rw [if_neg (by simpa using quotedL_ne)]
    cases b with
    | nil =>
      rw [if_pos (show (quotedL []).isEmpty = true from rfl), List.append_nil]
      rfl
    | cons y b =>
      rw [if_neg (by simpa using quotedL_ne), quotedL_app _ _ (by simp) (by simp)]
      rfl
/-- the first place of a text in a row; -1 if there is none -/
def findI (s : Str) : List Str → Nat → Int
  | [], _ => -1
  | x :: l, i => if x = s then (i : Int) else findI s l (i + 1)
end Go.Proofs.YtheiageokcgbhaaGreatDoor.Pz
/-
  Lists: Search of a text as it is; a row put behind another one.
-/
namespace Go.Proofs.YtheiageokcgbhaaGreatDoor.Pz
open Go.RowKit
/-- 'append(s, t...)' where t lies somewhere, or is nil -/
theorem app_any {w : World} {ops : Array Oper} {rest : List Oper} {o : Oper} {a : Act} {Q : Exit → Act → World → Prop} (hgd : o.guard = none) (s x : Operand)
    (ho : o.op = .call { callee := .builtin .append, args := #[s, x], argTypes := #[24, 24] }) (B : Nat) (v u : Value) (l m : List Str)
    (hs : a.eval s = v) (hown : RowS B w v l) (hx : a.eval x = u) (hrow : StrsAt w u m) (hnil : ∀ n c, u = .slice none n c → c = 0) (hB : B ≤ w.heap.size) (hl : l.length + m.length ≤ 10000000)
    (h : ∀ v' w', RowS B w' v' (l ++ m) → w.grownBy w' v.ownBlock → (∀ g, v'.ownBlock = some g → v.ownBlock = some g ∨ w.heap.size ≤ g) → wpList Tryz.prog ops Q rest (a.put o.dst v') w') :
    wpList Tryz.prog ops Q (o :: rest) a w := by
  obtain ⟨i0, hi, hz0, hz1, hz2⟩ := info_parts Tryz.infoS
  have hrow2 := hrow
  obtain ⟨p, c, rfl, hcap, hcell⟩ := hrow
  cases p with
  | none =>
    obtain rfl : c = 0 := hnil _ _ rfl
    have h0 : m.length = 0 := by omega
    obtain rfl : m = [] := List.eq_nil_of_length_eq_zero h0
    refine wpList_append_own_none hgd s x 24 ho B 9 i0 1 Tryz.underlying24 hi v l.length (strCells l) hs hown hx ?_
    exact h v w (by simpa using hown) ⟨rfl, rfl, rfl, Nat.le_refl _, fun _ _ _ => rfl⟩ fun g hg => .inl hg
  | some p => exact app_strs hgd s x ho B v p m.length c l m hs hown hx hrow2 hB hl h
theorem findI_at {s : Str} {l : List Str} {i : Nat} (h : i < l.length) : findI s (l.drop i) i = if l[i] = s then (i : Int) else findI s (l.drop (i + 1)) (i + 1) := by
  rw [List.drop_eq_getElem_cons h, findI]
set_option maxRecDepth 100000 in
set_option maxHeartbeats 1000000 in
theorem search0_fn (s pat : Str) (w : World) (hs : s.length ≤ 1000000) (l : List Str) (he : splitE s = (l, 0, 0)) :
    Calls Tryz.prog 24 #[.string ⟨s.toArray⟩, .string ⟨pat.toArray⟩, .int .i64 0, .int .i64 0] w fun e w' => e = .returned (.tuple #[.int .i64 (findI pat l 0), .int .i64 0]) ∧ Below w.heap.size w w' := by
  have HS := split_fn s hs w
  unfold SplitQ at HS
  rw [he] at HS
  have hlb : l.length ≤ 10000 := by have := (splitE_out s).2.1; rw [he] at this; exact this
  obtain ⟨R, hR⟩ : ∃ R, R = findI pat l 0 := ⟨_, rfl⟩
  rw [← hR]
  have HR := hid hR
  have HS' := hid HS
  clear hR HS he
  go_enter Tryz.func24, Tryz.ntmps24
  go_wp2_with fail
  (with_reducible refine HS'.out.mono ?_); rintro e w1 ⟨hb1, v1, rfl, hr1⟩
  have HB1 := hid hb1
  obtain ⟨a, c, rfl⟩ := hr1.shape
  have HST := hid hr1.strs
  have hcell := hr1.strs
  obtain ⟨a', c', e', hcap, hcell⟩ := hcell
  simp only [Value.slice.injEq, true_and] at e'
  obtain ⟨rfl, rfl⟩ := e'
  have HC := hid hcell
  obtain ⟨n, hn⟩ : ∃ n, n = l.length := ⟨_, rfl⟩
  have HN := hid hn
  rw [← hn] at hlb hcap ⊢
  clear hb1 hr1 hcell hn
  go_wp2_with fail
  go_loopg [13] n (fun k iv wr => ∃ i : Nat, iv = .int .i64 (i : Nat) ∧ i ≤ n ∧ R = findI pat (l.drop i) i ∧ wr = w1 ∧ k = n - i)
  case atStart => exact ⟨0, by go_num, Nat.zero_le _, by rw [List.drop_zero]; exact HR.out, rfl, by simp⟩
  case round =>
    obtain ⟨i, rfl, hi, hR, hw, rfl⟩ := hrel
    replace hw := hw.symm
    subst hw
    rcases Nat.lt_or_ge i n with hlt | hge
    · have hlt' : i < l.length := by rw [← HN.out]; exact hlt
      obtain ⟨p, rfl, hbb, hcw1⟩ := HC.out i hlt'
      rw [findI_at hlt'] at hR
      have hz0 : i = 0 → w1.cell? p = some (.string ⟨l[i].toArray⟩) := by
        intro h0
        subst h0
        exact hcw1
      generalize l[i] = x at hcw1 hz0 hR
      by_cases hxp : x = pat
      · subst hxp
        rw [if_pos rfl] at hR
        by_cases h0 : i = 0
        · subst h0
          replace hcw1 := hz0 rfl
          have HE := hid hR
          clear hz0 hR HR
          go_wp2
          go_ret2
          exact ⟨by rw [HE.out] <;> rfl, HB1.out⟩
        · have HE := hid hR
          clear hz0 hR HR
          go_wp2
          go_ret2
          exact ⟨by rw [HE.out] <;> rfl, HB1.out⟩
      · rw [if_neg hxp] at hR
        have hpx : (x == pat) = false := by simpa using hxp
        by_cases h0 : i = 0
        · subst h0
          replace hcw1 := hz0 rfl
          have HE := hid hR
          clear hz0 hR HR
          go_wp2
          go_roundg (n - (0 + 1))
          case measure => omega
          case rel => exact ⟨0 + 1, by go_num, by omega, HE.out, rfl, rfl⟩
        · have HE := hid hR
          clear hz0 hR HR
          go_wp2
          go_roundg (n - (i + 1))
          case measure => omega
          case rel => exact ⟨i + 1, by go_num, by omega, HE.out, rfl, rfl⟩
    · obtain rfl : i = n := by omega
      rw [List.drop_eq_nil_of_le (by rw [← HN.out]; exact Nat.le_refl _), findI] at hR
      have HE := hid hR
      clear hR HR
      go_wp2
      go_ret2
      exact ⟨by rw [HE.out] <;> rfl, HB1.out⟩
end Go.Proofs.YtheiageokcgbhaaGreatDoor.Pz
/-
  The law ListJoins walked.
-/
namespace Go.Proofs.YtheiageokcgbhaaGreatDoor.Pz
open Go.RowKit
theorem quotedL_len : ∀ l : List Str, (quotedL l).length ≤ 3 * sumS l
  | [] => by simp [quotedL]
  | [a] => by
    have := quote_len a
    rw [quotedL, sumS, sumS]
    omega
  | a :: b :: l => by
    have h1 := quote_len a
    have h2 := quotedL_len (b :: l)
    rw [quotedL_two, sumS, List.length_append, List.length_cons]
    omega
theorem joinRes_small {l : List Str} (h : sumS l ≤ 10000) : joinRes l = (quotedL l, 0) := by
  have h1 := quotedL_len l
  have h2 := sumS_len l
  exact joinRes_yes (by omega) (by omega)
theorem canon_quoted {l : List Str} (h : sumS l ≤ 10000) : isCanon (quotedL l) = true := by
  have h2 := sumS_len l
  have e : canonRes (quotedL l) = (quotedL l, 0) := by
    unfold canonRes
    rw [splitE_quoted l (by omega)]
    exact joinRes_small h
  unfold isCanon
  rw [e]
  simp
set_option maxRecDepth 100000 in
set_option maxHeartbeats 4000000 in
theorem listJoins_fn (l : List Str) (v : Value) (n : Int) (w : World) (hml : ML w) (hv : StrsAt w v l) (hb : sumS l ≤ 10000000) (hn : -9223372036854775808 ≤ n ∧ n ≤ 9223372036854775807) :
    Calls Tryz.prog 5 #[v, .int .i64 n] w fun e w' => e = .returned (.bool true) ∧ Below w.heap.size w w' := by
  have HLO := hid (long_fn hv hb)
  have HM := hid hml
  have HVB := hid (fun u (h : Below w.heap.size w u) => hv.below h)
  have HVV := hid hv
  obtain ⟨a, cap, rfl, hcap, hcell⟩ := hv
  have AW := fun u (h : Below w.heap.size w u) => hid (awakeL_fn u (HM.out.below h))
  by_cases hlo : longB l = true
  · rw [hlo] at HLO
    have haw := AW w (Below.refl _ _)
    clear hml hcell hb
    go_enter Tryz.func5, Tryz.ntmps5
    go_wp2_with fail
    (with_reducible refine HLO.out.mono ?_); rintro e w1 ⟨rfl, hw⟩; subst hw
    go_wp2_with fail
    (with_reducible refine haw.out.mono ?_); rintro e w2 ⟨rfl, hb2⟩
    have HB2 := hid hb2
    clear hb2
    go_wp2
    go_ret
    exact ⟨rfl, HB2.out⟩
  · have hlf : longB l = false := by simpa using hlo
    rw [hlf] at HLO
    have hsl : sumS l ≤ 1500 := by
      have h5 : ¬ 1500 < sumS l := fun h => hlo (decide_eq_true h)
      omega
    have hll := sumS_len l
    have hmem : ∀ x ∈ l, x.length ≤ 1000000 := fun x hx => by have := sumS_mem l x hx; omega
    obtain ⟨m, hm⟩ : ∃ m, m = min n 50 := ⟨_, rfl⟩
    have hm1 : m ≤ 50 := by omega
    have hm2 : -9223372036854775808 ≤ m := by omega
    have H1 := hid (fun u (h : Below w.heap.size w u) => joinA_fn l _ u (HM.out.below h) (HVB.out u h) (by omega))
    have H2 := hid (fun u (h : Below w.heap.size w u) => joinRA_fn l _ u (HVB.out u h) hmem (by omega))
    rw [joinRes_small (by omega)] at H1 H2
    have H3 := hid (fun u (h : Below w.heap.size w u) => repeat_fn l _ m u (HM.out.below h) (HVB.out u h) hm1 (by omega))
    have H4 := hid (fun u (h : Below w.heap.size w u) => repeatR_fn l _ m u (HVB.out u h) hm1 hm2 (by omega) hmem)
    generalize repE l m = rp at H3 H4
    obtain ⟨rp1, rp2⟩ := rp
    have H5 := hid (fun u (h : Below w.heap.size w u) => concat_fn l _ u (HVB.out u h) (by omega))
    have H6 := hid (fun u (h : Below w.heap.size w u) => concatR_fn l _ u (HVB.out u h) (by omega))
    generalize concatE l = ce at H5 H6
    have hql := quotedL_len l
    have H7 := hid (fun u => split_fn (quotedL l) (by omega) u)
    unfold SplitQ at H7
    rw [splitE_quoted l (by omega)] at H7
    have HSM := fun (u : World) (x y : Value) (hx : StrsAt u x l) (hy : StrsAt u y l) => same_fn hx hy (by omega)
    have H8 := hid (fun u (h : Below w.heap.size w u) => isCanonL_fn (quotedL l) (by omega) (by rw [splitE_quoted l (by omega)]; exact Nat.le_trans hll (by omega)) u (HM.out.below h))
    rw [canon_quoted (by omega)] at H8
    generalize quotedL l = ql at H1 H2 H7 H8
    dsimp only at H1 H2 H3 H4 H7
    have HQ1 := hid (fun i (hi : i < l.length) u (h : Below w.heap.size w u) => quote_fn l[i] (hmem _ (List.getElem_mem hi)) u (HM.out.below h))
    have HQ2 := hid (fun i (hi : i < l.length) u => quoteR_fn l[i] (hmem _ (List.getElem_mem hi)) u)
    have HC := hid hcell
    obtain ⟨k, hk⟩ : ∃ k, k = l.length := ⟨_, rfl⟩
    have HK := hid hk
    have hkb : k ≤ 1500 := by omega
    rw [← hk] at HLO H1 H2 H3 H4 H5 H6 hcap HVV HVB ⊢
    have hm3 : min n 50 = m := hm.symm
    have HMM := hid hm
    clear hcell hml hmem hlo hlf hsl hll hql hk hm hb
    go_enter Tryz.func5, Tryz.ntmps5
    go_wp2_with fail
    (with_reducible refine HLO.out.mono ?_); rintro e w1 ⟨rfl, hw⟩; subst hw
    go_wp2_with fail
    go_loopg [23] k (fun m' iv wr => ∃ i : Nat, iv = .int .i64 (i : Nat) ∧ i ≤ k ∧ Below w1.heap.size w1 wr ∧ m' = k - i)
    case atStart => exact ⟨0, rfl, Nat.zero_le _, Below.refl _ _, by simp⟩
    case round =>
      obtain ⟨i, rfl, hi, hbl, rfl⟩ := hrel
      have hsw := hbl.size
      rcases Nat.lt_or_ge i k with hlt | hge
      · have hlt' : i < l.length := by rw [← HK.out]; exact hlt
        obtain ⟨p, rfl, hbb, hcw⟩ := HC.out i hlt'
        have hcw1 : wr.cell? (p.add i) = some (.string ⟨l[i].toArray⟩) := by rw [hbl.cell (p := p.add i) (by rw [add_block]; exact hbb)]; exact hcw
        have hz0 : i = 0 → wr.cell? p = some (.string ⟨l[i].toArray⟩) := by
          intro h0
          subst h0
          exact hcw1
        have h1 := hid (HQ1.out i hlt' wr hbl)
        have h2 := HQ2.out i hlt'
        generalize l[i] = s at hcw1 hz0 h1 h2
        have H2' := hid h2
        clear h2 hcw
        generalize quote s = q at h1 H2'
        by_cases h0 : i = 0
        · subst h0
          replace hcw1 := hz0 rfl
          clear hz0
          go_wp2_with fail
          (with_reducible refine h1.out.mono ?_); rintro e w2 ⟨rfl, hb2⟩
          have HB2 := hid (hbl.trans (hb2.mono hsw))
          have h2 := H2'.out w2
          clear hb2
          go_wp2_with fail
          (with_reducible refine h2.mono ?_); rintro e w3 ⟨rfl, hb3⟩
          have HB3 := hid (HB2.out.trans (hb3.mono HB2.out.size))
          clear hb3 h2
          go_wp2
          go_roundg (k - (0 + 1))
          case measure => omega
          case rel => exact ⟨0 + 1, by go_num, by omega, HB3.out, rfl⟩
        · clear hz0
          go_wp2_with fail
          (with_reducible refine h1.out.mono ?_); rintro e w2 ⟨rfl, hb2⟩
          have HB2 := hid (hbl.trans (hb2.mono hsw))
          have h2 := H2'.out w2
          clear hb2
          go_wp2_with fail
          (with_reducible refine h2.mono ?_); rintro e w3 ⟨rfl, hb3⟩
          have HB3 := hid (HB2.out.trans (hb3.mono HB2.out.size))
          clear hb3 h2
          go_wp2
          go_roundg (k - (i + 1))
          case measure => omega
          case rel => exact ⟨i + 1, by go_num, by omega, HB3.out, rfl⟩
      · obtain rfl : i = k := by omega
        have h1 := H1.out wr hbl
        go_wp2_with fail
        (with_reducible refine h1.mono ?_); rintro e w2 ⟨rfl, hb2⟩
        have HB2 := hid (hbl.trans (hb2.mono hsw))
        clear hb2 h1
        have h1 := H2.out w2 HB2.out
        go_wp2_with fail
        (with_reducible refine h1.mono ?_); rintro e w3 ⟨rfl, hb3⟩
        have HB3 := hid (HB2.out.trans (hb3.mono HB2.out.size))
        clear hb3 h1
        have h1 := H3.out w3 HB3.out
        go_wp2_with fail
        (with_reducible refine h1.mono ?_); rintro e w4 ⟨rfl, hb4⟩
        have HB4 := hid (HB3.out.trans (hb4.mono HB3.out.size))
        clear hb4 h1
        have h1 := H4.out w4 HB4.out
        go_wp2_with fail
        (with_reducible refine h1.mono ?_); rintro e w5 ⟨rfl, hb5⟩
        have HB5 := hid (HB4.out.trans (hb5.mono HB4.out.size))
        clear hb5 h1
        have h1 := H5.out w5 HB5.out
        go_wp2_with fail
        (with_reducible refine h1.mono ?_); rintro e w6 ⟨rfl, hb6⟩
        have HB6 := hid (HB5.out.trans (hb6.mono HB5.out.size))
        clear hb6 h1
        have h1 := H6.out w6 HB6.out
        go_wp2_with fail
        (with_reducible refine h1.mono ?_); rintro e w7 ⟨rfl, hw⟩; subst hw
        clear h1
        have h1 := H7.out w7
        go_wp2_with fail
        (with_reducible refine h1.mono ?_); rintro e w8 ⟨hb8, v8, rfl, hr8⟩
        have HB8 := hid (HB6.out.trans (hb8.mono HB6.out.size))
        have HS := hid (HSM w8 v8 _ hr8.strs (HVB.out w8 HB8.out))
        clear hb8 h1 hr8
        go_wp2_with fail
        (with_reducible refine HS.out.mono ?_); rintro e w9 ⟨rfl, hb9⟩
        have HB9 := hid (HB8.out.trans (hb9.mono HB8.out.size))
        have h1 := H8.out w9 HB9.out
        clear hb9
        go_wp2_with fail
        (with_reducible refine h1.mono ?_); rintro e wa ⟨rfl, hba⟩
        have HBa := hid (HB9.out.trans (hba.mono HB9.out.size))
        clear hba h1
        have h1 := AW wa HBa.out
        go_wp2_with fail
        (with_reducible refine h1.out.mono ?_); rintro e wb ⟨rfl, hbb⟩
        have HBb := hid (HBa.out.trans (hbb.mono HBa.out.size))
        clear hbb h1
        go_wp2
        go_ret
        exact ⟨rfl, HBb.out⟩
end Go.Proofs.YtheiageokcgbhaaGreatDoor.Pz
/-
  The law ListConcats walked.
-/
namespace Go.Proofs.YtheiageokcgbhaaGreatDoor.Pz
open Go.RowKit
theorem sumS_app : ∀ (a b : List Str), sumS (a ++ b) = sumS a + sumS b
  | [], b => by simp [sumS]
  | x :: a, b => by rw [List.cons_append, sumS, sumS, sumS_app a b]; omega
theorem RowS.new (w : World) (B : Nat) (hB : B ≤ w.heap.size) : RowS B (w.alloc (.cells #[] 9)) (.slice (some ⟨w.heap.size, 0, none⟩) 0 0) [] :=
  World.ownsRow_lit w #[] 0 hB (Nat.zero_le _) rfl
theorem strs_two (a b : Str) (w : World) : StrsAt (w.alloc (.cells #[.string ⟨a.toArray⟩, .string ⟨b.toArray⟩] 9)) (.slice (some ⟨w.heap.size, 0, none⟩) 2 2) [a, b] := by
  have hg : (w.alloc (.cells #[.string ⟨a.toArray⟩, .string ⟨b.toArray⟩] 9)).heap[w.heap.size]? = some (.cells #[.string ⟨a.toArray⟩, .string ⟨b.toArray⟩] 9 (0, 0)) := heap_alloc_new _ _
  refine ⟨some ⟨w.heap.size, 0, none⟩, 2, rfl, Nat.le_refl _, fun i hi => ⟨_, rfl, (Array.getElem?_eq_some_iff.1 hg).1, ?_⟩⟩
  rw [add_none, Lib.cell_of_heap hg, Nat.zero_add]
  match i, hi with
  | 0, _ => rfl
  | 1, _ => rfl
set_option maxRecDepth 100000 in
set_option maxHeartbeats 4000000 in
theorem listConcats_fn (la lb : List Str) (va vb : Value) (s : Str) (w : World) (hml : ML w) (hva : StrsAt w va la) (hvb : StrsAt w vb lb) (hna : ∀ n c, va = .slice none n c → c = 0) (hnb : ∀ n c, vb = .slice none n c → c = 0)
    (hba : sumS la ≤ 10000000) (hbb : sumS lb ≤ 10000000) (hs : s.length ≤ 2000000) :
    Calls Tryz.prog 7 #[va, vb, .string ⟨s.toArray⟩] w fun e w' => e = .returned (.bool true) ∧ Below w.heap.size w w' := by
  have HL1 := hid (long_fn hva hba)
  have HL2 := hid (long_fn hvb hbb)
  obtain ⟨W, hW⟩ : ∃ W, W = w.alloc (.cells #[.string ⟨s.toArray⟩] 9) := ⟨_, rfl⟩
  have hbW : Below w.heap.size w W := by rw [hW]; exact belowA _ _
  have hg : W.heap[w.heap.size]? = some (.cells #[.string ⟨s.toArray⟩] 9 (0, 0)) := by rw [hW]; exact heap_alloc_new _ _
  have hst : StrsAt W (.slice (some ⟨w.heap.size, 0, none⟩) 1 1) [s] := by
    refine ⟨some ⟨w.heap.size, 0, none⟩, 1, rfl, Nat.le_refl _, fun i hi => ⟨_, rfl, (Array.getElem?_eq_some_iff.1 hg).1, ?_⟩⟩
    have hi0 : i = 0 := by simp at hi; exact hi
    subst hi0
    rw [add_none, Lib.cell_of_heap hg]
    rfl
  have HL3 := hid (long_fn hst (by simp [sumS]; omega))
  have HW := hid hW
  have HBW := hid hbW
  have HM := hid hml
  have AW := fun u (h : Below w.heap.size w u) => hid (awakeL_fn u (HM.out.below h))
  have HVA := hid (fun u (h : Below w.heap.size w u) => hva.below h)
  have HVB := hid (fun u (h : Below w.heap.size w u) => hvb.below h)
  have HNA := hid hna
  have HNB := hid hnb
  obtain ⟨aa, ca, rfl, hcapa, _⟩ := hva
  obtain ⟨ab, cb, rfl, hcapb, _⟩ := hvb
  have hwz := hbW.size
  clear hst hg hbW hW hml hna hnb
  by_cases hlo1 : longB la = true
  · rw [hlo1] at HL1
    have haw := AW w (Below.refl _ _)
    go_enter Tryz.func7, Tryz.ntmps7
    go_wp2_with fail
    (with_reducible refine HL1.out.mono ?_); rintro e w1 ⟨rfl, hw⟩; subst hw
    go_wp2_with fail
    (with_reducible refine haw.out.mono ?_); rintro e w2 ⟨rfl, hb2⟩
    have HB2 := hid hb2
    clear hb2
    go_wp2
    go_ret
    exact ⟨rfl, HB2.out⟩
  rw [Bool.not_eq_true] at hlo1
  rw [hlo1] at HL1
  by_cases hlo2 : longB lb = true
  · rw [hlo2] at HL2
    have haw := AW w (Below.refl _ _)
    go_enter Tryz.func7, Tryz.ntmps7
    go_wp2_with fail
    (with_reducible refine HL1.out.mono ?_); rintro e w1 ⟨rfl, hw⟩; subst hw
    go_wp2_with fail
    (with_reducible refine HL2.out.mono ?_); rintro e w2 ⟨rfl, hw⟩; subst hw
    go_wp2_with fail
    (with_reducible refine haw.out.mono ?_); rintro e w2 ⟨rfl, hb2⟩
    have HB2 := hid hb2
    clear hb2
    go_wp2
    go_ret
    exact ⟨rfl, HB2.out⟩
  rw [Bool.not_eq_true] at hlo2
  rw [hlo2] at HL2
  by_cases hlo3 : longB [s] = true
  · rw [hlo3] at HL3
    have haw := AW W HBW.out
    go_enter Tryz.func7, Tryz.ntmps7
    go_wp2_with fail
    (with_reducible refine HL1.out.mono ?_); rintro e w1 ⟨rfl, hw⟩; subst hw
    go_wp2_with fail
    (with_reducible refine HL2.out.mono ?_); rintro e w2 ⟨rfl, hw⟩; subst hw
    go_wp2_with fail
    rw [← HW.out]
    (with_reducible refine HL3.out.mono ?_); rintro e w2 ⟨rfl, hw⟩; subst hw
    go_wp2_with fail
    (with_reducible refine haw.out.mono ?_); rintro e w3 ⟨rfl, hb2⟩
    have HB2 := hid (HBW.out.trans (hb2.mono hwz))
    clear hb2
    go_wp2
    go_ret
    exact ⟨rfl, HB2.out⟩
  rw [Bool.not_eq_true] at hlo3
  rw [hlo3] at HL3
  have hsa : sumS la ≤ 1500 := by
    rw [longB, decide_eq_false_iff_not] at hlo1
    omega
  have hsb : sumS lb ≤ 1500 := by
    rw [longB, decide_eq_false_iff_not] at hlo2
    omega
  have hab : sumS (la ++ lb) ≤ 3000 := by rw [sumS_app]; omega
  have hla := sumS_len la
  have hlb := sumS_len lb
  have H1 := hid (fun u (h : Below w.heap.size w u) => joinA_fn la _ u (HM.out.below h) (HVA.out u h) (by omega))
  have H2 := hid (fun u (h : Below w.heap.size w u) => joinA_fn lb _ u (HM.out.below h) (HVB.out u h) (by omega))
  have H3 := hid (fun v u (h : Below w.heap.size w u) (hv : StrsAt u v (la ++ lb)) => joinA_fn (la ++ lb) v u (HM.out.below h) hv (by rw [List.length_append]; omega))
  rw [joinRes_small (by omega)] at H1 H2 H3
  have hqa := quotedL_len la
  have hqb := quotedL_len lb
  have hqab := quotedL_len (la ++ lb)
  have H4 := hid (fun v u (hv : StrsAt u v [quotedL la, quotedL lb]) => concat_fn [quotedL la, quotedL lb] v u hv (by simp [sumS]; omega))
  rw [concat_two] at H4
  have H5 := hid (fun u => search0_fn (quotedL (la ++ lb)) s u (by omega) (la ++ lb) (splitE_quoted _ (by rw [List.length_append]; omega)))
  obtain ⟨ka, hka⟩ : ∃ ka, ka = la.length := ⟨_, rfl⟩
  obtain ⟨kb, hkb⟩ : ∃ kb, kb = lb.length := ⟨_, rfl⟩
  have HKA := hid hka
  have HKB := hid hkb
  have hka2 : ka ≤ 1500 := by omega
  have hkb2 : kb ≤ 1500 := by omega
  rw [← hka] at HVA H1 HNA HL1 hcapa ⊢
  rw [← hkb] at HVB H2 HNB HL2 hcapb ⊢
  obtain ⟨R, hR⟩ : ∃ R, R = findI s (la ++ lb) 0 := ⟨_, rfl⟩
  rw [← hR] at H5
  have HR := hid hR
  have HS2 := hid (fun u => strs_two (quotedL la) (quotedL lb) u)
  have HKL := hid (show (la ++ lb).length = ka + kb by rw [List.length_append, hka, hkb])
  have hlab : la.length + lb.length ≤ 10000000 := by omega
  clear hR
  generalize quotedL la = qa at H1 H4 hqa HS2
  generalize quotedL lb = qb at H2 H4 hqb HS2
  generalize quotedL (la ++ lb) = qab at H3 H4 H5 hqab
  dsimp only at H1 H2 H3
  clear hka hkb hlo1 hlo2 hlo3 hsa hsb hab hla hlb hba hbb
  go_enter Tryz.func7, Tryz.ntmps7
  go_wp2_with fail
  (with_reducible refine HL1.out.mono ?_); rintro e w1 ⟨rfl, hw⟩; subst hw
  go_wp2_with fail
  (with_reducible refine HL2.out.mono ?_); rintro e w2 ⟨rfl, hw⟩; subst hw
  go_wp2_with fail
  rw [← HW.out]
  (with_reducible refine HL3.out.mono ?_); rintro e w3 ⟨rfl, hw⟩; subst hw
  have h1 := H1.out w3 HBW.out
  go_wp2_with fail
  (with_reducible refine h1.mono ?_); rintro e w4 ⟨rfl, hb4⟩
  have HB4 := hid (HBW.out.trans (hb4.mono hwz))
  clear hb4 h1
  have h1 := H2.out w4 HB4.out
  go_wp2_with fail
  (with_reducible refine h1.mono ?_); rintro e w5 ⟨rfl, hb5⟩
  have HB5 := hid (HB4.out.trans (hb5.mono HB4.out.size))
  clear hb5 h1
  have hz5 := HB5.out.size
  have HX5 := hid (RowS.new w5 w2.heap.size hz5)
  have HXB5 := hid (HB5.out.alloc hz5 (.cells #[] 9))
  have HV1 := hid (HVA.out _ HXB5.out)
  have hxz := HXB5.out.size
  go_wp2_with (at_builtin; go_loud (refine app_any (w := w5.alloc (.cells #[] 9)) rfl (.tmp 41) (.tmp 42) rfl w2.heap.size _ _ [] la rfl HX5.out rfl HV1.out HNA.out hxz (by rw [List.length_nil]; omega) ?_))
  intro v6 w6 hr6 hg6 hv6
  have HB6 := hid (HXB5.out.grown hg6 hxz fun k hk => (HX5.out.lt k hk).2)
  have HR6 := hid hr6
  have hz6 := HB6.out.size
  have HV2 := hid (HVB.out _ HB6.out)
  clear hr6 hg6 hv6 HX5 HXB5 HV1 hxz
  go_wp2_with (at_builtin; go_loud (refine app_any (w := w6) rfl (.tmp 43) (.tmp 44) rfl w2.heap.size _ _ la lb rfl HR6.out rfl HV2.out HNB.out hz6 hlab ?_))
  intro v7 w7 hr7 hg7 hv7
  have HB7 := hid (HB6.out.grown hg7 hz6 fun k hk => (HR6.out.lt k hk).2)
  have HR7 := hid hr7
  clear hr7 hg7 hv7 HV2
  have h1 := H3.out _ w7 HB7.out HR7.out.strs
  go_wp2_with fail
  (with_reducible refine h1.mono ?_); rintro e w8 ⟨rfl, hb8⟩
  have HB8 := hid (HB7.out.trans (hb8.mono HB7.out.size))
  clear hb8 h1
  have h1 := H4.out _ _ (HS2.out w8)
  have HBX := hid (HB8.out.alloc HB8.out.size (.cells #[.string ⟨qa.toArray⟩, .string ⟨qb.toArray⟩] 9))
  go_wp2_with fail
  (with_reducible refine h1.mono ?_); rintro e w9 ⟨rfl, hb9⟩
  have HB9 := hid (HBX.out.trans (hb9.mono HBX.out.size))
  clear hb9 h1 HBX
  have h1 := H5.out w9
  go_wp2_with fail
  (with_reducible refine h1.mono ?_); rintro e w10 ⟨rfl, hb10⟩
  have HB10 := hid (HB9.out.trans (hb10.mono HB9.out.size))
  clear hb10 h1
  have hz10 := HB10.out.size
  have HX10 := hid (RowS.new w10 w2.heap.size hz10)
  have HXB10 := hid (HB10.out.alloc hz10 (.cells #[] 9))
  have HV1 := hid (HVA.out _ HXB10.out)
  have hxz := HXB10.out.size
  go_wp2_with (at_builtin; go_loud (refine app_any (w := w10.alloc (.cells #[] 9)) rfl (.tmp 73) (.tmp 74) rfl w2.heap.size _ _ [] la rfl HX10.out rfl HV1.out HNA.out hxz (by rw [List.length_nil]; omega) ?_))
  intro v11 w11 hr11 hg11 hv11
  have HB11 := hid (HXB10.out.grown hg11 hxz fun k hk => (HX10.out.lt k hk).2)
  have HR11 := hid hr11
  have hz11 := HB11.out.size
  have HV2 := hid (HVB.out _ HB11.out)
  clear hr11 hg11 hv11 HX10 HXB10 HV1 hxz
  go_wp2_with (at_builtin; go_loud (refine app_any (w := w11) rfl (.tmp 75) (.tmp 76) rfl w2.heap.size _ _ la lb rfl HR11.out rfl HV2.out HNB.out hz11 hlab ?_))
  intro v12 w12 hr12 hg12 hv12
  have HB12 := hid (HB11.out.grown hg12 hz11 fun k hk => (HR11.out.lt k hk).2)
  have HR12 := hid hr12
  clear hr12 hg12 hv12 HV2
  obtain ⟨ax, cx, rfl⟩ := HR12.out.shape
  have HST := hid HR12.out.strs
  have hcell := HR12.out.strs
  obtain ⟨a', c', e', hcapx, hcell⟩ := hcell
  simp only [Value.slice.injEq, true_and] at e'
  obtain ⟨rfl, rfl⟩ := e'
  have HC := hid hcell
  clear hcell
  obtain ⟨n, hn⟩ : ∃ n, n = (la ++ lb).length := ⟨_, rfl⟩
  have HN := hid hn
  rw [← hn] at hcapx ⊢
  have hnb : n ≤ 3000 := by rw [hn, HKL.out]; omega
  clear hn
  go_wp2_with fail
  go_loopg [15, 79] n (fun k av iv wr => ∃ (i : Nat) (at0 : Int), av = .int .i64 at0 ∧ iv = .int .i64 (i : Nat) ∧ i ≤ n ∧ ((at0 = -1 ∧ R = findI s ((la ++ lb).drop i) i) ∨ (0 ≤ at0 ∧ R = at0)) ∧ wr = w12 ∧ k = n - i)
  case atStart => exact ⟨0, -1, rfl, rfl, Nat.zero_le _, .inl ⟨rfl, by rw [List.drop_zero]; exact HR.out⟩, rfl, by simp⟩
  case round =>
    obtain ⟨i, at0, rfl, rfl, hi, hat, hw, rfl⟩ := hrel
    replace hw := hw.symm
    subst hw
    rcases Nat.lt_or_ge i n with hlt | hge
    · have hlt' : i < (la ++ lb).length := by rw [← HN.out]; exact hlt
      obtain ⟨p, rfl, hbb, hcw1⟩ := HC.out i hlt'
      rw [findI_at hlt'] at hat
      have hz0 : i = 0 → w12.cell? p = some (.string ⟨(la ++ lb)[i].toArray⟩) := by
        intro h0
        subst h0
        exact hcw1
      generalize (la ++ lb)[i] = x at hcw1 hz0 hat
      have fin : ∀ a1 : Int, ((x == s) = true ∧ at0 < 0 ∧ a1 = (i : Nat)) ∨ (¬ ((x == s) = true ∧ at0 < 0) ∧ a1 = at0) → ((a1 = -1 ∧ R = findI s ((la ++ lb).drop (i + 1)) (i + 1)) ∨ (0 ≤ a1 ∧ R = a1)) := by
        intro a1 h
        rcases hat with ⟨ha, hr⟩ | ⟨ha, hr⟩
        · rcases h with ⟨h1, h2, h3⟩ | ⟨h1, h3⟩
          · rw [if_pos (by simpa using h1)] at hr
            exact .inr ⟨by omega, by rw [hr, h3]⟩
          · have hx : ¬ x = s := fun e => h1 ⟨by simpa using e, by omega⟩
            rw [if_neg hx] at hr
            exact .inl ⟨by omega, hr⟩
        · rcases h with ⟨h1, h2, h3⟩ | ⟨h1, h3⟩
          · omega
          · exact .inr ⟨by omega, by omega⟩
      have HFIN := hid fin
      clear fin hat
      cases hxs : (x == s) with
      | true =>
        by_cases h0 : i = 0
        · subst h0
          replace hcw1 := hz0 rfl
          clear hz0
          by_cases hneg : at0 < 0
          · go_wp2
            go_roundg (n - (0 + 1))
            case measure => omega
            case rel => exact ⟨0 + 1, 0, rfl, by go_num, by omega, HFIN.out 0 (.inl ⟨hxs, hneg, rfl⟩), rfl, rfl⟩
          · go_wp2
            go_roundg (n - (0 + 1))
            case measure => omega
            case rel => exact ⟨0 + 1, at0, rfl, by go_num, by omega, HFIN.out at0 (.inr ⟨by omega, rfl⟩), rfl, rfl⟩
        · clear hz0
          by_cases hneg : at0 < 0
          · go_wp2
            go_roundg (n - (i + 1))
            case measure => omega
            case rel => exact ⟨i + 1, i, rfl, by go_num, by omega, HFIN.out i (.inl ⟨hxs, hneg, rfl⟩), rfl, rfl⟩
          · go_wp2
            go_roundg (n - (i + 1))
            case measure => omega
            case rel => exact ⟨i + 1, at0, rfl, by go_num, by omega, HFIN.out at0 (.inr ⟨by omega, rfl⟩), rfl, rfl⟩
      | false =>
        by_cases h0 : i = 0
        · subst h0
          replace hcw1 := hz0 rfl
          clear hz0
          go_wp2
          go_roundg (n - (0 + 1))
          case measure => omega
          case rel => exact ⟨0 + 1, at0, rfl, by go_num, by omega, HFIN.out at0 (.inr ⟨by rw [hxs]; simp, rfl⟩), rfl, rfl⟩
        · clear hz0
          go_wp2
          go_roundg (n - (i + 1))
          case measure => omega
          case rel => exact ⟨i + 1, at0, rfl, by go_num, by omega, HFIN.out at0 (.inr ⟨by rw [hxs]; simp, rfl⟩), rfl, rfl⟩
    · obtain rfl : i = n := by omega
      have hra : R = at0 := by
        rcases hat with ⟨ha, hr⟩ | ⟨ha, hr⟩
        · rw [List.drop_eq_nil_of_le (by rw [← HN.out]; exact Nat.le_refl _), findI] at hr
          rw [hr, ha]
        · exact hr
      subst hra
      have h1 := AW w12 HB12.out
      clear hat
      go_wp2_with fail
      (with_reducible refine h1.out.mono ?_); rintro e w13 ⟨rfl, hb13⟩
      have HB13 := hid (HB12.out.trans (hb13.mono HB12.out.size))
      clear hb13 h1
      go_wp2
      go_ret
      exact ⟨rfl, HB13.out⟩
end Go.Proofs.YtheiageokcgbhaaGreatDoor.Pz
/-
  Places written in digits; what ListPlaces asks, plain.
-/
namespace Go.Proofs.YtheiageokcgbhaaGreatDoor.Pz
open Go.RowKit
def dig1 (n : Nat) : UInt8 := (48 + n).toUInt8
def digE (n : Nat) : Str := if n < 10 then [dig1 n] else [dig1 (n / 10), dig1 (n % 10)]
theorem dig1_nat {n : Nat} (h : n < 10) : (dig1 n).toNat = 48 + n := by
  unfold dig1
  rw [Nat.toUInt8, UInt8.toNat_ofNat']
  omega
set_option maxRecDepth 100000 in
theorem digits0_fn (n : Nat) (h : n < 10) (w : World) : Calls Tryz.prog 49 #[.int .i64 (n : Nat)] w fun e w' => e = .returned (.string ⟨#[dig1 n]⟩) ∧ Below w.heap.size w w' := by
  have hcv := fun u => one_back (dig1 n) u
  have hw : IntKind.u8.wrap ((48 : Int) + (n : Int)) = ((dig1 n).toNat : Int) := by
    rw [dig1_nat h, ← u8_wrap (48 + n) (by omega)]
    congr 1
  have h10 : (n : Int) < 10 := by omega
  generalize dig1 n = c at hcv hw
  go_enter Tryz.func49, Tryz.ntmps49
  go_wp2
  go_ret
  exact ⟨rfl, (Below.refl _ _).alloc (Nat.le_refl _) _⟩
set_option maxRecDepth 100000 in
theorem digsE_fn (n : Nat) (h : n < 100) (w : World) : Calls Tryz.prog 49 #[.int .i64 (n : Nat)] w fun e w' => e = .returned (.string ⟨(digE n).toArray⟩) ∧ Below w.heap.size w w' := by
  unfold digE
  by_cases h1 : n < 10
  · rw [if_pos h1]
    exact digits0_fn n h1 w
  · rw [if_neg h1]
    have hq : Int.tdiv (n : Int) 10 = ((n / 10 : Nat) : Int) := by rw [Int.tdiv_eq_ediv_of_nonneg (by omega)]; simp
    have hr : Int.tmod (n : Int) 10 = ((n % 10 : Nat) : Int) := by rw [Int.tmod_eq_emod_of_nonneg (by omega)]; simp
    have hq2 : (n : Int) / 10 = ((n / 10 : Nat) : Int) := by simp
    have hr2 : (n : Int) % 10 = ((n % 10 : Nat) : Int) := by simp
    have HA := hid (fun u => digits0_fn (n / 10) (by omega) u)
    have HB := hid (fun u => digits0_fn (n % 10) (by omega) u)
    have ha10 : n / 10 < 10 := by omega
    have hb10 : n % 10 < 10 := by omega
    generalize n / 10 = qa at HA hq hq2 ha10
    generalize n % 10 = rb at HB hr hr2 hb10
    have hn10 : ¬ ((n : Int) < 10) := by omega
    generalize dig1 qa = ca at HA
    generalize dig1 rb = cb at HB
    have hA := HA.out w
    have hcat : (⟨#[ca]⟩ : ByteArray) ++ ⟨#[cb]⟩ = ⟨#[ca, cb]⟩ := by
      rw [ByteArray.ext_iff, ByteArray.data_append]
      rfl
    have hsa : (⟨#[ca]⟩ : ByteArray).size = 1 := rfl
    have hsb : (⟨#[cb]⟩ : ByteArray).size = 1 := rfl
    have HCAT := hid hcat
    clear hcat
    go_enter Tryz.func49, Tryz.ntmps49
    go_wp2_with fail
    (with_reducible refine hA.mono ?_); rintro e w1 ⟨rfl, hb1⟩
    have hB := HB.out w1
    have HB1 := hid hb1
    clear hb1 hA
    go_wp2_with fail
    (with_reducible refine hB.mono ?_); rintro e w2 ⟨rfl, hb2⟩
    have HB2 := hid (HB1.out.trans (hb2.mono HB1.out.size))
    clear hb2 hB
    go_wp2
    go_ret
    exact ⟨by rw [← HCAT.out] <;> rfl, HB2.out⟩
theorem placeE_num {w : Str} (h : tEnd.isPrefixOf w = false) (n m : Int) : placeE w n = placeE w m := by
  unfold placeE
  rw [if_neg (by rw [h]; simp), if_neg (by rw [h]; simp)]
theorem dig_all : (List.range 50).all (fun n => tEnd.isPrefixOf (digE n) == false && placeE (digE n) 0 == some (n : Int) && tEnd.isPrefixOf (digE n ++ [45, 49]) == false && placeE (digE n ++ [45, 49]) 0 == some ((n : Int) - 1) && tEnd.isPrefixOf (digE n ++ [43, 49]) == false && placeE (digE n ++ [43, 49]) 0 == some ((n : Int) + 1)) = true := by kernel_rfl
theorem dig_at {k : Nat} (h : k < 50) (n : Int) : placeE (digE k) n = some (k : Int) ∧ placeE (digE k ++ [45, 49]) n = some ((k : Int) - 1) ∧ placeE (digE k ++ [43, 49]) n = some ((k : Int) + 1) := by
  have h1 := List.all_eq_true.1 dig_all k (List.mem_range.2 h)
  simp only [Bool.and_eq_true, beq_iff_eq] at h1
  obtain ⟨⟨⟨⟨⟨a1, a2⟩, a3⟩, a4⟩, a5⟩, a6⟩ := h1
  exact ⟨by rw [placeE_num a1 n 0, a2], by rw [placeE_num a3 n 0, a4], by rw [placeE_num a5 n 0, a6]⟩
theorem place_zero (n : Int) : placeE [48] n = some 0 := by rw [placeE_num (by rfl) n 0]; kernel_rfl
theorem place_end (n : Int) : placeE tEnd n = some (n - 1) := rfl
theorem concat_three (a b c : List Str) : concatE [quotedL a, quotedL b, quotedL c] = quotedL (a ++ b ++ c) := by
  have h := concatE_app [quotedL a, quotedL b] (quotedL c)
  rw [concat_two, trimE_quoted] at h
  show concatE ([quotedL a, quotedL b] ++ [quotedL c]) = _
  rw [h]
  cases c with
  | nil => rw [if_pos (show (quotedL []).isEmpty = true from rfl), List.append_nil]
  | cons z c =>
    rw [if_neg (by simpa using quotedL_ne)]
    cases hab : a ++ b with
    | nil => rw [if_pos (show (quotedL []).isEmpty = true from rfl), List.nil_append]
    | cons x ab => rw [if_neg (by simpa using quotedL_ne), quotedL_app _ _ (by simp) (by simp)]
theorem chE_quoted {l l' : List Str} (h1 : l.length ≤ 10000) (h2 : sumS l' ≤ 10000) : chE (quotedL l) l' 0 = (quotedL l', 0) := by
  unfold chE
  rw [splitE_quoted l h1, if_neg (by simp), if_neg (by simp), joinRes_small h2]
theorem sumS_set : ∀ (l : List Str) (i : Nat) (x : Str), sumS (l.set i x) ≤ sumS l + (x.length + 1)
  | [], _, _ => by simp [sumS]
  | a :: l, 0, x => by rw [List.set_cons_zero, sumS, sumS]; omega
  | a :: l, i + 1, x => by
    have := sumS_set l i x
    rw [List.set_cons_succ, sumS, sumS]
    omega
theorem sumS_dropL : ∀ (l : List Str) (i : Nat), sumS (l.drop i) ≤ sumS l
  | [], i => by simp
  | a :: l, 0 => by simp
  | a :: l, i + 1 => by
    have := sumS_dropL l i
    rw [List.drop_succ_cons, sumS]
    omega
theorem set_place {l : List Str} {k : Nat} (hk : k < l.length) (h50 : k < 50) (hl : l.length ≤ 10000) (v : Str) (hs : sumS l + (v.length + 1) ≤ 10000) : setE [digE k] (quotedL l) v = (quotedL (l.set k v), 0) := by
  obtain ⟨d1, _, _⟩ := dig_at h50 (l.length : Nat)
  obtain ⟨d0, _, _⟩ := dig_at h50 0
  have hin : setIn l (digE k) (fun x => setE [] x v) = (l.set k v, 0) := by
    unfold setIn
    rw [d1]
    dsimp only
    rw [if_neg (by omega), if_neg (by omega)]
    rfl
  rw [setE, if_neg (by simp [d0]), splitE_quoted l hl]
  dsimp only
  rw [hin]
  show chE (quotedL l) (l.set k v) 0 = _
  exact chE_quoted hl (by have := sumS_set l k v; omega)
theorem index_place {l : List Str} {k : Nat} (hk : k < l.length) (h50 : k < 50) (hl : l.length ≤ 10000) : indexE (quotedL l) [digE k] = (l[k], 0) := by
  obtain ⟨d1, _, _⟩ := dig_at h50 (l.length : Nat)
  rw [indexE, splitE_quoted l hl, if_neg (by simp)]
  dsimp only
  rw [d1]
  dsimp only
  rw [if_pos (by omega), indexE, Int.toNat_natCast, List.getD_eq_getElem?_getD, List.getElem?_eq_getElem hk]
  rfl
theorem range_place {l : List Str} (f t : Str) {zf zt : Int} (hf : placeE f (l.length : Nat) = some zf) (ht : placeE t (l.length : Nat) = some zt) (hl : l.length ≤ 10000) (hs : sumS l ≤ 10000) (i j : Nat) (hi : (i : Int) = min (max zf 0) (l.length : Nat)) (hj : (j : Int) = max (i : Int) (min zt ((l.length : Nat) - 1) + 1)) :
    rangeE (quotedL l) f t = (quotedL ((l.take j).drop i), 0) := by
  unfold rangeE
  rw [splitE_quoted l hl]
  dsimp only
  have h1 : okE l.length f t = true := by unfold okE; rw [hf, ht]; rfl
  have h2 : loE l.length f = i := by unfold loE; rw [hf]; dsimp only [Option.getD]; omega
  have h3 : hiE l.length f t = j := by unfold hiE; rw [h2, ht]; dsimp only [Option.getD]; omega
  rw [h1, if_pos rfl, rangeL, h2, h3]
  exact chE_quoted hl (by have h4 := sumS_dropL (l.take j) i; have h5 := sumS_take l j; omega)
end Go.Proofs.YtheiageokcgbhaaGreatDoor.Pz
/-
  The law ListPlaces walked.
-/
namespace Go.Proofs.YtheiageokcgbhaaGreatDoor.Pz
open Go.RowKit
theorem strs_one (a : Str) (w : World) : StrsAt (w.alloc (.cells #[.string ⟨a.toArray⟩] 9)) (.slice (some ⟨w.heap.size, 0, none⟩) 1 1) [a] := by
  have hg : (w.alloc (.cells #[.string ⟨a.toArray⟩] 9)).heap[w.heap.size]? = some (.cells #[.string ⟨a.toArray⟩] 9 (0, 0)) := heap_alloc_new _ _
  refine ⟨some ⟨w.heap.size, 0, none⟩, 1, rfl, Nat.le_refl _, fun i hi => ⟨_, rfl, (Array.getElem?_eq_some_iff.1 hg).1, ?_⟩⟩
  rw [add_none, Lib.cell_of_heap hg, Nat.zero_add]
  match i, hi with
  | 0, _ => rfl
theorem strs_three (a b c : Str) (w : World) : StrsAt (w.alloc (.cells #[.string ⟨a.toArray⟩, .string ⟨b.toArray⟩, .string ⟨c.toArray⟩] 9)) (.slice (some ⟨w.heap.size, 0, none⟩) 3 3) [a, b, c] := by
  have hg : (w.alloc (.cells #[.string ⟨a.toArray⟩, .string ⟨b.toArray⟩, .string ⟨c.toArray⟩] 9)).heap[w.heap.size]? = some (.cells #[.string ⟨a.toArray⟩, .string ⟨b.toArray⟩, .string ⟨c.toArray⟩] 9 (0, 0)) := heap_alloc_new _ _
  refine ⟨some ⟨w.heap.size, 0, none⟩, 3, rfl, Nat.le_refl _, fun i hi => ⟨_, rfl, (Array.getElem?_eq_some_iff.1 hg).1, ?_⟩⟩
  rw [add_none, Lib.cell_of_heap hg, Nat.zero_add]
  match i, hi with
  | 0, _ => rfl
  | 1, _ => rfl
  | 2, _ => rfl
theorem cat_two (o x : Str) : (⟨o.toArray⟩ : ByteArray) ++ ⟨x.toArray⟩ = ⟨(o ++ x).toArray⟩ := by
  rw [ByteArray.ext_iff, ByteArray.data_append]
  simp
set_option maxRecDepth 100000 in
set_option maxHeartbeats 4000000 in
theorem listPlaces_fn (l : List Str) (v : Value) (at0 : Int) (s : Str) (w : World) (hml : ML w) (hv : StrsAt w v l) (hb : sumS l ≤ 10000000) (hs : s.length ≤ 2000000) :
    Calls Tryz.prog 8 #[v, .int .i64 at0, .string ⟨s.toArray⟩] w fun e w' => e = .returned (.bool true) ∧ Below w.heap.size w w' := by
  have HL1 := hid (long_fn hv hb)
  obtain ⟨W, hW⟩ : ∃ W, W = w.alloc (.cells #[.string ⟨s.toArray⟩] 9) := ⟨_, rfl⟩
  have hbW : Below w.heap.size w W := by rw [hW]; exact belowA _ _
  have hst : StrsAt W (.slice (some ⟨w.heap.size, 0, none⟩) 1 1) [s] := by rw [hW]; exact strs_one s w
  have HL2 := hid (long_fn hst (by simp [sumS]; omega))
  have HW := hid hW
  have HBW := hid hbW
  have HM := hid hml
  have AW := fun u (h : Below w.heap.size w u) => hid (awakeL_fn u (HM.out.below h))
  have HVA := hid (fun u (h : Below w.heap.size w u) => hv.below h)
  obtain ⟨a, cap, rfl, hcap, hcell⟩ := hv
  have HC := hid hcell
  have hwz := hbW.size
  obtain ⟨n, hn⟩ : ∃ n, n = l.length := ⟨_, rfl⟩
  have HN := hid hn
  rw [← hn] at HL1 HVA hcap ⊢
  clear hst hbW hW hml hcell
  by_cases hlo1 : longB l = true
  · rw [hlo1] at HL1
    have haw := AW w (Below.refl _ _)
    clear hn
    go_enter Tryz.func8, Tryz.ntmps8
    go_wp2_with fail
    (with_reducible refine HL1.out.mono ?_); rintro e w1 ⟨rfl, hw⟩; subst hw
    go_wp2_with fail
    (with_reducible refine haw.out.mono ?_); rintro e w2 ⟨rfl, hb2⟩
    have HB2 := hid hb2
    clear hb2
    go_wp2
    go_ret
    exact ⟨rfl, HB2.out⟩
  rw [Bool.not_eq_true] at hlo1
  rw [hlo1] at HL1
  by_cases hgo : longB [s] = true ∨ at0 < 0 ∨ (n : Int) ≤ at0 ∨ 50 < n
  · have haw := AW W HBW.out
    clear hn
    cases hlo2 : longB [s] with
    | true =>
      rw [hlo2] at HL2
      go_enter Tryz.func8, Tryz.ntmps8
      go_wp2_with fail
      (with_reducible refine HL1.out.mono ?_); rintro e w1 ⟨rfl, hw⟩; subst hw
      go_wp2_with fail
      rw [← HW.out]
      (with_reducible refine HL2.out.mono ?_); rintro e w2 ⟨rfl, hw⟩; subst hw
      go_wp2_with fail
      (with_reducible refine haw.out.mono ?_); rintro e w3 ⟨rfl, hb2⟩
      have HB2 := hid (HBW.out.trans (hb2.mono hwz))
      clear hb2
      go_wp2
      go_ret
      exact ⟨rfl, HB2.out⟩
    | false =>
      rw [hlo2] at HL2
      by_cases g1 : at0 < 0
      · go_enter Tryz.func8, Tryz.ntmps8
        go_wp2_with fail
        (with_reducible refine HL1.out.mono ?_); rintro e w1 ⟨rfl, hw⟩; subst hw
        go_wp2_with fail
        rw [← HW.out]
        (with_reducible refine HL2.out.mono ?_); rintro e w2 ⟨rfl, hw⟩; subst hw
        go_wp2_with fail
        (with_reducible refine haw.out.mono ?_); rintro e w3 ⟨rfl, hb2⟩
        have HB2 := hid (HBW.out.trans (hb2.mono hwz))
        clear hb2
        go_wp2
        go_ret
        exact ⟨rfl, HB2.out⟩
      · by_cases g2 : (n : Int) ≤ at0
        · have g3 : at0 ≥ (n : Int) := g2
          go_enter Tryz.func8, Tryz.ntmps8
          go_wp2_with fail
          (with_reducible refine HL1.out.mono ?_); rintro e w1 ⟨rfl, hw⟩; subst hw
          go_wp2_with fail
          rw [← HW.out]
          (with_reducible refine HL2.out.mono ?_); rintro e w2 ⟨rfl, hw⟩; subst hw
          go_wp2_with fail
          (with_reducible refine haw.out.mono ?_); rintro e w3 ⟨rfl, hb2⟩
          have HB2 := hid (HBW.out.trans (hb2.mono hwz))
          clear hb2
          go_wp2
          go_ret
          exact ⟨rfl, HB2.out⟩
        · have g3 : ¬ (at0 ≥ (n : Int)) := g2
          have g4 : (n : Int) > 50 := by
            rcases hgo with h | h | h | h
            · rw [hlo2] at h; cases h
            · omega
            · omega
            · omega
          go_enter Tryz.func8, Tryz.ntmps8
          go_wp2_with fail
          (with_reducible refine HL1.out.mono ?_); rintro e w1 ⟨rfl, hw⟩; subst hw
          go_wp2_with fail
          rw [← HW.out]
          (with_reducible refine HL2.out.mono ?_); rintro e w2 ⟨rfl, hw⟩; subst hw
          go_wp2_with fail
          (with_reducible refine haw.out.mono ?_); rintro e w3 ⟨rfl, hb2⟩
          have HB2 := hid (HBW.out.trans (hb2.mono hwz))
          clear hb2
          go_wp2
          go_ret
          exact ⟨rfl, HB2.out⟩
  have hlo2 : longB [s] = false := by
    cases h : longB [s] with
    | false => rfl
    | true => exact absurd (.inl h) hgo
  rw [hlo2] at HL2
  have g1 : ¬ at0 < 0 := fun h => hgo (.inr (.inl h))
  have g2 : ¬ (n : Int) ≤ at0 := fun h => hgo (.inr (.inr (.inl h)))
  have g50 : n ≤ 50 := by
    rcases Nat.lt_or_ge 50 n with h | h
    · exact absurd (.inr (.inr (.inr h))) hgo
    · exact h
  obtain ⟨k, rfl⟩ : ∃ k : Nat, at0 = (k : Nat) := ⟨at0.toNat, by omega⟩
  have hkn : k < n := by omega
  have hk50 : k < 50 := by omega
  have hkl : k < l.length := by omega
  have hsl : sumS l ≤ 1500 := by
    rw [longB, decide_eq_false_iff_not] at hlo1
    omega
  have hss : s.length ≤ 1500 := by
    rw [longB, decide_eq_false_iff_not, sumS, sumS] at hlo2
    omega
  have hl10 : l.length ≤ 10000 := by omega
  have hql := quotedL_len l
  obtain ⟨l2, hl2⟩ : ∃ l2, l2 = l.set k s := ⟨_, rfl⟩
  have hl2n : l2.length = n := by rw [hl2, List.length_set, hn]
  have hl2s : sumS l2 ≤ 3010 := by have := sumS_set l k s; rw [hl2]; omega
  have hql2 := quotedL_len l2
  have hdl : (digE k).length ≤ 2 := by unfold digE; split <;> simp
  have hat2 : ∀ (h : k < l2.length), l2[k] = s := by intro h; subst hl2; simp
  have hoth : ∀ i (h : i < l2.length) (h' : i < l.length), i ≠ k → l2[i] = l[i] := by
    intro i h h' hne
    subst hl2
    rw [List.getElem_set_ne (fun e => hne e.symm)]
  have H1 := hid (fun u (h : Below w.heap.size w u) => joinA_fn l _ u (HM.out.below h) (HVA.out u h) (by omega))
  rw [joinRes_small (by omega)] at H1
  have H2 := hid (fun u => digsE_fn k (by omega) u)
  have H3 := hid (fun (u : World) (h : Below w.heap.size w u) => setP_fn [digE k] (quotedL l) s _ _ (HM.out.below (h.alloc h.size (.cells #[.string ⟨(digE k).toArray⟩] 9))) (strs_one (digE k) u) (by omega) (by simp; omega) (by simp))
  rw [set_place hkl hk50 hl10 s (by omega)] at H3
  have H4 := hid (fun (u : World) => indexL_fn (quotedL l2) [digE k] _ _ (strs_one (digE k) u) (by omega) (by simp; omega) (by simp))
  rw [index_place (l := l2) (k := k) (by omega) hk50 (by omega), hat2 (by omega)] at H4
  rw [← hl2] at H3
  have H5 := hid (fun u => split_fn (quotedL l2) (by omega) u)
  unfold SplitQ at H5
  rw [splitE_quoted l2 (by omega)] at H5
  obtain ⟨d1, d2, d3⟩ := dig_at hk50 (l.length : Nat)
  have H6 := hid (fun u (h : Below w.heap.size w u) => rangeP_fn (quotedL l) [48] (digE k ++ [45, 49]) u (HM.out.below h) (by omega) (by simp) (by simp; omega))
  rw [range_place [48] (digE k ++ [45, 49]) (place_zero _) d2 hl10 (by omega) 0 k (by omega) (by omega)] at H6
  have H7 := hid (fun u (h : Below w.heap.size w u) => rangeP_fn (quotedL l) (digE k) (digE k) u (HM.out.below h) (by omega) (by omega) (by omega))
  rw [range_place (digE k) (digE k) d1 d1 hl10 (by omega) k (k + 1) (by omega) (by omega)] at H7
  have H8 := hid (fun u (h : Below w.heap.size w u) => rangeP_fn (quotedL l) (digE k ++ [43, 49]) tEnd u (HM.out.below h) (by omega) (by simp; omega) (by decide))
  rw [range_place (digE k ++ [43, 49]) tEnd d3 (place_end _) hl10 (by omega) (k + 1) l.length (by omega) (by omega), List.take_length] at H8
  unfold tEnd at H8
  have hsplit : l.take k ++ (l.take (k + 1)).drop k ++ l.drop (k + 1) = l := by
    have e1 : l.take k ++ (l.take (k + 1)).drop k = l.take (k + 1) := by
      have := List.take_append_drop k (l.take (k + 1))
      rw [List.take_take, Nat.min_eq_left (by omega)] at this
      exact this
    rw [e1, List.take_append_drop]
  rw [List.drop_zero] at H6
  have hqa := quotedL_len (l.take k)
  have hqb := quotedL_len ((l.take (k + 1)).drop k)
  have hqc := quotedL_len (l.drop (k + 1))
  have hta := sumS_take l k
  have htb := sumS_dropL (l.take (k + 1)) k
  have htb2 := sumS_take l (k + 1)
  have htc := sumS_dropL l (k + 1)
  have H9 := hid (fun u => concat_fn [quotedL (l.take k), quotedL ((l.take (k + 1)).drop k), quotedL (l.drop (k + 1))] _ _ (strs_three (quotedL (l.take k)) (quotedL ((l.take (k + 1)).drop k)) (quotedL (l.drop (k + 1))) u) (by simp [sumS]; omega))
  rw [concat_three, hsplit] at H9
  have HOTH := hid hoth
  have HL2N := hid hl2n
  have hcm : (⟨(digE k).toArray⟩ : ByteArray) ++ ⟨#[45, 49]⟩ = ⟨(digE k ++ [45, 49]).toArray⟩ := cat_two (digE k) [45, 49]
  have hcp : (⟨(digE k).toArray⟩ : ByteArray) ++ ⟨#[43, 49]⟩ = ⟨(digE k ++ [43, 49]).toArray⟩ := cat_two (digE k) [43, 49]
  have hszd : (⟨(digE k).toArray⟩ : ByteArray).size = (digE k).length := Lib.size_mk _
  generalize quotedL (l.take k) = qa at H6 H9
  generalize quotedL ((l.take (k + 1)).drop k) = qb at H7 H9
  generalize quotedL (l.drop (k + 1)) = qc at H8 H9
  generalize quotedL l = ql at H1 H3 H6 H7 H8 H9
  generalize quotedL l2 = ql2 at H3 H4 H5
  dsimp only at H1 H3 H4 H5 H6 H7 H8
  generalize hdm : digE k ++ [45, 49] = dm at H6 hcm
  generalize hdp : digE k ++ [43, 49] = dp at H8 hcp
  generalize digE k = dk at H2 H3 H4 H7 hcm hcp hdl hszd
  have hdl2 := hdl
  clear hdm hdp d1 d2 d3 hqa hqb hqc hta htb htb2 htc hsplit hat2 hoth hl2 hl2s hql hql2 hlo1 hlo2 hgo hl10 hn hkl hb hs hss hsl hl2n
  go_enter Tryz.func8, Tryz.ntmps8
  go_wp2_with fail
  (with_reducible refine HL1.out.mono ?_); rintro e w1 ⟨rfl, hw⟩; subst hw
  go_wp2_with fail
  rw [← HW.out]
  (with_reducible refine HL2.out.mono ?_); rintro e w2 ⟨rfl, hw⟩; subst hw
  have h1 := H1.out w2 HBW.out
  go_wp2_with fail
  (with_reducible refine h1.mono ?_); rintro e w3 ⟨rfl, hb3⟩
  have HB3 := hid (HBW.out.trans (hb3.mono hwz))
  clear hb3 h1
  have h1 := H2.out w3
  go_wp2_with fail
  (with_reducible refine h1.mono ?_); rintro e w4 ⟨rfl, hb4⟩
  have HB4 := hid (HB3.out.trans (hb4.mono HB3.out.size))
  clear hb4 h1
  have h1 := H3.out w4 HB4.out
  have HX := hid (HB4.out.alloc HB4.out.size (.cells #[.string ⟨dk.toArray⟩] 9))
  go_wp2_with fail
  (with_reducible refine h1.mono ?_); rintro e w5 ⟨rfl, hb5⟩
  have HB5 := hid (HX.out.trans (hb5.mono HX.out.size))
  clear hb5 h1 HX
  have h1 := H4.out w5
  have HX := hid (HB5.out.alloc HB5.out.size (.cells #[.string ⟨dk.toArray⟩] 9))
  go_wp2_with fail
  (with_reducible refine h1.mono ?_); rintro e w6 ⟨rfl, hb6⟩
  have HB6 := hid (HX.out.trans (hb6.mono HX.out.size))
  clear hb6 h1 HX
  have h1 := H5.out w6
  go_wp2_with fail
  (with_reducible refine h1.mono ?_); rintro e w7 ⟨hb7, v7, rfl, hr7⟩
  have HB7 := hid (HB6.out.trans (hb7.mono HB6.out.size))
  obtain ⟨a7, c7, rfl⟩ := hr7.shape
  have hst7 := hr7.strs
  obtain ⟨a', c', e', hcap7, hcell7⟩ := hst7
  simp only [Value.slice.injEq, true_and] at e'
  obtain ⟨rfl, rfl⟩ := e'
  have HC7 := hid hcell7
  rw [HL2N.out] at hcap7 ⊢
  clear hb7 hr7 hcell7 h1
  go_wp2_with fail
  go_loopg [97] n (fun m iv wr => ∃ i : Nat, iv = .int .i64 (i : Nat) ∧ i ≤ n ∧ Below w7.heap.size w7 wr ∧ m = n - i)
  case atStart => exact ⟨0, rfl, Nat.zero_le _, Below.refl _ _, by simp⟩
  case round =>
    obtain ⟨i, rfl, hi, hbl, rfl⟩ := hrel
    have hsw := hbl.size
    rcases Nat.lt_or_ge i n with hlt | hge
    · by_cases hik : i = k
      · subst hik
        have hnk : ((i : Int) != (i : Int)) = false := by simp
        have HBL := hid hbl
        clear hbl
        go_wp2
        go_quiet (fail)
        go_wp2
        go_roundg (n - (i + 1))
        case measure => omega
        case rel => exact ⟨i + 1, by go_num, by omega, HBL.out.trans ⟨rfl, rfl, rfl, Nat.le_refl _, fun _ _ => rfl⟩, rfl⟩
      · have hnk : ((i : Int) != (k : Int)) = true := by
          rw [bne_iff_ne]
          omega
        obtain ⟨p7, rfl, hb7, hc7⟩ := HC7.out i (by rw [HL2N.out]; exact hlt)
        obtain ⟨p, rfl, hb0, hc0⟩ := HC.out i (by rw [← HN.out]; exact hlt)
        rw [HOTH.out i (by rw [HL2N.out]; exact hlt) (by rw [← HN.out]; exact hlt) hik] at hc7
        have hd7 : wr.cell? (p7.add i) = some (.string ⟨l[i].toArray⟩) := by rw [hbl.cell (p := p7.add i) (by rw [add_block]; exact hb7)]; exact hc7
        have hd0 : wr.cell? (p.add i) = some (.string ⟨l[i].toArray⟩) := by rw [(HB7.out.trans (hbl.mono HB7.out.size)).cell (p := p.add i) (by rw [add_block]; exact hb0)]; exact hc0
        have hz7 : i = 0 → wr.cell? p7 = some (.string ⟨l[i].toArray⟩) := by
          intro h0
          subst h0
          exact hd7
        have hz0 : i = 0 → wr.cell? p = some (.string ⟨l[i].toArray⟩) := by
          intro h0
          subst h0
          exact hd0
        generalize l[i] = x at hd7 hd0 hz7 hz0 hc7 hc0
        have HBL := hid hbl
        clear hbl hc7 hc0
        by_cases h0 : i = 0
        · subst h0
          replace hd7 := hz7 rfl
          replace hd0 := hz0 rfl
          clear hz7 hz0 hnk
          have hnk : ((0 : Int) != (k : Int)) = true := by
            rw [bne_iff_ne]
            omega
          go_wp2
          go_quiet (fail)
          go_wp2
          go_roundg (n - (0 + 1))
          case measure => omega
          case rel => exact ⟨0 + 1, by go_num, by omega, HBL.out.trans ⟨rfl, rfl, rfl, Nat.le_refl _, fun _ _ => rfl⟩, rfl⟩
        · clear hz7 hz0
          go_wp2
          go_quiet (fail)
          go_wp2
          go_roundg (n - (i + 1))
          case measure => omega
          case rel => exact ⟨i + 1, by go_num, by omega, HBL.out.trans ⟨rfl, rfl, rfl, Nat.le_refl _, fun _ _ => rfl⟩, rfl⟩
    · obtain rfl : i = n := by omega
      have HB8 := hid (HB7.out.trans (hbl.mono HB7.out.size))
      have h1 := H6.out wr HB8.out
      clear hbl
      go_wp2_with fail
      (with_reducible refine h1.mono ?_); rintro e w9 ⟨rfl, hb9⟩
      have HB9 := hid (HB8.out.trans (hb9.mono HB8.out.size))
      clear hb9 h1
      have h1 := H7.out w9 HB9.out
      go_wp2_with fail
      (with_reducible refine h1.mono ?_); rintro e w10 ⟨rfl, hb10⟩
      have HB10 := hid (HB9.out.trans (hb10.mono HB9.out.size))
      clear hb10 h1
      have h1 := H8.out w10 HB10.out
      go_wp2_with fail
      (with_reducible refine h1.mono ?_); rintro e w11 ⟨rfl, hb11⟩
      have HB11 := hid (HB10.out.trans (hb11.mono HB10.out.size))
      clear hb11 h1
      have h1 := H9.out w11
      have HX := hid (HB11.out.alloc HB11.out.size (.cells #[.string ⟨qa.toArray⟩, .string ⟨qb.toArray⟩, .string ⟨qc.toArray⟩] 9))
      go_wp2_with fail
      (with_reducible refine h1.mono ?_); rintro e w12 ⟨rfl, hb12⟩
      have HB12 := hid (HX.out.trans (hb12.mono HX.out.size))
      clear hb12 h1 HX
      have h1 := AW w12 HB12.out
      go_wp2_with fail
      (with_reducible refine h1.out.mono ?_); rintro e w13 ⟨rfl, hb13⟩
      have HB13 := hid (HB12.out.trans (hb13.mono HB12.out.size))
      clear hb13 h1
      go_wp2
      go_ret
      exact ⟨rfl, HB13.out⟩
end Go.Proofs.YtheiageokcgbhaaGreatDoor.Pz
/-
  ListPlaces: the row and its card (the second form: arguments of bulk at most 1048576). Condition: the listed package-level variables hold what the row lists (the card ties them to the text).
-/
namespace Go.Proofs.YtheiageokcgbhaaGreatDoor.listPlaces
open Go.ChangeMaps Go.ChangeShapes Go.WideShapes Go.ChangeAt Go.RowKit
theorem own : ownKnob Tryz.prog.godebug = none := by kernel_rfl
theorem ok_true {P : Program} {W' : World} {f : Func} {t : TypeId} (hr : f.resultTypes = #[t]) (ht : P.underlying t = some .bool) :
    ∀ (j : Nat) (t' : TypeId) (r : Value), f.resultTypes[j]? = some t' → ((Value.bool true).resultList f.resultTypes.size)[j]? = some r → Value.okWide P W' .any 0 t' r := ok_one hr rfl (okWide_bool_mk ht true)
section
variable {H : Type} {enc : TypeId × Value → H}
/-- the row's last step: the arguments' places read as they did, no variable is asked, what lay below is as it was -/
theorem post_rows {f : Func} {s : ChangeSpec} {W W' : World} {args : Array Value} {v : Value} {ds gs : List (DataW H)} {before pa : List MemPlace}
    (hW : DataW.Whole enc Tryz.prog f.params.toList s.vars false W args.toList ds gs before)
    (hres : ∀ (b : Nat) (sp : Nat → Bool) (hd : Bool), DataW.TrodAll enc Tryz.prog W' b sp hd f.resultTypes.toList (v.resultList f.resultTypes.size) (s.fn H (ds ++ gs)).results [])
    (hargs : DataW.TrodAll enc Tryz.prog W' 0 (fun b => decide (b < W.heap.size)) true f.params.toList args.toList (s.fn H (ds ++ gs)).args pa)
    (hvars : ∀ sp : Nat → Bool, DataW.TrodVars enc Tryz.prog W' sp s.vars (s.fn H (ds ++ gs)).vars []) (hb : Below W.heap.size W W') :
    s.post enc Tryz.prog f false true false false W args v W' :=
  ⟨ds, gs, before, [], pa, [], hW, hres _ _ _, hargs, hvars _, hb.frame _, fun h => by cases h⟩
theorem laidOut : laidOutB Tryz.prog = true := by kernel_rfl
end
theorem contract (H : Type) (enc : TypeId × Value → H) (W : World) (base : Nat) (args : Array Value) (ds gs : List (DataW H)) (before : List MemPlace)
    (hval : ∀ (j : Nat) t v, Tryz.f8.params[j]? = some t → args[j]? = some v → Value.okWide Tryz.prog W .any base t v)
    (hW : DataW.Whole enc Tryz.prog Tryz.f8.params.toList Rows.listPlacesSpec.vars false W args.toList ds gs before) (hk : Rows.uptoSmall H (ds ++ gs) = true) (hml : Pz.ML W) :
    Calls Tryz.prog 8 args W fun e W' => ∃ v, e = .returned v ∧ Rows.listPlacesSpec.post enc Tryz.prog Tryz.f8 false true false false W args v W' := by
  have hW' := hW
  obtain ⟨p, q, hA0, hV, rfl, hfz, hnd⟩ := hW
  have hA : DataW.TrodAll enc Tryz.prog W 0 (fun _ => true) true Tryz.f8.params.toList args.toList ds p := hA0
  rw [Tryz.params8] at hA hval
  obtain ⟨v0, vs0, d0, ds0, p0, q0, hargs, rfl, rfl, h0, r0⟩ := trodAll_cons hA
  obtain ⟨v1, vs1, d1, ds1, p1, q1, rfl, rfl, rfl, h1, r1⟩ := trodAll_cons r0
  obtain ⟨v2, vs2, d2, ds2, p2, q2, rfl, rfl, rfl, h2, r2⟩ := trodAll_cons r1
  obtain ⟨rfl, rfl, rfl⟩ := trodAll_nil r2
  obtain rfl : args = #[v0, v1, v2] := by cases args; simp_all
  obtain ⟨rfl, rfl⟩ := trodVars_none hV
  obtain ⟨s1, rfl, rfl, rfl, m1⟩ := open_int Tryz.underlying3 (by with_reducible exact hval 1 3 v1 (by simp) (by simp)) h1
  obtain ⟨s2, rfl, rfl, rfl, m2⟩ := open_string Tryz.underlying9 (by with_reducible exact hval 2 9 v2 (by simp) (by simp)) h2
  clear hA0
  simp only [List.append_nil] at hW' hk
  have hlt0 : ∀ x ∈ p0, x.block < W.heap.size := fun x hx => by simpa using hW'.lt x (by simp [hx])
  obtain ⟨l0, hl0, hb0, hn0⟩ := Opn.opened_strs (P := Tryz.prog) Tryz.underlying24 Tryz.underlying9 (by kernel_rfl) (by with_reducible exact hval 0 24 v0 (by simp) (by simp)) h0 hlt0
  have e2 : s2 = ⟨s2.data.toList.toArray⟩ := by cases s2; simp
  have q2 : s2.data.toList.length ≤ 9223372036854775807 := by
    have h1 : s2.data.toList.length = s2.size := by rw [Array.length_toList]; rfl
    have h2 := m2
    unfold maxLen at h2
    omega
  have hk := of_decide_eq_true hk
  simp only [Rows.uptoBulkAll, Rows.uptoBulk] at hk
  have walk := Pz.listPlaces_fn l0 _ s1 s2.data.toList W hml hl0 (by omega) (by omega)
  rw [← e2] at walk
  refine walk.mono fun e W' ⟨he, hg⟩ => ?_
  subst he
  exact ⟨_, rfl, post_rows hW' (fun _ _ _ => trodAll_cons_mk (shut_bool Tryz.underlying4 _) trodAll_mk0) (trodAll_cons_mk (Below.trod laidOut (by kernel_rfl) (of_decide_eq_true (by kernel_rfl)) h0 hg hlt0) (trodAll_cons_mk (shut_int Tryz.underlying3 m1) (trodAll_cons_mk (shut_string Tryz.underlying9 m2) (trodAll_mk0)))) (fun _ => rfl) hg⟩
theorem reads (os : Os) {H : Type} (enc : TypeId × Value → H) : ∃ places, DataW.whole enc Tryz.prog ((World.laidAll Tryz.prog os Rows.listPlacesUptoRow.laid).forCall (fun _ _ => 0) ⟨#[], #[.slice none 0 0, .int .i64 0, .string .empty], []⟩).memory Tryz.f8.params.toList Rows.listPlacesSpec.vars false (#[.slice none 0 0, .int .i64 0, .string .empty] : Array Value).toList 8 = some ([.nil, .lit (.int .i64 0), .lit (.string [])], [], places) :=
  ⟨[], by kernel_rfl⟩
set_option maxRecDepth 100000 in
theorem lifted (os : Os) (started : os.Started) (H : Type) (enc : TypeId × Value → H) (F : Stop.Interp) :
    ReturnsInHanded {} Tryz.checked os 8 .any ((Rows.OpenSpec.upto Rows.listPlacesSpec).preRow enc Tryz.prog Tryz.f8 Rows.listPlacesUptoRow.domain false Rows.listPlacesUptoRow.laid) (((Rows.OpenSpec.upto Rows.listPlacesSpec).at F).post enc Tryz.prog Tryz.f8 false true false false) := by
  obtain ⟨places, hx⟩ := reads os enc
  have hl : laidMetH Tryz.prog Rows.listPlacesUptoRow.laid ((World.laidAll Tryz.prog os Rows.listPlacesUptoRow.laid).forCall (fun _ _ => 0) ⟨#[], #[.slice none 0 0, .int .i64 0, .string .empty], []⟩).memory := by
    rw [MakeChecks.laidMetH_plain _ _ _ (by kernel_rfl)]
    exact laidMet_laidAll _ (by kernel_rfl) (by kernel_rfl)
  refine returnsInHanded_of_row (C := Tryz.checked) (s := (Rows.OpenSpec.upto Rows.listPlacesSpec)) own started (by kernel_rfl) Tryz.func8
    (witness_row_at (enc := enc) (C := Tryz.checked) false (World.laidAll Tryz.prog os Rows.listPlacesUptoRow.laid) #[.slice none 0 0, .int .i64 0, .string .empty] (World.laidAll_os _ _ _) (by kernel_rfl) (by kernel_rfl) (by kernel_rfl)
      (OpenSpec.preRow_of_cond 8 hx (by kernel_rfl) (fun k hk => by cases hk; kernel_rfl) (by kernel_rfl) hl)) ?_
  intro W base args ds gs before hval hW _ hcond _ _ hsh _
  exact contract H enc W base args ds gs before hval hW (hcond _ rfl) (cell_of_shapedOpen_int (t := 3) (zero := #[.int .i64 0]) hsh (of_decide_eq_true (by kernel_rfl)) (by kernel_rfl) rfl (by kernel_rfl) (by kernel_rfl) Tryz.underlying3)
theorem said : Rows.ListPlacesUptoSaid :=
  OpenClaim.holds_of_cond 8 Tryz.f8 rfl rfl rfl rfl rfl rfl rfl ⟨rfl, rfl, rfl, rfl, rfl⟩ rfl rfl rfl rfl rfl (by kernel_rfl) Tryz.func8 (by kernel_rfl)
    (of_decide_eq_true (by kernel_rfl)) (by unfold Func.isWrapper; first | (rw [if_pos (by decide +kernel)]; kernel_rfl) | (rw [if_neg (by decide +kernel)]; exact ⟨rfl, rfl⟩))
    (fun os started H enc _ F => by rw [OpenClaim.pre_eq_preRow]; exact lifted os started H enc F)
theorem plain (f : FuncId) (fn : Func) (hf : Tryz.pinned.checked.prog.funcNamed "threadbare/threadbarelaw02.ListPlaces" = some f) (hfn : Tryz.pinned.checked.prog.funcs[f]? = some fn) :
    true = Tryz.pinned.checked.prog.looks [] ∧ ∀ (j : Nat) t, fn.params[j]? = some t → Tryz.pinned.checked.prog.wantsStandIn t = false := by
  obtain rfl : f = 8 := Option.some.inj ((show Tryz.prog.funcNamed "threadbare/threadbarelaw02.ListPlaces" = some 8 by kernel_rfl).symm.trans hf) |>.symm
  obtain rfl : fn = Tryz.f8 := (Option.some.inj (Tryz.func8.symm.trans hfn)).symm
  refine ⟨by kernel_rfl, fun j t ht => ?_⟩
  rw [Tryz.params8] at ht
  have ht := Array.mem_of_getElem? ht
  simp at ht
  rcases ht with rfl | rfl | rfl
  · exact (show Tryz.prog.wantsStandIn 24 = false by kernel_rfl)
  · exact (show Tryz.prog.wantsStandIn 3 = false by kernel_rfl)
  · exact (show Tryz.prog.wantsStandIn 9 = false by kernel_rfl)
theorem card : Rows.ListPlacesUptoCardSaid :=
  Claim7.holds_tied_plain_at .later [] _ _ _ _ said (fun _ h => by cases h) (by kernel_rfl) (fun _ h => by cases h) listPlacesUpto_row_tie rfl ⟨rfl, rfl⟩ (by kernel_rfl) rfl plain (by kernel_rfl)
end Go.Proofs.YtheiageokcgbhaaGreatDoor.listPlaces
