/-
  Part K7 of the proofs of this seat: contracts of functions and plain facts, merged from 8 texts.
-/
import Derived.Test.YtheiageokcgbhaaGreatDoorK0
import Derived.Test.YtheiageokcgbhaaGreatDoorK1
import Derived.Test.YtheiageokcgbhaaGreatDoorK2
import Derived.Test.YtheiageokcgbhaaGreatDoorK3
import Derived.Test.YtheiageokcgbhaaGreatDoorK4
import Derived.Test.YtheiageokcgbhaaGreatDoorK5
import Derived.Test.YtheiageokcgbhaaGreatDoorK6
/-
  Lists: canonical lists put together are canonical; the first that is a text (plain).
-/
namespace Go.Proofs.YtheiageokcgbhaaGreatDoor.Pz
open Go.RowKit
theorem cutR_stay {c : UInt8} {t : Str} (h : white c = false ∨ slashes t % 2 = 1) : cutR (c :: t) = c :: t := by
  rw [cutR, if_neg]
  rw [Bool.and_eq_true]
  rintro ⟨h1, h2⟩
  rcases h with h | h
  · rw [h] at h1; cases h1
  · have h2 : slashes t % 2 = 0 := by simpa using h2
    omega
theorem slashes_app32 : ∀ (t x : Str), slashes (t ++ 32 :: x) = slashes t
  | [], x => rfl
  | c :: t, x => by
    rw [List.cons_append, slashes, slashes, slashes_app32 t x]
theorem slash_snoc : ∀ (s : Str) (b : Bool) (c : UInt8), slash b (s ++ [c]) = slash b s ++ (if special c || (s.isEmpty && b && c == 35) then [92, slash1 c] else [c])
  | [], b, c => by
    rw [List.nil_append, slash, slash, slash, List.nil_append]
    simp only [List.isEmpty_nil, Bool.true_and]
  | d :: s, b, c => by
    have ih := slash_snoc s false c
    rw [List.cons_append, slash, slash, ih]
    simp only [List.isEmpty_cons, Bool.false_and, Bool.and_false, Bool.or_false]
    split <;> rfl
theorem slash1_bs {c : UInt8} (h : special c = true ∨ c = 35) : (slash1 c == 92) = true → c = 92 := by
  intro h2
  rcases slashy h with rfl | rfl | rfl | rfl | rfl | rfl | rfl | rfl | rfl | rfl | rfl | rfl | rfl | rfl | rfl <;> first | rfl | (exact absurd h2 (by decide))
theorem slash_even (b : Bool) : ∀ r : Str, slashes (slash b r.reverse).reverse % 2 = 0
  | [] => by rw [List.reverse_nil, slash]; rfl
  | c :: t => by
    have ih := slash_even b t
    rw [List.reverse_cons, slash_snoc, List.reverse_append]
    split
    · rename_i h
      show slashes (slash1 c :: 92 :: (slash b t.reverse).reverse) % 2 = 0
      rw [slashes, slashes, if_pos (show ((92 : UInt8) == 92) = true from rfl)]
      split <;> omega
    · rename_i h
      have hs : special c = false := by
        cases hc : special c with
        | false => rfl
        | true => rw [hc] at h; exact absurd rfl h
      have h92 : (c == 92) = false := by
        rw [beq_eq_false_iff_ne]
        rintro rfl
        exact absurd hs (by decide)
      show slashes (c :: (slash b t.reverse).reverse) % 2 = 0
      rw [slashes, h92]
      rfl
theorem slash_end (b : Bool) (c : UInt8) (t : Str) : ∃ d u, (slash b (c :: t).reverse).reverse = d :: u ∧ (white d = false ∨ slashes u % 2 = 1) := by
  rw [List.reverse_cons, slash_snoc, List.reverse_append]
  split
  · refine ⟨slash1 c, 92 :: (slash b t.reverse).reverse, rfl, .inr ?_⟩
    have := slash_even b t
    rw [slashes, if_pos (show ((92 : UInt8) == 92) = true from rfl)]
    omega
  · rename_i h
    have hs : special c = false := by
      cases hc : special c with
      | false => rfl
      | true => rw [hc] at h; exact absurd rfl h
    exact ⟨c, _, rfl, .inl (plain_facts hs).1⟩
theorem quote_end (s : Str) : ∃ d u, (quote s).reverse = d :: u ∧ (white d = false ∨ slashes u % 2 = 1) := by
  unfold quote
  split
  · exact ⟨125, [123], rfl, .inl rfl⟩
  · rename_i h
    obtain ⟨c, t, hs⟩ : ∃ c t, s.reverse = c :: t := by
      cases hr : s.reverse with
      | nil => rw [List.reverse_eq_nil_iff] at hr; subst hr; exact absurd rfl h
      | cons c t => exact ⟨c, t, rfl⟩
    have hs2 : s = (c :: t).reverse := by rw [← hs, List.reverse_reverse]
    split
    · rename_i hp
      rw [plainW, Bool.and_eq_true] at hp
      have hc : special c = false := by
        have := List.all_eq_true.1 hp.2 c (by rw [hs2]; simp)
        simpa using this
      exact ⟨c, t, hs, .inl (plain_facts hc).1⟩
    · split
      · exact ⟨125, (123 :: s).reverse, by rw [← List.cons_append, List.reverse_append]; rfl, .inl rfl⟩
      · rw [hs2]
        exact slash_end true c t
theorem quote_first (s : Str) : ∃ e u, quote s = e :: u ∧ white e = false := (elemE_quote s [] rfl).1
theorem cutL_quoted : ∀ l : List Str, cutL (quotedL l) = quotedL l
  | [] => rfl
  | [a] => by
    obtain ⟨e, u, h1, h2⟩ := quote_first a
    rw [quotedL, h1, cutL, if_neg (by rw [h2]; simp)]
  | a :: b :: l => by
    obtain ⟨e, u, h1, h2⟩ := quote_first a
    rw [quotedL_two, h1, List.cons_append, cutL, if_neg (by rw [h2]; simp)]
theorem cutR_quoted (r : List Str) : cutR (quotedL r.reverse).reverse = (quotedL r.reverse).reverse := by
  cases r with
  | nil => rfl
  | cons s t =>
    obtain ⟨d, u, h1, h2⟩ := quote_end s
    rw [List.reverse_cons, quotedL_snoc]
    split
    · rw [h1]
      exact cutR_stay h2
    · have e : (quotedL t.reverse ++ 32 :: quote s).reverse = d :: (u ++ 32 :: (quotedL t.reverse).reverse) := by
        rw [List.reverse_append, List.reverse_cons, h1]
        simp
      rw [e]
      refine cutR_stay ?_
      rcases h2 with h | h
      · exact .inl h
      · exact .inr (by rw [slashes_app32]; exact h)
theorem trimE_quoted (l : List Str) : trimE (quotedL l) = quotedL l := by
  have h := cutR_quoted l.reverse
  rw [List.reverse_reverse] at h
  rw [trimE, cutL_quoted, h, List.reverse_reverse]
theorem quotedL_app : ∀ (a b : List Str), a ≠ [] → b ≠ [] → quotedL (a ++ b) = quotedL a ++ 32 :: quotedL b
  | [], _, h, _ => absurd rfl h
  | [x], [], _, h => absurd rfl h
  | [x], y :: b, _, _ => by rw [List.singleton_append, quotedL_two, quotedL]
  | x :: y :: a, b, _, h => by
    have ih := quotedL_app (y :: a) b (by simp) h
    rw [List.cons_append] at ih
    rw [List.cons_append, List.cons_append, quotedL_two, ih, quotedL_two, List.append_assoc, List.cons_append]
theorem quotedL_ne {x : Str} {l : List Str} : quotedL (x :: l) ≠ [] := by
  obtain ⟨e, u, h1, _⟩ := quote_first x
  cases l with
  | nil => rw [quotedL, h1]; simp
  | cons y l => rw [quotedL_two, h1]; simp
theorem concat_two (a b : List Str) : concatE [quotedL a, quotedL b] = quotedL (a ++ b) := by
  unfold concatE
  rw [catE, catE, catE, trimE_quoted, trimE_quoted]
  cases a with
  | nil =>
    rw [if_pos (show (quotedL []).isEmpty = true from rfl), List.nil_append]
    cases b with
    | nil => rfl
    | cons y b =>
      rw [if_neg (by simpa using quotedL_ne)]
      rfl
  | cons x a =>
    rw [if_neg (by simpa using quotedL_ne)]
    cases b with
    | nil =>
      rw [if_pos (show (quotedL []).isEmpty = true from rfl), List.append_nil]
      rfl
    | cons y b =>
      rw [if_neg (by simpa using quotedL_ne), quotedL_app _ _ (by simp) (by simp)]
      rfl
/-- the first place of a text in a row; -1 if there is none -/
def findI (s : Str) : List Str → Nat → Int
  | [], _ => -1
  | x :: l, i => if x = s then (i : Int) else findI s l (i + 1)
end Go.Proofs.YtheiageokcgbhaaGreatDoor.Pz
/-
  Lists: Search of a text as it is; a row put behind another one.
-/
namespace Go.Proofs.YtheiageokcgbhaaGreatDoor.Pz
open Go.RowKit
/-- 'append(s, t...)' where t lies somewhere, or is nil -/
theorem app_any {w : World} {ops : Array Oper} {rest : List Oper} {o : Oper} {a : Act} {Q : Exit → Act → World → Prop} (hgd : o.guard = none) (s x : Operand)
    (ho : o.op = .call { callee := .builtin .append, args := #[s, x], argTypes := #[24, 24] }) (B : Nat) (v u : Value) (l m : List Str)
    (hs : a.eval s = v) (hown : RowS B w v l) (hx : a.eval x = u) (hrow : StrsAt w u m) (hnil : ∀ n c, u = .slice none n c → c = 0) (hB : B ≤ w.heap.size) (hl : l.length + m.length ≤ 10000000)
    (h : ∀ v' w', RowS B w' v' (l ++ m) → w.grownBy w' v.ownBlock → (∀ g, v'.ownBlock = some g → v.ownBlock = some g ∨ w.heap.size ≤ g) → wpList Tryz.prog ops Q rest (a.put o.dst v') w') :
    wpList Tryz.prog ops Q (o :: rest) a w := by
  obtain ⟨i0, hi, hz0, hz1, hz2⟩ := info_parts Tryz.infoS
  have hrow2 := hrow
  obtain ⟨p, c, rfl, hcap, hcell⟩ := hrow
  cases p with
  | none =>
    obtain rfl : c = 0 := hnil _ _ rfl
    have h0 : m.length = 0 := by omega
    obtain rfl : m = [] := List.eq_nil_of_length_eq_zero h0
    refine wpList_append_own_none hgd s x 24 ho B 9 i0 1 Tryz.underlying24 hi v l.length (strCells l) hs hown hx ?_
    exact h v w (by simpa using hown) ⟨rfl, rfl, rfl, Nat.le_refl _, fun _ _ _ => rfl⟩ fun g hg => .inl hg
  | some p => exact app_strs hgd s x ho B v p m.length c l m hs hown hx hrow2 hB hl h
theorem findI_at {s : Str} {l : List Str} {i : Nat} (h : i < l.length) : findI s (l.drop i) i = if l[i] = s then (i : Int) else findI s (l.drop (i + 1)) (i + 1) := by
  rw [List.drop_eq_getElem_cons h, findI]
set_option maxRecDepth 100000 in
set_option maxHeartbeats 1000000 in
theorem search0_fn (s pat : Str) (w : World) (hs : s.length ≤ 1000000) (l : List Str) (he : splitE s = (l, 0, 0)) :
    Calls Tryz.prog 24 #[.string ⟨s.toArray⟩, .string ⟨pat.toArray⟩, .int .i64 0, .int .i64 0] w fun e w' => e = .returned (.tuple #[.int .i64 (findI pat l 0), .int .i64 0]) ∧ Below w.heap.size w w' := by
  have HS := split_fn s hs w
  unfold SplitQ at HS
  rw [he] at HS
  have hlb : l.length ≤ 10000 := by have := (splitE_out s).2.1; rw [he] at this; exact this
  obtain ⟨R, hR⟩ : ∃ R, R = findI pat l 0 := ⟨_, rfl⟩
  rw [← hR]
  have HR := hid hR
  have HS' := hid HS
  clear hR HS he
  go_enter Tryz.func24, Tryz.ntmps24
  go_wp2_with fail
  (with_reducible refine HS'.out.mono ?_); rintro e w1 ⟨hb1, v1, rfl, hr1⟩
  have HB1 := hid hb1
  obtain ⟨a, c, rfl⟩ := hr1.shape
  have HST := hid hr1.strs
  have hcell := hr1.strs
  obtain ⟨a', c', e', hcap, hcell⟩ := hcell
  simp only [Value.slice.injEq, true_and] at e'
  obtain ⟨rfl, rfl⟩ := e'
  have HC := hid hcell
  obtain ⟨n, hn⟩ : ∃ n, n = l.length := ⟨_, rfl⟩
  have HN := hid hn
  rw [← hn] at hlb hcap ⊢
  clear hb1 hr1 hcell hn
  go_wp2_with fail
  go_loopg [13] n (fun k iv wr => ∃ i : Nat, iv = .int .i64 (i : Nat) ∧ i ≤ n ∧ R = findI pat (l.drop i) i ∧ wr = w1 ∧ k = n - i)
  case atStart => exact ⟨0, by go_num, Nat.zero_le _, by rw [List.drop_zero]; exact HR.out, rfl, by simp⟩
  case round =>
    obtain ⟨i, rfl, hi, hR, hw, rfl⟩ := hrel
    replace hw := hw.symm
    subst hw
    rcases Nat.lt_or_ge i n with hlt | hge
    · have hlt' : i < l.length := by rw [← HN.out]; exact hlt
      obtain ⟨p, rfl, hbb, hcw1⟩ := HC.out i hlt'
      rw [findI_at hlt'] at hR
      have hz0 : i = 0 → w1.cell? p = some (.string ⟨l[i].toArray⟩) := by
        intro h0
        subst h0
        exact hcw1
      generalize l[i] = x at hcw1 hz0 hR
      by_cases hxp : x = pat
      · subst hxp
        rw [if_pos rfl] at hR
        by_cases h0 : i = 0
        · subst h0
          replace hcw1 := hz0 rfl
          have HE := hid hR
          clear hz0 hR HR
          go_wp2
          go_ret2
          exact ⟨by rw [HE.out] <;> rfl, HB1.out⟩
        · have HE := hid hR
          clear hz0 hR HR
          go_wp2
          go_ret2
          exact ⟨by rw [HE.out] <;> rfl, HB1.out⟩
      · rw [if_neg hxp] at hR
        have hpx : (x == pat) = false := by simpa using hxp
        by_cases h0 : i = 0
        · subst h0
          replace hcw1 := hz0 rfl
          have HE := hid hR
          clear hz0 hR HR
          go_wp2
          go_roundg (n - (0 + 1))
          case measure => omega
          case rel => exact ⟨0 + 1, by go_num, by omega, HE.out, rfl, rfl⟩
        · have HE := hid hR
          clear hz0 hR HR
          go_wp2
          go_roundg (n - (i + 1))
          case measure => omega
          case rel => exact ⟨i + 1, by go_num, by omega, HE.out, rfl, rfl⟩
    · obtain rfl : i = n := by omega
      rw [List.drop_eq_nil_of_le (by rw [← HN.out]; exact Nat.le_refl _), findI] at hR
      have HE := hid hR
      clear hR HR
      go_wp2
      go_ret2
      exact ⟨by rw [HE.out] <;> rfl, HB1.out⟩
end Go.Proofs.YtheiageokcgbhaaGreatDoor.Pz
/-
  The reference's number.
-/
namespace Go.Proofs.YtheiageokcgbhaaGreatDoor.Pz
open Go.RowKit
theorem numV_isSome : ∀ (s : Str) (v : Nat), (numV v s).isSome = s.all dec
  | [], v => rfl
  | c :: t, v => by
    rw [numV, List.all_cons]
    split
    · rename_i h
      rw [numV_isSome t, h, Bool.true_and]
    · rename_i h
      rw [Bool.not_eq_true] at h
      rw [h]
      rfl
theorem numE_isSome (s : Str) : (numE s).isSome = (decide (1 ≤ s.length) && decide (s.length ≤ 9) && s.all dec) := by
  rw [numE]
  split
  · rename_i h
    have : ¬ (1 ≤ s.length ∧ s.length ≤ 9) := by omega
    by_cases h1 : 1 ≤ s.length
    · simp [show ¬ s.length ≤ 9 by omega]
    · simp [h1]
  · rename_i h
    rw [numV_isSome, decide_eq_true (by omega), decide_eq_true (by omega)]
    rfl
set_option maxRecDepth 100000 in
set_option maxHeartbeats 1000000 in
theorem numberR_fn (s : Str) (hs : s.length ≤ 1000000) (w : World) : Calls Tryz.prog 128 #[.string ⟨s.toArray⟩] w fun e w' => w' = w ∧ ∃ m : Nat, e = .returned (.tuple #[.int .i64 (m : Nat), .bool (numE s).isSome]) ∧ (∀ k, numE s = some k → m = k) ∧ m ≤ 999999999 := by
  have hsz : (⟨s.toArray⟩ : ByteArray).size = s.length := Lib.size_mk _
  obtain ⟨V, hV⟩ : ∃ V, V = numV 0 s := ⟨_, rfl⟩
  have hVE : ∀ k, numE s = some k → V = some k := by
    intro k h
    rw [numE] at h
    split at h
    · cases h
    · rw [hV]; exact h
  obtain ⟨b, hb⟩ : ∃ b, b = (numE s).isSome := ⟨_, rfl⟩
  rw [← hb]
  rw [numE_isSome] at hb
  obtain ⟨A, hA⟩ : ∃ A, A = s.all dec := ⟨_, rfl⟩
  rw [← hA] at hb
  have HV := hid hV
  have HVE := hid hVE
  have HB := hid hb
  have HA := hid hA
  clear hV hVE hb hA
  go_enter Tryz.func128, Tryz.ntmps128
  go_wp2_with fail
  go_loopg [4, 8] s.length (fun k nv iv wr => ∃ (i v : Nat) (rest : Str), nv = .int .i64 (v : Nat) ∧ iv = .int .i64 (i : Nat) ∧ At s rest i ∧ (i ≤ 9 → V = numV v rest) ∧ A = rest.all dec ∧ v < 10 ^ min i 9 ∧ wr = w ∧ k = rest.length)
  case atStart => exact ⟨0, 0, s, rfl, rfl, At.start s, fun _ => HV.out, HA.out, by simp, rfl, rfl⟩
  case round =>
    obtain ⟨i, v, rest, rfl, rfl, ha, hv, hal, hvb, hw, rfl⟩ := hrel
    replace hw := hw.symm
    subst hw
    have hpow : 10 ^ min i 9 ≤ 10 ^ 9 := Nat.pow_le_pow_right (by omega) (by omega)
    have hvc : v < 1000000000 := by omega
    have hle : i ≤ s.length := by have := ha.len; omega
    cases rest with
    | nil =>
      have hge : s.length ≤ i := ha.nil_iff.1 rfl
      obtain rfl : i = s.length := by omega
      have hA1 : A = true := hal
      have hwi := hid (within1_fn (s.length : Nat) 1 9 w)
      have hbw : b = (decide ((1 : Int) ≤ (s.length : Nat)) && decide (((s.length : Nat) : Int) ≤ 9)) := by
        rw [HB.out, hA1, Bool.and_true]
        congr 1
        · rw [decide_eq_decide]; omega
        · rw [decide_eq_decide]; omega
      rw [← hbw] at hwi
      have hm : ∀ k, numE s = some k → v = k := by
        intro k hk
        have h1 := HVE.out k hk
        have h9 : s.length ≤ 9 := by
          rw [numE] at hk
          split at hk
          · cases hk
          · omega
        rw [hv h9, numV] at h1
        exact Option.some.inj h1
      have HMM := hid hm
      clear hv hal hm hbw hA1 hvb ha hge
      go_wp2_with fail
      (with_reducible refine hwi.out.mono ?_); rintro e w1 ⟨rfl, hw⟩; subst w1
      go_wp2
      go_ret2
      exact ⟨rfl, v, rfl, HMM.out, by omega⟩
    | cons c t =>
      have hlt := ha.lt
      have hx := ha.byte
      have hcl : c.toNat < 256 := c.toNat_lt
      have hwi := hid (within1_fn (c.toNat : Nat) 48 57 w)
      have ha2 := hid ha.tail
      rw [List.all_cons] at hal
      have hdw : (decide ((48 : Int) ≤ (c.toNat : Nat)) && decide (((c.toNat : Nat) : Int) ≤ 57)) = dec c := by
        rw [dec_nat]
        congr 1
        · rw [decide_eq_decide]; omega
        · rw [decide_eq_decide]; omega
      rw [hdw] at hwi
      cases hd : dec c with
      | false =>
        rw [hd] at hwi hal
        have hbF : b = false := by rw [HB.out, hal]; simp
        have hnone : ∀ k, numE s = some k → (0 : Nat) = k := by
          intro k hk
          have h1 : (numE s).isSome = true := by rw [hk]; rfl
          rw [numE_isSome, ← HA.out, hal] at h1
          simp at h1
        have HNN := hid hnone
        subst hbF
        clear hv hal ha hnone hdw hd HB
        go_wp2_with fail
        (with_reducible refine hwi.out.mono ?_); rintro e w1 ⟨rfl, hw⟩; subst w1
        go_wp2
        go_ret2
        exact ⟨rfl, 0, rfl, HNN.out, by omega⟩
      | true =>
        rw [hd] at hwi hal
        rw [Bool.true_and] at hal
        have hd' := hd
        rw [dec_nat, Bool.and_eq_true] at hd'
        have hd1 := of_decide_eq_true hd'.1
        have hd2 := of_decide_eq_true hd'.2
        have hu : IntKind.u8.wrap ((c.toNat : Int) - 48) = ((c.toNat - 48 : Nat) : Int) := by rw [← u8_wrap (c.toNat - 48) (by omega)]; congr 1; omega
        have hv2 : i < 9 → V = numV (10 * v + (c.toNat - 48)) t := by
          intro h9
          have := hv (by omega)
          rw [numV, if_pos hd] at this
          exact this
        obtain ⟨d, hdd⟩ : ∃ d, d = c.toNat - 48 := ⟨_, rfl⟩
        rw [← hdd] at hu hv2
        have hd9 : d ≤ 9 := by omega
        have HV2 := hid hv2
        have HAL := hid hal
        clear hv hal hv2 hd' hdw hd
        by_cases h9 : i < 9
        · have hnx : 10 * v + d < 10 ^ min (i + 1) 9 := by
            rw [Nat.min_eq_left (by omega)] at hvb
            rw [Nat.min_eq_left (by omega), Nat.pow_succ]
            omega
          have hi9 : (i : Int) < 9 := by omega
          clear ha hdd
          go_wp2_with fail
          (with_reducible refine hwi.out.mono ?_); rintro e w1 ⟨rfl, hw⟩; subst w1
          go_wp2
          go_roundg t.length
          case measure => simp
          case rel => exact ⟨i + 1, 10 * v + d, t, by go_num, by go_num, ha2.out, fun _ => HV2.out h9, HAL.out, hnx, rfl, rfl⟩
        · have hi9 : ¬ (i : Int) < 9 := by omega
          have hnx : v < 10 ^ min (i + 1) 9 := by
            rw [Nat.min_eq_right (by omega)] at hvb ⊢
            exact hvb
          clear ha hdd
          go_wp2_with fail
          (with_reducible refine hwi.out.mono ?_); rintro e w1 ⟨rfl, hw⟩; subst w1
          go_wp2
          go_roundg t.length
          case measure => simp
          case rel => exact ⟨i + 1, v, t, rfl, by go_num, ha2.out, fun h => absurd h (by omega), HAL.out, hnx, rfl, rfl⟩
end Go.Proofs.YtheiageokcgbhaaGreatDoor.Pz
/-
  The reference's Place: the same as the program's (plain).
-/
namespace Go.Proofs.YtheiageokcgbhaaGreatDoor.Pz
open Go.RowKit
def sgn (c : UInt8) : Bool := c == 43 || c == 45
/-- how many bytes stand before the first sign -/
def nsN : Str → Nat
  | [] => 0
  | c :: t => if sgn c then 0 else nsN t + 1
theorem nsN_le : ∀ s : Str, nsN s ≤ s.length
  | [] => Nat.le_refl _
  | c :: t => by
    have := nsN_le t
    rw [nsN, List.length_cons]
    split <;> omega
def cutN : Str → Nat
  | [] => 0
  | _ :: t => nsN t + 1
theorem cutN_le (s : Str) : cutN s ≤ s.length := by
  cases s with
  | nil => exact Nat.le_refl _
  | cons c t =>
    have := nsN_le t
    rw [cutN, List.length_cons]
    omega
/-- what the first part is -/
def firstR (f : Str) (n : Int) : Option Int :=
  if f = tEnd then some (n - 1)
  else match f with
    | [] => none
    | c :: f' =>
      if c = 45 then
        match numE f' with
        | none => none
        | some k => some (-(k : Int))
      else
        match numE (c :: f') with
        | none => none
        | some k => some (k : Int)
def placeR (w : Str) (n : Int) : Option Int :=
  match firstR (w.take (cutN w)) n with
  | none => none
  | some a =>
    match w.drop (cutN w) with
    | [] => some a
    | c :: t =>
      match numE t with
      | none => none
      | some k => some (if c = 45 then a - (k : Int) else a + (k : Int))
theorem dec_sgn {c : UInt8} (h : dec c = true) : sgn c = false := by
  rw [dec_nat, Bool.and_eq_true] at h
  have h1 := of_decide_eq_true h.1
  rw [sgn, Bool.or_eq_false_iff]
  refine ⟨?_, ?_⟩ <;> (rw [beq_eq_false_iff_ne]; rintro rfl; exact absurd h1 (by decide))
theorem numE_bad {s : Str} (h : s.all dec = false) : numE s = none := by
  have := numE_isSome s
  rw [h, Bool.and_false] at this
  cases hn : numE s with
  | none => rfl
  | some k => rw [hn] at this; cases this
theorem numE_nil : numE [] = none := by rw [numE, if_pos (.inl rfl)]
theorem digN_all : ∀ s : Str, (s.take (digN s)).all dec = true
  | [] => rfl
  | c :: t => by
    rw [digN]
    split
    · rename_i h
      rw [List.take_succ_cons, List.all_cons, h, digN_all t]
      rfl
    · rfl
/-- behind the digits stands nothing or no digit -/
theorem digN_next : ∀ s : Str, s.drop (digN s) = [] ∨ ∃ c t, s.drop (digN s) = c :: t ∧ dec c = false
  | [] => .inl rfl
  | c :: t => by
    rw [digN]
    split
    · rw [List.drop_succ_cons]
      exact digN_next t
    · rename_i h
      exact .inr ⟨c, t, rfl, by simpa using h⟩
/-- the bytes before the first sign: the digits and what follows up to it -/
theorem nsN_digs : ∀ (a r : Str), a.all dec = true → nsN (a ++ r) = a.length + nsN r
  | [], r, _ => by simp
  | c :: a, r, h => by
    rw [List.all_cons, Bool.and_eq_true] at h
    rw [List.cons_append, nsN, dec_sgn h.1, if_neg (by simp), nsN_digs a r h.2, List.length_cons]
    omega
theorem tail_sign (sum : Int) (c : UInt8) (t : Str) : tailE sum (c :: t) = if sgn c then (match numE t with | none => none | some k => some (if c = 45 then sum - (k : Int) else sum + (k : Int))) else none := by
  rw [tailE]
  cases hn : numE t with
  | none => cases sgn c <;> rfl
  | some k =>
    dsimp only
    by_cases h43 : c = 43
    · subst h43
      rfl
    · by_cases h45 : c = 45
      · subst h45
        rfl
      · have hs : sgn c = false := by
          rw [sgn, Bool.or_eq_false_iff]
          exact ⟨by simpa using h43, by simpa using h45⟩
        rw [if_neg h43, if_neg h45, hs]
        rfl
/-- the part that is a number, with what stands behind it -/
theorem split_num (d : Str) (m : Nat) (hm : ∀ a r, d = a ++ r → a.all dec = true → a ≠ [] → m = a.length + nsN r) (hz : (∃ c t, d = c :: t ∧ dec c = false) → (∃ c t, d.take m = c :: t ∧ dec c = false) ∨ d.take m = []) (sg : Nat → Int) :
    (match numE (d.take m) with
      | none => none
      | some f => match d.drop m with
        | [] => some (sg f)
        | c :: t => match numE t with
          | none => none
          | some k => some (if c = 45 then sg f - (k : Int) else sg f + (k : Int))) =
    (match numE (d.take (digN d)) with
      | none => none
      | some f => tailE (sg f) (d.drop (digN d))) := by
  have hd : d = d.take (digN d) ++ d.drop (digN d) := (List.take_append_drop _ _).symm
  have hall := digN_all d
  have hnx := digN_next d
  generalize d.take (digN d) = a at hd hall ⊢
  generalize d.drop (digN d) = r at hd hnx ⊢
  by_cases ha : a = []
  · subst ha
    rw [numE_nil]
    rw [List.nil_append] at hd
    subst hd
    rcases hnx with rfl | ⟨c, t, rfl, hc⟩
    · rw [List.take_nil, numE_nil]
    · rcases hz ⟨c, t, rfl, hc⟩ with ⟨c', t', h1, h2⟩ | h1
      · rw [h1, numE_bad (by rw [List.all_cons, h2]; rfl)]
      · rw [h1, numE_nil]
  · have hml := hm a r hd hall ha
    rcases hnx with rfl | ⟨c, t, rfl, hc⟩
    · rw [List.append_nil] at hd
      subst hd
      have e1 : d.take m = d := List.take_of_length_le (by rw [hml]; simp [nsN])
      have e2 : d.drop m = [] := List.drop_eq_nil_of_le (by rw [hml]; simp [nsN])
      rw [e1, e2]
      cases numE d <;> rfl
    · cases hs : sgn c with
      | true =>
        have hm2 : m = a.length := by rw [hml, nsN, hs]; rfl
        have e1 : d.take m = a := by rw [hd, hm2, List.take_append_of_le_length (Nat.le_refl _), List.take_length]
        have e2 : d.drop m = c :: t := by rw [hd, hm2, List.drop_append_of_le_length (Nat.le_refl _), List.drop_length, List.nil_append]
        rw [e1, e2]
        cases numE a with
        | none => rfl
        | some f => dsimp only; rw [tail_sign, hs, if_pos rfl]
      | false =>
        have hm2 : a.length < m := by rw [hml, nsN, hs]; simp
        have e1 : (d.take m).all dec = false := by
          rw [hd, List.take_append, List.all_append]
          obtain ⟨q, hq⟩ : ∃ q, m - a.length = q + 1 := ⟨m - a.length - 1, by omega⟩
          rw [hq, List.take_succ_cons, List.all_cons, hc]
          simp
        rw [numE_bad e1]
        cases numE a with
        | none => rfl
        | some f => dsimp only; rw [tail_sign, hs]; rfl
theorem placeR_eq (w : Str) (n : Int) : placeR w n = placeE w n := by
  unfold placeE
  cases hp : tEnd.isPrefixOf w with
  | true =>
    rw [if_pos rfl]
    obtain ⟨r, rfl⟩ := List.isPrefixOf_iff_prefix.1 hp
    have hcut : cutN (tEnd ++ r) = 3 + nsN r := by
      show nsN (110 :: 100 :: r) + 1 = _
      rw [nsN, if_neg (by decide), nsN, if_neg (by decide)]
      omega
    have e1 : (tEnd ++ r).take (3 + nsN r) = tEnd ++ r.take (nsN r) := by
      rw [List.take_append, List.take_of_length_le (show tEnd.length ≤ 3 + nsN r by rw [show tEnd.length = 3 from rfl]; omega), show 3 + nsN r - tEnd.length = nsN r by rw [show tEnd.length = 3 from rfl]; omega]
    have e2 : (tEnd ++ r).drop (3 + nsN r) = r.drop (nsN r) := by
      rw [List.drop_append, List.drop_of_length_le (show tEnd.length ≤ 3 + nsN r by rw [show tEnd.length = 3 from rfl]; omega), List.nil_append, show 3 + nsN r - tEnd.length = nsN r by rw [show tEnd.length = 3 from rfl]; omega]
    have e3 : (tEnd ++ r).drop 3 = r := rfl
    rw [placeR, hcut, e1, e2, e3]
    cases r with
    | nil => rfl
    | cons c t =>
      rw [tail_sign]
      cases hs : sgn c with
      | true =>
        rw [nsN, hs, if_pos rfl, if_pos rfl, List.take_zero, List.append_nil, List.drop_zero, firstR.eq_def, if_pos rfl]
      | false =>
        rw [nsN, hs, if_neg (by simp), if_neg (by simp), List.take_succ_cons]
        have h1 : firstR (tEnd ++ c :: t.take (nsN t)) n = none := by
          rw [firstR.eq_def, if_neg (by intro h; have := congrArg List.length h; simp at this)]
          show (if (101 : UInt8) = 45 then _ else (match numE (101 :: 110 :: 100 :: c :: t.take (nsN t)) with | none => none | some k => some (k : Int))) = none
          rw [if_neg (by decide), numE_bad (by rw [List.all_cons]; rfl)]
        rw [h1]
  | false =>
    rw [if_neg (by simp)]
    have hne : w.take (cutN w) ≠ tEnd := by
      intro h
      have : tEnd <+: w := by rw [← h]; exact List.take_prefix _ _
      rw [List.isPrefixOf_iff_prefix.2 this] at hp
      cases hp
    cases w with
    | nil => rfl
    | cons c0 t =>
      rw [placeR, firstR.eq_def, if_neg hne]
      rw [cutN, List.take_succ_cons, List.drop_succ_cons]
      dsimp only
      by_cases h45 : c0 = 45
      · subst h45
        rw [if_pos rfl]
        have htp : Lib.trimPrefix (45 :: t) [45] = t := rfl
        have hn2 : ¬ t = 45 :: t := by intro h; have := congrArg List.length h; simp at this
        rw [htp]
        simp only [if_neg hn2]
        have h := split_num t (nsN t) (fun a r h1 h2 _ => by rw [h1]; exact nsN_digs a r h2) (fun ⟨c, u, h1, h2⟩ => by
          subst h1
          rw [nsN]
          cases sgn c with
          | true => exact .inr rfl
          | false => exact .inl ⟨c, _, rfl, h2⟩) (fun f => -(f : Int))
        refine Eq.trans ?_ h
        cases numE (t.take (nsN t)) <;> rfl
      · rw [if_neg h45]
        have htp : Lib.trimPrefix (c0 :: t) [45] = c0 :: t := by
          unfold Lib.trimPrefix Lib.hasPrefix
          rw [if_neg]
          simp [List.isPrefixOf]
          exact fun h => h45 h.symm
        rw [htp]
        simp only [↓reduceIte]
        have h := split_num (c0 :: t) (nsN t + 1) (fun a r h1 h2 h3 => by
          cases a with
          | nil => exact absurd rfl h3
          | cons c a =>
            rw [List.cons_append] at h1
            obtain ⟨rfl, rfl⟩ := List.cons.inj h1
            rw [List.all_cons, Bool.and_eq_true] at h2
            rw [nsN_digs a r h2.2, List.length_cons]
            omega) (fun ⟨c, u, h1, h2⟩ => by
          obtain ⟨rfl, rfl⟩ := List.cons.inj h1
          exact .inl ⟨c0, _, rfl, h2⟩) (fun f => (f : Int))
        rw [List.take_succ_cons, List.drop_succ_cons] at h
        refine Eq.trans ?_ h
        cases numE (c0 :: t.take (nsN t)) <;> rfl
end Go.Proofs.YtheiageokcgbhaaGreatDoor.Pz
/-
  The reference's Place walked.
-/
namespace Go.Proofs.YtheiageokcgbhaaGreatDoor.Pz
open Go.RowKit
def tailR (a : Int) : Str → Option Int
  | [] => some a
  | c :: t =>
    match numE t with
    | none => none
    | some k => some (if c = 45 then a - (k : Int) else a + (k : Int))
theorem placeR_some {w : Str} {n a : Int} (h : firstR (w.take (cutN w)) n = some a) : placeR w n = tailR a (w.drop (cutN w)) := by
  rw [placeR, h]
  cases w.drop (cutN w) with
  | nil => rfl
  | cons c t => rfl
theorem placeR_none {w : Str} {n : Int} (h : firstR (w.take (cutN w)) n = none) : placeR w n = none := by
  rw [placeR, h]
theorem head_get (c : UInt8) (t : Str) : ∀ h', (⟨(c :: t).toArray⟩ : ByteArray)[0]'h' = c := (At.start (c :: t)).byte
set_option maxRecDepth 100000 in
set_option maxHeartbeats 4000000 in
theorem placeRef_fn (s : Str) (n : Nat) (hs : s.length ≤ 1000000) (hn : n ≤ 1000001) (w : World) : Calls Tryz.prog 79 #[.string ⟨s.toArray⟩, .int .i64 (n : Nat)] w fun e w' => e = .returned (plAns (placeE s (n : Nat))) ∧ w' = w := by
  rw [← placeR_eq]
  have HN := hid (fun t (h : t.length ≤ 1000000) => numberR_fn t h w)
  have hsz : (⟨s.toArray⟩ : ByteArray).size = s.length := Lib.size_mk _
  have hg0 : ¬ ((n : Int) < 0) := by omega
  cases hs0 : s with
  | nil =>
    subst hs0
    have h0 := HN.out [] (by simp)
    rw [numE_nil, show (⟨([] : Str).toArray⟩ : ByteArray) = ByteArray.empty from rfl] at h0
    have H0 := hid h0
    have hsz0 : (⟨([] : Str).toArray⟩ : ByteArray).size = 0 := rfl
    have hR : placeR [] (n : Nat) = none := rfl
    rw [hR]
    clear HN h0 hsz
    go_enter Tryz.func79, Tryz.ntmps79
    go_wp2_with fail
    go_loopg [6, 7] 0 (fun k cv iv wr => cv = .int .i64 0 ∧ iv = .int .i64 (-1) ∧ wr = w ∧ k = 0)
    case atStart => exact ⟨rfl, rfl, rfl, rfl⟩
    case round =>
      obtain ⟨rfl, rfl, hw, rfl⟩ := hrel
      replace hw := hw.symm
      subst hw
      go_wp2_with fail
      (with_reducible refine H0.out.mono ?_); rintro e w1 ⟨hw, m, rfl, hm, hmb⟩; subst w1
      simp only [Option.isSome]
      go_wp2
      go_ret2
      exact ⟨rfl, rfl⟩
  | cons c0 t0 =>
    have hlen0 : s.length = t0.length + 1 := by rw [hs0]; rfl
    have hcut : cutN s = 1 + nsN (s.drop 1) := by rw [hs0, cutN, List.drop_succ_cons, List.drop_zero]; omega
    have hstep : ∀ i (h : i < s.length), nsN (s.drop i) = if sgn s[i] then 0 else nsN (s.drop (i + 1)) + 1 := by
      intro i h
      rw [List.drop_eq_getElem_cons h, nsN]
    rw [← hs0]
    obtain ⟨R, hR⟩ : ∃ R, R = placeR s (n : Nat) := ⟨_, rfl⟩
    rw [← hR]
    have HR := hid hR
    have HCUT := hid hcut
    have HST := hid hstep
    have HS0 := hid hs0
    have HL0 := hid hlen0
    clear hR hcut hstep hs0 hlen0
    go_enter Tryz.func79, Tryz.ntmps79
    go_wp2_with fail
    go_loopg [6, 7] t0.length (fun k cv iv wr => ∃ (i q : Nat), cv = .int .i64 (q : Nat) ∧ iv = .int .i64 (i : Nat) ∧ i < s.length ∧ q = (i + 1) + nsN (s.drop (i + 1)) ∧ q ≤ s.length ∧ wr = w ∧ k = i)
    case atStart => exact ⟨t0.length, s.length, rfl, by rw [Value.int.injEq]; exact ⟨rfl, by have := HL0.out; omega⟩, by have := HL0.out; omega, by have := HL0.out; rw [List.drop_eq_nil_of_le (by omega), nsN]; omega, Nat.le_refl _, rfl, rfl⟩
    case round =>
      obtain ⟨i, q, rfl, rfl, hi, hq, hqs, hw, hk⟩ := hrel
      replace hw := hw.symm
      subst hw
      replace hk := hk.symm
      subst hk
      rcases Nat.eq_zero_or_pos i with h0 | hpos
      · subst h0
        have hqc : q = cutN s := by rw [HCUT.out, hq]
        have hex : (⟨s.toArray⟩ : ByteArray).extract 0 q = ⟨(s.take q).toArray⟩ := by rw [Lib.extract_mk, List.drop_zero, Nat.sub_zero]
        have hq1 : 1 ≤ q := by omega
        obtain ⟨f', hf⟩ : ∃ f', s.take q = c0 :: f' := by
          rw [HS0.out]
          obtain ⟨q', rfl⟩ : ∃ q', q = q' + 1 := ⟨q - 1, by omega⟩
          exact ⟨_, rfl⟩
        have hfl : f'.length ≤ 999999 := by
          have := congrArg List.length hf
          rw [List.length_take, List.length_cons] at this
          omega
        have hPS : ∀ a, firstR (c0 :: f') (n : Nat) = some a → R = tailR a (s.drop q) := fun a h => by rw [HR.out, hqc]; exact placeR_some (by rw [← hqc, hf]; exact h)
        have hPN : firstR (c0 :: f') (n : Nat) = none → R = none := fun h => by rw [HR.out]; exact placeR_none (by rw [← hqc, hf]; exact h)
        rw [hf] at hex
        have HPS := hid hPS
        have HPN := hid hPN
        clear hq hqc hf hPS hPN HR HCUT HST HS0
        by_cases hend : c0 :: f' = tEnd
        · have HT := hid (HPS.out ((n : Int) - 1) (by rw [firstR.eq_def, if_pos hend]))
          rw [hend] at hex
          unfold tEnd at hex
          clear hend HPS HPN
          have hat : At s (s.drop q) q := ⟨by rw [List.length_drop]; omega, rfl⟩
          have HT2 := HT.out
          have HAT := hid hat
          have HNF := HN
          cases hrs : s.drop q with
          | nil =>
            rw [hrs] at HT2 hat
            have hqeq : ((q : Int) == (s.length : Int)) = true := by rw [beq_iff_eq]; have := hat.len; rw [List.length_nil] at this; omega
            have hRS : R = some ((n : Int) - 1) := HT2
            subst hRS
            clear HT2 hat hrs HT
            go_wp2
            go_ret2
            exact ⟨rfl, rfl⟩
          | cons c t =>
            rw [hrs] at HT2 hat
            have hlt2 := hat.lt
            have hx2 := hat.byte
            have htl := hat.tail.all
            have hqne : ((q : Int) == (s.length : Int)) = false := by rw [beq_eq_false_iff_ne]; omega
            have htb : t.length ≤ 1000000 := by have := hat.len; rw [List.length_cons] at this; omega
            have hNM := HNF.out t htb
            rw [tailR] at HT2
            clear hat hrs HT
            cases hne : numE t with
            | none =>
              rw [hne] at HT2 hNM
              have hRS : R = none := HT2
              subst hRS
              have HNN := hid hNM
              clear HT2 hNM hne
              go_wp2_with fail
              (with_reducible refine HNN.out.mono ?_); rintro e w1 ⟨hw, m, rfl, hm, hmb⟩; subst w1
              simp only [Option.isSome]
              go_wp2
              go_ret2
              exact ⟨rfl, rfl⟩
            | some k =>
              rw [hne] at HT2 hNM
              have hkb := numE_le hne
              have HNN := hid hNM
              by_cases h45 : c = 45
              · subst h45
                have hRS : R = some ((n : Int) - 1 - (k : Int)) := HT2
                subst hRS
                clear HT2 hNM hne
                go_wp2_with fail
                (with_reducible refine HNN.out.mono ?_); rintro e w1 ⟨hw, m, rfl, hm, hmb⟩; subst w1
                obtain rfl : m = k := hm k rfl
                simp only [Option.isSome]
                go_wp2
                go_ret2
                exact ⟨by simp only [plAns]; congr 3 <;> omega, rfl⟩
              · have n45 := byte_ne 45 h45 rfl
                have hRS : R = some ((n : Int) - 1 + (k : Int)) := by rw [HT2]; dsimp only; rw [if_neg h45]
                subst hRS
                clear HT2 hNM hne
                go_wp2_with fail
                (with_reducible refine HNN.out.mono ?_); rintro e w1 ⟨hw, m, rfl, hm, hmb⟩; subst w1
                obtain rfl : m = k := hm k rfl
                simp only [Option.isSome]
                go_wp2
                go_ret2
                exact ⟨rfl, rfl⟩
        · have hneb : (c0 :: f' == [101, 110, 100]) = false := by simpa [tEnd] using hend
          have hx0 := head_get c0 f'
          have hemp : (c0 :: f').isEmpty = false := rfl
          have hszf : (⟨(c0 :: f').toArray⟩ : ByteArray).size = f'.length + 1 := Lib.size_mk _
          by_cases h45 : c0 = 45
          · subst h45
            have htx := tail_ext 45 f'
            have hN1 := HN.out f' (by omega)
            cases hne1 : numE f' with
            | none =>
              have hRN := HPN.out (by rw [firstR.eq_def, if_neg hend]; dsimp only; rw [if_pos rfl, hne1])
              rw [hne1] at hN1
              subst hRN
              have HN1 := hid hN1
              clear hN1 hne1 hend HPS HPN
              go_wp2_with fail
              (with_reducible refine HN1.out.mono ?_); rintro e w1 ⟨hw, m, rfl, hm, hmb⟩; subst w1
              simp only [Option.isSome]
              go_wp2
              go_ret2
              exact ⟨rfl, rfl⟩
            | some f =>
              have HT := hid (HPS.out (-(f : Int)) (by rw [firstR.eq_def, if_neg hend]; dsimp only; rw [if_pos rfl, hne1]))
              rw [hne1] at hN1
              have hfb := numE_le hne1
              have HN1 := hid hN1
              clear hN1 hne1 hend HPS HPN
              have hmul : ((-1 : Int) * (f : Int)) = -(f : Int) := by omega
              go_wp2_with fail
              (with_reducible refine HN1.out.mono ?_); rintro e w1 ⟨hw, m, rfl, hm, hmb⟩; subst w1
              obtain rfl : m = f := hm f rfl
              simp only [Option.isSome]
              have hat : At s (s.drop q) q := ⟨by rw [List.length_drop]; omega, rfl⟩
              have HT2 := HT.out
              have HAT := hid hat
              have HNF := HN
              cases hrs : s.drop q with
              | nil =>
                rw [hrs] at HT2 hat
                have hqeq : ((q : Int) == (s.length : Int)) = true := by rw [beq_iff_eq]; have := hat.len; rw [List.length_nil] at this; omega
                have hRS : R = some (-(m : Int)) := HT2
                subst hRS
                clear HT2 hat hrs HT
                go_wp2
                go_ret2
                exact ⟨rfl, rfl⟩
              | cons c t =>
                rw [hrs] at HT2 hat
                have hlt2 := hat.lt
                have hx2 := hat.byte
                have htl := hat.tail.all
                have hqne : ((q : Int) == (s.length : Int)) = false := by rw [beq_eq_false_iff_ne]; omega
                have htb : t.length ≤ 1000000 := by have := hat.len; rw [List.length_cons] at this; omega
                have hNM := HNF.out t htb
                rw [tailR] at HT2
                clear hat hrs HT
                cases hne : numE t with
                | none =>
                  rw [hne] at HT2 hNM
                  have hRS : R = none := HT2
                  subst hRS
                  have HNN := hid hNM
                  clear HT2 hNM hne
                  go_wp2_with fail
                  (with_reducible refine HNN.out.mono ?_); rintro e w1 ⟨hw, m, rfl, hm, hmb⟩; subst w1
                  simp only [Option.isSome]
                  go_wp2
                  go_ret2
                  exact ⟨rfl, rfl⟩
                | some k =>
                  rw [hne] at HT2 hNM
                  have hkb := numE_le hne
                  have HNN := hid hNM
                  by_cases h45 : c = 45
                  · subst h45
                    have hRS : R = some (-(m : Int) - (k : Int)) := HT2
                    subst hRS
                    clear HT2 hNM hne
                    go_wp2_with fail
                    (with_reducible refine HNN.out.mono ?_); rintro e w1 ⟨hw, m, rfl, hm, hmb⟩; subst w1
                    obtain rfl : m = k := hm k rfl
                    simp only [Option.isSome]
                    go_wp2
                    go_ret2
                    exact ⟨by simp only [plAns]; congr 3 <;> omega, rfl⟩
                  · have n45 := byte_ne 45 h45 rfl
                    have hRS : R = some (-(m : Int) + (k : Int)) := by rw [HT2]; dsimp only; rw [if_neg h45]
                    subst hRS
                    clear HT2 hNM hne
                    go_wp2_with fail
                    (with_reducible refine HNN.out.mono ?_); rintro e w1 ⟨hw, m, rfl, hm, hmb⟩; subst w1
                    obtain rfl : m = k := hm k rfl
                    simp only [Option.isSome]
                    go_wp2
                    go_ret2
                    exact ⟨rfl, rfl⟩
          · have n45 := byte_ne 45 h45 rfl
            have hN1 := HN.out (c0 :: f') (by rw [List.length_cons]; omega)
            cases hne1 : numE (c0 :: f') with
            | none =>
              have hRN := HPN.out (by rw [firstR.eq_def, if_neg hend]; dsimp only; rw [if_neg h45, hne1])
              rw [hne1] at hN1
              subst hRN
              have HN1 := hid hN1
              clear hN1 hne1 hend HPS HPN
              go_wp2_with fail
              (with_reducible refine HN1.out.mono ?_); rintro e w1 ⟨hw, m, rfl, hm, hmb⟩; subst w1
              simp only [Option.isSome]
              go_wp2
              go_ret2
              exact ⟨rfl, rfl⟩
            | some f =>
              have HT := hid (HPS.out (f : Int) (by rw [firstR.eq_def, if_neg hend]; dsimp only; rw [if_neg h45, hne1]))
              rw [hne1] at hN1
              have hfb := numE_le hne1
              have HN1 := hid hN1
              clear hN1 hne1 hend HPS HPN
              go_wp2_with fail
              (with_reducible refine HN1.out.mono ?_); rintro e w1 ⟨hw, m, rfl, hm, hmb⟩; subst w1
              obtain rfl : m = f := hm f rfl
              simp only [Option.isSome]
              have hat : At s (s.drop q) q := ⟨by rw [List.length_drop]; omega, rfl⟩
              have HT2 := HT.out
              have HAT := hid hat
              have HNF := HN
              cases hrs : s.drop q with
              | nil =>
                rw [hrs] at HT2 hat
                have hqeq : ((q : Int) == (s.length : Int)) = true := by rw [beq_iff_eq]; have := hat.len; rw [List.length_nil] at this; omega
                have hRS : R = some ((m : Int)) := HT2
                subst hRS
                clear HT2 hat hrs HT
                go_wp2
                go_ret2
                exact ⟨rfl, rfl⟩
              | cons c t =>
                rw [hrs] at HT2 hat
                have hlt2 := hat.lt
                have hx2 := hat.byte
                have htl := hat.tail.all
                have hqne : ((q : Int) == (s.length : Int)) = false := by rw [beq_eq_false_iff_ne]; omega
                have htb : t.length ≤ 1000000 := by have := hat.len; rw [List.length_cons] at this; omega
                have hNM := HNF.out t htb
                rw [tailR] at HT2
                clear hat hrs HT
                cases hne : numE t with
                | none =>
                  rw [hne] at HT2 hNM
                  have hRS : R = none := HT2
                  subst hRS
                  have HNN := hid hNM
                  clear HT2 hNM hne
                  go_wp2_with fail
                  (with_reducible refine HNN.out.mono ?_); rintro e w1 ⟨hw, m, rfl, hm, hmb⟩; subst w1
                  simp only [Option.isSome]
                  go_wp2
                  go_ret2
                  exact ⟨rfl, rfl⟩
                | some k =>
                  rw [hne] at HT2 hNM
                  have hkb := numE_le hne
                  have HNN := hid hNM
                  by_cases h45 : c = 45
                  · subst h45
                    have hRS : R = some ((m : Int) - (k : Int)) := HT2
                    subst hRS
                    clear HT2 hNM hne
                    go_wp2_with fail
                    (with_reducible refine HNN.out.mono ?_); rintro e w1 ⟨hw, m, rfl, hm, hmb⟩; subst w1
                    obtain rfl : m = k := hm k rfl
                    simp only [Option.isSome]
                    go_wp2
                    go_ret2
                    exact ⟨by simp only [plAns]; congr 3 <;> omega, rfl⟩
                  · have n45 := byte_ne 45 h45 rfl
                    have hRS : R = some ((m : Int) + (k : Int)) := by rw [HT2]; dsimp only; rw [if_neg h45]
                    subst hRS
                    clear HT2 hNM hne
                    go_wp2_with fail
                    (with_reducible refine HNN.out.mono ?_); rintro e w1 ⟨hw, m, rfl, hm, hmb⟩; subst w1
                    obtain rfl : m = k := hm k rfl
                    simp only [Option.isSome]
                    go_wp2
                    go_ret2
                    exact ⟨rfl, rfl⟩
      · have hst := HST.out i hi
        have hai : At s (s.drop i) i := ⟨by rw [List.length_drop]; omega, rfl⟩
        rw [List.drop_eq_getElem_cons hi] at hai
        have hx := hai.byte
        have hgt : (i : Int) > 0 := by omega
        generalize s[i] = c at hst hx
        clear hai
        by_cases h43 : c = 43
        · subst h43
          rw [show sgn 43 = true from rfl, if_pos rfl] at hst
          have HQ := hid (show i = (i - 1 + 1) + nsN (s.drop (i - 1 + 1)) by rw [Nat.sub_add_cancel hpos, hst]; rfl)
          clear hst hq
          go_wp2
          go_roundg (i - 1)
          case measure => omega
          case rel => exact ⟨i - 1, i, rfl, by go_num, by omega, HQ.out, by omega, rfl, rfl⟩
        · have n43 := byte_ne 43 h43 rfl
          by_cases h45 : c = 45
          · subst h45
            rw [show sgn 45 = true from rfl, if_pos rfl] at hst
            have HQ := hid (show i = (i - 1 + 1) + nsN (s.drop (i - 1 + 1)) by rw [Nat.sub_add_cancel hpos, hst]; rfl)
            clear hst hq
            go_wp2
            go_roundg (i - 1)
            case measure => omega
            case rel => exact ⟨i - 1, i, rfl, by go_num, by omega, HQ.out, by omega, rfl, rfl⟩
          · have n45 := byte_ne 45 h45 rfl
            have hsg : sgn c = false := by rw [sgn, Bool.or_eq_false_iff]; exact ⟨by simpa using h43, by simpa using h45⟩
            rw [hsg, if_neg (by simp)] at hst
            have HQ := hid (show q = (i - 1 + 1) + nsN (s.drop (i - 1 + 1)) by rw [Nat.sub_add_cancel hpos, hst, hq]; omega)
            clear hst hq
            go_wp2
            go_roundg (i - 1)
            case measure => omega
            case rel => exact ⟨i - 1, q, rfl, by go_num, by omega, HQ.out, hqs, rfl, rfl⟩
end Go.Proofs.YtheiageokcgbhaaGreatDoor.Pz
/-
  Index of the reference.
-/
namespace Go.Proofs.YtheiageokcgbhaaGreatDoor.Pz
open Go.RowKit
set_option maxRecDepth 100000 in
set_option maxHeartbeats 4000000 in
theorem indexR_fn (s : Str) (path : List Str) (v : Value) (w : World) (hv : StrsAt w v path) (hs : s.length ≤ 1000000) (hp : ∀ x ∈ path, x.length ≤ 1000000) (hpl : path.length ≤ 1000000) :
    Calls Tryz.prog 38 #[.string ⟨s.toArray⟩, v] w fun e w' => e = .returned (.tuple #[.string ⟨(indexE s path).1.toArray⟩, .int .i64 (indexE s path).2]) ∧ Below w.heap.size w w' := by
  obtain ⟨a, cap, rfl, hcap, hcell⟩ := hv
  obtain ⟨n, hn⟩ : ∃ n, n = path.length := ⟨_, rfl⟩
  have HN := hid hn
  have HV := hid hcell
  have HPL := hid (fun i (h : i < path.length) => hp path[i] (List.getElem_mem h))
  have HDR := hid (fun i (h : i < path.length) => (show path.drop i = path[i] :: path.drop (i + 1) from List.drop_eq_getElem_cons h))
  obtain ⟨R, hR⟩ : ∃ R, R = indexE s path := ⟨_, rfl⟩
  rw [← hR]
  have HR := hid hR
  rw [← hn] at hcap hpl ⊢
  have HSP := hid (fun s (h : s.length ≤ 1000000) => splitR_fn s h)
  clear hR hcell hn hp
  obtain ⟨r1, r2⟩ := R
  dsimp only
  go_enter Tryz.func38, Tryz.ntmps38
  go_wp2_with fail
  go_loopg [0, 14] n (fun k sv iv wr => ∃ (i : Nat) (t : Str), sv = .string ⟨t.toArray⟩ ∧ iv = .int .i64 (i : Nat) ∧ i ≤ n ∧ (r1, r2) = indexE t (path.drop i) ∧ t.length ≤ 1000000 ∧ Below w.heap.size w wr ∧ k = n - i)
  case atStart => exact ⟨0, s, rfl, rfl, Nat.zero_le _, by rw [List.drop_zero]; exact HR.out, hs, Below.refl _ _, by simp⟩
  case round =>
    obtain ⟨i, t, rfl, rfl, hi, hR, htl, hbl, rfl⟩ := hrel
    have hsw := hbl.size
    rcases Nat.lt_or_ge i n with hlt | hge
    · have hlt' : i < path.length := by rw [← HN.out]; exact hlt
      obtain ⟨p, rfl, hbb, hcw⟩ := HV.out i hlt'
      have hcw1 : wr.cell? (p.add i) = some (.string ⟨path[i].toArray⟩) := by rw [hbl.cell (p := p.add i) (by rw [add_block]; exact hbb)]; exact hcw
      have hz0 : i = 0 → wr.cell? p = some (.string ⟨path[i].toArray⟩) := by
        intro h0
        subst h0
        exact hcw1
      rw [HDR.out i hlt', indexE] at hR
      have hxl := HPL.out i hlt'
      generalize path[i] = x at hcw1 hz0 hR hxl
      have HS := HSP.out t htl wr
      have hall := split_all2 t htl
      have hlen := (splitE_out t).2.1
      generalize splitE t = E at HS hR hall hlen
      obtain ⟨l, at0, er⟩ := E
      dsimp only at HS hR hall hlen
      have HS2 := hid HS
      obtain ⟨m, hm⟩ : ∃ m, m = l.length := ⟨_, rfl⟩
      have HM := hid hm
      rw [← hm] at hR hlen
      have HPC := hid (fun u => placeRef_fn x m hxl (by omega) u)
      clear HS hcw hm
      by_cases her : er = 0
      case neg =>
        rw [if_pos her] at hR
        have HR2 := hid hR
        have heb : (er != 0) = true := by simpa using her
        clear hR her hall
        by_cases h0 : i = 0
        · subst h0
          replace hcw1 := hz0 rfl
          clear hz0
          go_wp2_with fail
          (with_reducible refine HS2.out.mono ?_); rintro e w1 ⟨hb1, v1, rfl, hr1⟩
          obtain ⟨a1, c1, rfl⟩ := hr1.shape
          rw [← HM.out] at hr1 ⊢
          have HB1 := hid (hbl.trans (hb1.mono hsw))

          clear hb1 hr1
          go_wp2
          go_ret2
          exact ⟨by obtain ⟨e1, e2⟩ := Prod.mk.inj HR2.out; rw [e1, e2] <;> rfl, HB1.out⟩
        · clear hz0
          go_wp2_with fail
          (with_reducible refine HS2.out.mono ?_); rintro e w1 ⟨hb1, v1, rfl, hr1⟩
          obtain ⟨a1, c1, rfl⟩ := hr1.shape
          rw [← HM.out] at hr1 ⊢
          have HB1 := hid (hbl.trans (hb1.mono hsw))

          clear hb1 hr1
          go_wp2
          go_ret2
          exact ⟨by obtain ⟨e1, e2⟩ := Prod.mk.inj HR2.out; rw [e1, e2] <;> rfl, HB1.out⟩
      case pos =>
        subst her
        rw [if_neg (by simp)] at hR
        cases hpe : placeE x (m : Nat) with
        | none =>
          rw [hpe] at hR HPC
          have HR2 := hid hR
          clear hR hpe hall
          by_cases h0 : i = 0
          · subst h0
            replace hcw1 := hz0 rfl
            clear hz0
            go_wp2_with fail
            (with_reducible refine HS2.out.mono ?_); rintro e w1 ⟨hb1, v1, rfl, hr1⟩
            obtain ⟨a1, c1, rfl⟩ := hr1.shape
            rw [← HM.out] at hr1 ⊢
            have HB1 := hid (hbl.trans (hb1.mono hsw))

            clear hb1 hr1
            have h1 := HPC.out w1
            simp only [plAns] at h1
            go_wp2_with fail
            (with_reducible refine h1.mono ?_); rintro e w2 ⟨rfl, hw⟩; subst w2
            go_wp2
            go_ret2
            exact ⟨by obtain ⟨e1, e2⟩ := Prod.mk.inj HR2.out; rw [e1, e2] <;> rfl, HB1.out⟩
          · clear hz0
            go_wp2_with fail
            (with_reducible refine HS2.out.mono ?_); rintro e w1 ⟨hb1, v1, rfl, hr1⟩
            obtain ⟨a1, c1, rfl⟩ := hr1.shape
            rw [← HM.out] at hr1 ⊢
            have HB1 := hid (hbl.trans (hb1.mono hsw))

            clear hb1 hr1
            have h1 := HPC.out w1
            simp only [plAns] at h1
            go_wp2_with fail
            (with_reducible refine h1.mono ?_); rintro e w2 ⟨rfl, hw⟩; subst w2
            go_wp2
            go_ret2
            exact ⟨by obtain ⟨e1, e2⟩ := Prod.mk.inj HR2.out; rw [e1, e2] <;> rfl, HB1.out⟩
        | some z =>
          rw [hpe] at hR HPC
          dsimp only at hR
          clear hpe
          by_cases hin : 0 ≤ z ∧ z < (m : Int)
          · rw [if_pos hin] at hR
            obtain ⟨zn, rfl⟩ : ∃ zn : Nat, z = (zn : Nat) := ⟨z.toNat, by omega⟩
            rw [Int.toNat_natCast] at hR
            have hzm : zn < m := by omega
            have hzi : (zn : Int) < (m : Int) := by omega
            have hzg : (zn : Int) ≥ 0 := by omega
            have HR2 := hid hR
            have HAL := hid hall
            clear hR hin hall
            by_cases h0 : i = 0
            · subst h0
              replace hcw1 := hz0 rfl
              clear hz0
              go_wp2_with fail
              (with_reducible refine HS2.out.mono ?_); rintro e w1 ⟨hb1, v1, rfl, hr1⟩
              obtain ⟨a1, c1, rfl⟩ := hr1.shape
              rw [← HM.out] at hr1 ⊢
              have HB1 := hid (hbl.trans (hb1.mono hsw))

              obtain ⟨g1, rfl, he1, hc1⟩ := hr1.at (i := zn) (by rw [← HM.out]; exact hzm)
              have hgd : l.getD zn [] = l[zn]'(by rw [← HM.out]; exact hzm) := by rw [List.getD_eq_getElem?_getD, List.getElem?_eq_getElem (by rw [← HM.out]; exact hzm)]; rfl
              have hyl := HAL.out (l[zn]'(by rw [← HM.out]; exact hzm)) (List.getElem_mem _)
              have HR3 := HR2.out
              rw [hgd] at HR3
              generalize l[zn]'(by rw [← HM.out]; exact hzm) = y at hc1 hyl HR3
              have HR4 := hid HR3
              clear hb1 hr1 hgd HR3 he1
              have h1 := HPC.out w1
              simp only [plAns] at h1
              go_wp2_with fail
              (with_reducible refine h1.mono ?_); rintro e w2 ⟨rfl, hw⟩; subst w2
              go_wp2
              go_roundg (n - (0 + 1))
              case measure => omega
              case rel => exact ⟨0 + 1, y, rfl, by go_num, by omega, HR4.out, hyl, HB1.out, rfl⟩
            · clear hz0
              go_wp2_with fail
              (with_reducible refine HS2.out.mono ?_); rintro e w1 ⟨hb1, v1, rfl, hr1⟩
              obtain ⟨a1, c1, rfl⟩ := hr1.shape
              rw [← HM.out] at hr1 ⊢
              have HB1 := hid (hbl.trans (hb1.mono hsw))

              obtain ⟨g1, rfl, he1, hc1⟩ := hr1.at (i := zn) (by rw [← HM.out]; exact hzm)
              have hgd : l.getD zn [] = l[zn]'(by rw [← HM.out]; exact hzm) := by rw [List.getD_eq_getElem?_getD, List.getElem?_eq_getElem (by rw [← HM.out]; exact hzm)]; rfl
              have hyl := HAL.out (l[zn]'(by rw [← HM.out]; exact hzm)) (List.getElem_mem _)
              have HR3 := HR2.out
              rw [hgd] at HR3
              generalize l[zn]'(by rw [← HM.out]; exact hzm) = y at hc1 hyl HR3
              have HR4 := hid HR3
              clear hb1 hr1 hgd HR3 he1
              have h1 := HPC.out w1
              simp only [plAns] at h1
              go_wp2_with fail
              (with_reducible refine h1.mono ?_); rintro e w2 ⟨rfl, hw⟩; subst w2
              go_wp2
              go_roundg (n - (i + 1))
              case measure => omega
              case rel => exact ⟨i + 1, y, rfl, by go_num, by omega, HR4.out, hyl, HB1.out, rfl⟩
          · rw [if_neg hin] at hR
            have HR2 := hid hR
            clear hR hall
            by_cases hz1 : z ≥ 0
            · have hz2 : ¬ (z < (m : Int)) := by omega
              clear hin
              by_cases h0 : i = 0
              · subst h0
                replace hcw1 := hz0 rfl
                clear hz0
                go_wp2_with fail
                (with_reducible refine HS2.out.mono ?_); rintro e w1 ⟨hb1, v1, rfl, hr1⟩
                obtain ⟨a1, c1, rfl⟩ := hr1.shape
                rw [← HM.out] at hr1 ⊢
                have HB1 := hid (hbl.trans (hb1.mono hsw))

                clear hb1 hr1
                have h1 := HPC.out w1
                simp only [plAns] at h1
                go_wp2_with fail
                (with_reducible refine h1.mono ?_); rintro e w2 ⟨rfl, hw⟩; subst w2
                go_wp2
                go_roundg (n - (0 + 1))
                case measure => omega
                case rel => exact ⟨0 + 1, [], rfl, by go_num, by omega, HR2.out, Nat.zero_le _, HB1.out, rfl⟩
              · clear hz0
                go_wp2_with fail
                (with_reducible refine HS2.out.mono ?_); rintro e w1 ⟨hb1, v1, rfl, hr1⟩
                obtain ⟨a1, c1, rfl⟩ := hr1.shape
                rw [← HM.out] at hr1 ⊢
                have HB1 := hid (hbl.trans (hb1.mono hsw))

                clear hb1 hr1
                have h1 := HPC.out w1
                simp only [plAns] at h1
                go_wp2_with fail
                (with_reducible refine h1.mono ?_); rintro e w2 ⟨rfl, hw⟩; subst w2
                go_wp2
                go_roundg (n - (i + 1))
                case measure => omega
                case rel => exact ⟨i + 1, [], rfl, by go_num, by omega, HR2.out, Nat.zero_le _, HB1.out, rfl⟩
            · clear hin
              by_cases h0 : i = 0
              · subst h0
                replace hcw1 := hz0 rfl
                clear hz0
                go_wp2_with fail
                (with_reducible refine HS2.out.mono ?_); rintro e w1 ⟨hb1, v1, rfl, hr1⟩
                obtain ⟨a1, c1, rfl⟩ := hr1.shape
                rw [← HM.out] at hr1 ⊢
                have HB1 := hid (hbl.trans (hb1.mono hsw))

                clear hb1 hr1
                have h1 := HPC.out w1
                simp only [plAns] at h1
                go_wp2_with fail
                (with_reducible refine h1.mono ?_); rintro e w2 ⟨rfl, hw⟩; subst w2
                go_wp2
                go_roundg (n - (0 + 1))
                case measure => omega
                case rel => exact ⟨0 + 1, [], rfl, by go_num, by omega, HR2.out, Nat.zero_le _, HB1.out, rfl⟩
              · clear hz0
                go_wp2_with fail
                (with_reducible refine HS2.out.mono ?_); rintro e w1 ⟨hb1, v1, rfl, hr1⟩
                obtain ⟨a1, c1, rfl⟩ := hr1.shape
                rw [← HM.out] at hr1 ⊢
                have HB1 := hid (hbl.trans (hb1.mono hsw))

                clear hb1 hr1
                have h1 := HPC.out w1
                simp only [plAns] at h1
                go_wp2_with fail
                (with_reducible refine h1.mono ?_); rintro e w2 ⟨rfl, hw⟩; subst w2
                go_wp2
                go_roundg (n - (i + 1))
                case measure => omega
                case rel => exact ⟨i + 1, [], rfl, by go_num, by omega, HR2.out, Nat.zero_le _, HB1.out, rfl⟩
    · obtain rfl : i = n := by omega
      rw [List.drop_eq_nil_of_le (by rw [← HN.out]; exact Nat.le_refl _), indexE] at hR
      have HR2 := hid hR
      clear hR HR
      obtain ⟨e1, e2⟩ := Prod.mk.inj HR2.out
      subst e1 e2
      go_wp2
      go_ret2
      exact ⟨rfl, hbl⟩
end Go.Proofs.YtheiageokcgbhaaGreatDoor.Pz
/-
  The reference's put walked.
-/
namespace Go.Proofs.YtheiageokcgbhaaGreatDoor.Pz
open Go.RowKit
def putIn (l : List Str) (p : Str) (rec : Str → Str × Int) : Str × Int :=
  match placeE p (l.length : Nat) with
  | none => ([], 2)
  | some z =>
    if z < 0 ∨ z > (l.length : Nat) then (if (rec []).2 = 2 then ([], 2) else ([], 7))
    else if (rec ((if z = (l.length : Nat) then l ++ [[]] else l).getD z.toNat [])).2 ≠ 0 then ([], (rec ((if z = (l.length : Nat) then l ++ [[]] else l).getD z.toNat [])).2)
    else joinRes ((if z = (l.length : Nat) then l ++ [[]] else l).set z.toNat (rec ((if z = (l.length : Nat) then l ++ [[]] else l).getD z.toNat [])).1)
def putE : List Str → Str → Str → Str × Int
  | [], _, val => (val, 0)
  | p :: ps, s, val => if (splitE s).2.2 ≠ 0 then ([], (splitE s).2.2) else putIn (splitE s).1 p (fun x => putE ps x val)
theorem joinRes_len (l : List Str) : (joinRes l).1.length ≤ 65536 := by
  unfold joinRes
  split
  · rename_i h
    exact h.2
  · simp
theorem if_len {c : Prop} [Decidable c] {e : Int} {l : List Str} : (if c then (([], e) : Str × Int) else joinRes l).1.length ≤ 65536 := by
  split
  · simp
  · exact joinRes_len _
theorem putE_len (path : List Str) (s val : Str) (hv : val.length ≤ 65536) : (putE path s val).1.length ≤ 65536 := by
  cases path with
  | nil => exact hv
  | cons p ps =>
    rw [putE]
    split
    · simp
    · unfold putIn
      split
      · simp
      · split
        · split <;> simp
        · exact if_len
set_option maxRecDepth 100000 in
set_option maxHeartbeats 4000000 in
theorem put1_fn (p : Str) (ps : List Str) (np cp qb qo : Nat) (val : Str) (rec : Str → Str × Int) (s : Str) (w : World)
    (hs : s.length ≤ 1000000) (hp : p.length ≤ 1000000) (hnc : np + 1 ≤ cp) (_ : val.length ≤ 65536)
    (hpv : StrsAt w (.slice (some ⟨qb, qo, none⟩) (np + 1) cp) (p :: ps)) (hyl0 : ∀ x, (rec x).1.length ≤ 65536)
    (hrec : ∀ u, Below w.heap.size w u → ∀ x : Str, x.length ≤ 1000000 → Calls Tryz.prog 81 #[.string ⟨x.toArray⟩, tailV qb qo np cp, .string ⟨val.toArray⟩] u fun e u' => e = .returned (.tuple #[.string ⟨(rec x).1.toArray⟩, .int .i64 (rec x).2]) ∧ Below u.heap.size u u')
    (A : Str × Int) (hA0 : A = if (splitE s).2.2 ≠ 0 then ([], (splitE s).2.2) else putIn (splitE s).1 p rec) :
    Calls Tryz.prog 81 #[.string ⟨s.toArray⟩, .slice (some ⟨qb, qo, none⟩) (np + 1) cp, .string ⟨val.toArray⟩] w fun e w' => e = .returned (.tuple #[.string ⟨A.1.toArray⟩, .int .i64 A.2]) ∧ Below w.heap.size w w' := by
  have hmx : Tryz.prog.follows .mixedOrders = true := by kernel_rfl
  have HS := splitR_fn s hs w
  have hall := split_all2 s hs
  have hlen := (splitE_out s).2.1
  have HPV := hid (fun u (h : Below w.heap.size w u) => hpv.below h)
  have HYL := hid (fun x => (show (rec x).1.length ≤ 1000000 by have := hyl0 x; omega))
  generalize splitE s = E at HS hall hlen hA0
  obtain ⟨l, at0, er⟩ := E
  dsimp only at HS hall hlen hA0
  have HS2 := hid HS
  have REC := hid hrec
  rw [tailV] at REC
  obtain ⟨A1, A2⟩ := A
  dsimp only
  have hcq : ∀ u, Below w.heap.size w u → u.cell? ⟨qb, qo, none⟩ = some (.string ⟨p.toArray⟩) := by
    intro u hu
    obtain ⟨a, c, e, _, hcell⟩ := HPV.out u hu
    obtain ⟨q, hq, _, hc⟩ := hcell 0 (by simp)
    simp only [Value.slice.injEq] at e
    rw [← e.1] at hq
    have hq := Option.some.inj hq
    subst hq
    rw [add_none] at hc
    exact hc
  have HCQ := hid hcq
  clear HS hrec hpv hcq hyl0
  by_cases her : er = 0
  case neg =>
    rw [if_pos her] at hA0
    have HA := hid hA0
    have heb : (er != 0) = true := by simpa using her
    clear hA0 her hall
    go_enter Tryz.func81, Tryz.ntmps81
    go_wp2_with fail
    (with_reducible refine HS2.out.mono ?_); rintro e w1 ⟨hb1, v1, rfl, hr1⟩
    have HB1 := hid hb1
    clear hb1 hr1
    go_wp2
    go_ret2
    exact ⟨by obtain ⟨e1, e2⟩ := Prod.mk.inj HA.out; rw [e1, e2] <;> rfl, HB1.out⟩
  subst her
  rw [if_neg (by simp), putIn] at hA0
  obtain ⟨n, hn⟩ : ∃ n, n = l.length := ⟨_, rfl⟩
  have HN := hid hn
  rw [← hn] at hA0 hlen
  have HPL := hid (fun u => placeRef_fn p n hp (by omega) u)
  have HXL := hid hall
  clear hn hall
  cases hpe : placeE p (n : Nat) with
  | none =>
    rw [hpe] at hA0 HPL
    have HA := hid hA0
    clear hA0 hpe
    go_enter Tryz.func81, Tryz.ntmps81
    go_wp2_with fail
    (with_reducible refine HS2.out.mono ?_); rintro e w1 ⟨hb1, v1, rfl, hr1⟩
    obtain ⟨a1, c1, rfl⟩ := hr1.shape
    rw [← HN.out]
    have hq := HCQ.out w1 hb1
    have HB1 := hid hb1
    have h1 := HPL.out w1
    simp only [plAns] at h1
    clear hb1 hr1
    go_wp2_with fail
    (with_reducible refine h1.mono ?_); rintro e w2 ⟨rfl, hw⟩; subst w2
    go_wp2
    go_ret2
    exact ⟨by obtain ⟨e1, e2⟩ := Prod.mk.inj HA.out; rw [e1, e2] <;> rfl, HB1.out⟩
  | some z =>
    rw [hpe] at hA0 HPL
    dsimp only at hA0
    have hzb := placeE_le hpe (by omega)
    clear hpe
    by_cases hout : z < 0 ∨ z > (n : Int)
    · rw [if_pos hout] at hA0
      have hor : (decide (z < 0) || decide (z > (n : Int))) = true := by simpa using hout
      have HA := hid hA0
      have HRC := hid (fun u (h : Below w.heap.size w u) => REC.out u h [] (by simp))
      generalize rec [] = ry at HRC HA
      obtain ⟨y1, y2⟩ := ry
      dsimp only at HRC HA
      clear hA0 REC
      by_cases hz0 : z < 0
      · clear hor hout
        go_enter Tryz.func81, Tryz.ntmps81
        go_wp2_with fail
        (with_reducible refine HS2.out.mono ?_); rintro e w1 ⟨hb1, v1, rfl, hr1⟩
        obtain ⟨a1, c1, rfl⟩ := hr1.shape
        rw [← HN.out]
        have hq := HCQ.out w1 hb1
        have HB1 := hid hb1
        have h1 := HPL.out w1
        simp only [plAns] at h1
        have hrc := HRC.out w1 hb1
        have HRC1 := hid hrc
        clear hb1 hr1 hrc
        by_cases hcp : cp = 1
        · subst hcp
          obtain rfl : np = 0 := by omega
          rw [if_pos rfl] at HRC1
          go_wp2_with fail
          (with_reducible refine h1.mono ?_); rintro e w2 ⟨rfl, hw⟩; subst w2
          go_wp2_with fail
          (with_reducible refine HRC1.out.mono ?_); rintro e w3 ⟨rfl, hb3⟩
          have HB3 := hid (HB1.out.trans (hb3.mono HB1.out.size))
          clear hb3
          by_cases hy : y2 = 2
          · subst hy
            have HA2 := HA.out
            rw [if_pos rfl] at HA2
            obtain ⟨e1, e2⟩ := Prod.mk.inj HA2
            subst e1 e2
            go_wp2
            go_ret2
            exact ⟨rfl, HB3.out⟩
          · have HA2 := HA.out
            rw [if_neg hy] at HA2
            have hyb : (y2 == 2) = false := by simpa using hy
            obtain ⟨e1, e2⟩ := Prod.mk.inj HA2
            subst e1 e2
            go_wp2
            go_ret2
            exact ⟨rfl, HB3.out⟩
        · rw [if_neg hcp] at HRC1
          go_wp2_with fail
          (with_reducible refine h1.mono ?_); rintro e w2 ⟨rfl, hw⟩; subst w2
          go_wp2_with fail
          (with_reducible refine HRC1.out.mono ?_); rintro e w3 ⟨rfl, hb3⟩
          have HB3 := hid (HB1.out.trans (hb3.mono HB1.out.size))
          clear hb3
          by_cases hy : y2 = 2
          · subst hy
            have HA2 := HA.out
            rw [if_pos rfl] at HA2
            obtain ⟨e1, e2⟩ := Prod.mk.inj HA2
            subst e1 e2
            go_wp2
            go_ret2
            exact ⟨rfl, HB3.out⟩
          · have HA2 := HA.out
            rw [if_neg hy] at HA2
            have hyb : (y2 == 2) = false := by simpa using hy
            obtain ⟨e1, e2⟩ := Prod.mk.inj HA2
            subst e1 e2
            go_wp2
            go_ret2
            exact ⟨rfl, HB3.out⟩
      · have hz1 : z > (n : Int) := hout.resolve_left hz0
        clear hor hout
        go_enter Tryz.func81, Tryz.ntmps81
        go_wp2_with fail
        (with_reducible refine HS2.out.mono ?_); rintro e w1 ⟨hb1, v1, rfl, hr1⟩
        obtain ⟨a1, c1, rfl⟩ := hr1.shape
        rw [← HN.out]
        have hq := HCQ.out w1 hb1
        have HB1 := hid hb1
        have h1 := HPL.out w1
        simp only [plAns] at h1
        have hrc := HRC.out w1 hb1
        have HRC1 := hid hrc
        clear hb1 hr1 hrc
        by_cases hcp : cp = 1
        · subst hcp
          obtain rfl : np = 0 := by omega
          rw [if_pos rfl] at HRC1
          go_wp2_with fail
          (with_reducible refine h1.mono ?_); rintro e w2 ⟨rfl, hw⟩; subst w2
          go_wp2_with fail
          (with_reducible refine HRC1.out.mono ?_); rintro e w3 ⟨rfl, hb3⟩
          have HB3 := hid (HB1.out.trans (hb3.mono HB1.out.size))
          clear hb3
          by_cases hy : y2 = 2
          · subst hy
            have HA2 := HA.out
            rw [if_pos rfl] at HA2
            obtain ⟨e1, e2⟩ := Prod.mk.inj HA2
            subst e1 e2
            go_wp2
            go_ret2
            exact ⟨rfl, HB3.out⟩
          · have HA2 := HA.out
            rw [if_neg hy] at HA2
            have hyb : (y2 == 2) = false := by simpa using hy
            obtain ⟨e1, e2⟩ := Prod.mk.inj HA2
            subst e1 e2
            go_wp2
            go_ret2
            exact ⟨rfl, HB3.out⟩
        · rw [if_neg hcp] at HRC1
          go_wp2_with fail
          (with_reducible refine h1.mono ?_); rintro e w2 ⟨rfl, hw⟩; subst w2
          go_wp2_with fail
          (with_reducible refine HRC1.out.mono ?_); rintro e w3 ⟨rfl, hb3⟩
          have HB3 := hid (HB1.out.trans (hb3.mono HB1.out.size))
          clear hb3
          by_cases hy : y2 = 2
          · subst hy
            have HA2 := HA.out
            rw [if_pos rfl] at HA2
            obtain ⟨e1, e2⟩ := Prod.mk.inj HA2
            subst e1 e2
            go_wp2
            go_ret2
            exact ⟨rfl, HB3.out⟩
          · have HA2 := HA.out
            rw [if_neg hy] at HA2
            have hyb : (y2 == 2) = false := by simpa using hy
            obtain ⟨e1, e2⟩ := Prod.mk.inj HA2
            subst e1 e2
            go_wp2
            go_ret2
            exact ⟨rfl, HB3.out⟩
    · rw [if_neg hout] at hA0
      have hz0 : ¬ z < 0 := fun h => hout (.inl h)
      have hz1 : ¬ z > (n : Int) := fun h => hout (.inr h)
      clear hout
      obtain ⟨zn, rfl⟩ : ∃ zn : Nat, z = (zn : Nat) := ⟨z.toNat, by omega⟩
      rw [Int.toNat_natCast] at hA0
      by_cases hze : zn = n
      · subst hze
        rw [if_pos rfl] at hA0
        have hll : l.length ≤ 10000000 := by rw [← HN.out]; omega
        obtain ⟨r, hrr⟩ : ∃ r, r = l ++ [[]] := ⟨_, rfl⟩
        rw [← hrr] at hA0
        have hans := hA0
        have HRR := hid hrr
        have HRM0 := hid (show zn + 1 = r.length by rw [hrr, List.length_append, ← HN.out]; rfl)
        have HXLR := hid (show ∀ x ∈ r, x.length ≤ 1000000 by
          intro x hx
          rw [hrr] at hx
          rcases List.mem_append.1 hx with h | h
          · exact HXL.out x h
          · rw [List.mem_singleton.1 h]; exact Nat.zero_le _)
        clear hA0 hrr
        go_enter Tryz.func81, Tryz.ntmps81
        go_wp2_with fail
        (with_reducible refine HS2.out.mono ?_); rintro e w1 ⟨hb1, v1, rfl, hr1⟩
        obtain ⟨a1, c1, rfl⟩ := hr1.shape
        have HR1 := hid hr1
        rw [← HN.out] at HR1 ⊢
        have hq := HCQ.out w1 hb1
        have HB1 := hid hb1
        have hsz1 := hb1.size
        have h1 := HPL.out w1
        simp only [plAns] at h1
        clear hb1 hr1
        go_wp2_with fail
        (with_reducible refine h1.mono ?_); rintro e w1' ⟨rfl, hw⟩; subst w1'
        go_wp2_with (at_builtin; go_loud (refine app_one (w := w1) rfl rfl (.tmp 62) (.tmp 63) rfl w.heap.size _ l [] rfl HR1.out rfl hsz1 hll ?_))
        intro v2 w2 hr2 hg2 hv2
        rw [← HRR.out] at hr2
        have HBU := hid (HB1.out.grown hg2 hsz1 fun k hk => (HR1.out.lt k hk).2)
        have hvs : ∃ g c, v2 = .slice (some ⟨g, 0, none⟩) (zn + 1) c := by
          obtain ⟨a', c', rfl⟩ := hr2.shape
          rw [← HRM0.out] at hr2 ⊢
          obtain ⟨g, rfl, _, _⟩ := hr2.at (i := 0) (by rw [← HRM0.out]; omega)
          exact ⟨g, c', rfl⟩
        obtain ⟨g, c, rfl⟩ := hvs
        have HRU := hid hr2
        obtain ⟨m, hm⟩ : ∃ m, m = zn + 1 := ⟨_, rfl⟩
        rw [← hm] at HRU ⊢
        have HRM := hid (show m = r.length by rw [hm]; exact HRM0.out)
        have hzm : zn < m := by omega
        have hm1 : m ≤ 10001 := by omega
        clear hr2 hg2 hv2 hm
        have hsU := HBU.out.size
        obtain ⟨x, hx⟩ : ∃ x, x = r.getD zn [] := ⟨_, rfl⟩
        have hzr : zn < r.length := by rw [← HRM.out]; exact hzm
        have hcx : w2.cell? ⟨g, zn, none⟩ = some (.string ⟨x.toArray⟩) := by rw [hx]; exact HRU.out.getD hzr
        have hxl := HXLR.out x (by rw [hx, List.getD_eq_getElem?_getD, List.getElem?_eq_getElem hzr]; exact List.getElem_mem _)
        rw [← hx] at hans
        have S0 : Hid ((fun u : World => u.cell? ⟨g, zn, none⟩ = some (.string ⟨x.toArray⟩)) w2.drew) := hid hcx
        have HCX := hid hcx
        have hgl := (HRU.out.lt g rfl)
        have HGL := hid hgl
        have HRC := hid (REC.out w2.drew HBU.out.drew x hxl)
        have hyl := HYL.out x
        generalize rec x = ry at HRC hans hyl
        obtain ⟨y1, y2⟩ := ry
        dsimp only at HRC hans hyl
        clear hx hzr hcx hgl
        go_wp2
        refine U_begin (late := fun _ => false) (S := fun u : World => u.cell? ⟨g, zn, none⟩ = some (.string ⟨x.toArray⟩)) hmx ?_
        refine U_take3 8 (i := 0) (v := .slice (some ⟨g, 0, none⟩) m c) rfl (by kernel_rfl) (by kernel_rfl) (by kernel_rfl) (by kernel_rfl) (by kernel_rfl) (fun _ _ _ h => h) (.inl ⟨rfl, fun u hu => (by go_simp)⟩) S0.out ?_
        refine U_take3 8 (i := 1) (v := .int .i64 (zn : Nat)) rfl (by kernel_rfl) (by kernel_rfl) (by kernel_rfl) (by kernel_rfl) (by kernel_rfl) (fun _ _ _ h => h) (.inl ⟨rfl, fun u hu => (by go_simp)⟩) S0.out ?_
        refine U_take3 8 (i := 2) (v := .pointer (some ⟨g, zn, none⟩)) rfl (by kernel_rfl) (by kernel_rfl) (by kernel_rfl) (by kernel_rfl) (by kernel_rfl) (fun _ _ _ h => h) (.inl ⟨rfl, fun u hu => (by go_simp)⟩) S0.out ?_
        refine U_take3 8 (i := 3) (v := .string ⟨x.toArray⟩) rfl (by kernel_rfl) (by kernel_rfl) (by kernel_rfl) (by kernel_rfl) (by kernel_rfl) (fun _ _ _ h => h) (.inl ⟨rfl, fun u hu => (by have h1 := hu; go_simp)⟩) S0.out ?_
        refine U_take3 8 (i := 4) (v := .slice (some ⟨qb, qo, none⟩) (np + 1) cp) rfl (by kernel_rfl) (by kernel_rfl) (by kernel_rfl) (by kernel_rfl) (by kernel_rfl) (fun _ _ _ h => h) (.inl ⟨rfl, fun u hu => (by go_simp)⟩) S0.out ?_
        refine U_take3 8 (i := 5) (v := .slice (if cp = 1 then some ⟨qb, qo, none⟩ else some ⟨qb, qo + 1, none⟩) np (cp - 1)) rfl (by kernel_rfl) (by kernel_rfl) (by kernel_rfl) (by kernel_rfl) (by kernel_rfl) (fun _ _ _ h => h) (.inl ⟨rfl, fun u hu => (by go_simp; intro h9; omega)⟩) S0.out ?_
        refine U_take3 8 (i := 6) (v := .string ⟨val.toArray⟩) rfl (by kernel_rfl) (by kernel_rfl) (by kernel_rfl) (by kernel_rfl) (by kernel_rfl) (fun _ _ _ h => h) (.inl ⟨rfl, fun u hu => (by go_simp)⟩) S0.out ?_
        refine U_step (j := 7) (by kernel_rfl) rfl (fun K hK => ?_)
        go_simp
        (with_reducible refine HRC.out.mono ?_); rintro e w3 ⟨rfl, hb3⟩
        have hb4 : Below w2.heap.size w2 w3 := (Below.refl _ _).drew.trans hb3
        have HR3 := hid (HRU.out.on hb4)
        have HB3 := hid (HBU.out.trans (hb4.mono hsU))
        have S3 : Hid ((fun u : World => u.cell? ⟨g, zn, none⟩ = some (.string ⟨x.toArray⟩)) w3) := hid ((hb4.cell (p := ⟨g, zn, none⟩) HGL.out.1).trans HCX.out)
        refine hK.out _ _ (.inr S3.out) ?_
        clear hK K hb3 hb4
        refine U_step (j := 8) (by kernel_rfl) rfl (fun K hK => ?_)
        go_simp
        refine hK.out _ _ (.inr S3.out) ?_
        clear hK K
        refine U_take3 8 (i := 9) (v := .string ⟨y1.toArray⟩) rfl (by kernel_rfl) (by kernel_rfl) (by kernel_rfl) (by kernel_rfl) (by kernel_rfl) (fun _ _ _ h => h) (.inl ⟨rfl, fun u hu => (by go_simp)⟩) S3.out ?_
        refine U_take3 8 (i := 10) (v := .int .i64 y2) rfl (by kernel_rfl) (by kernel_rfl) (by kernel_rfl) (by kernel_rfl) (by kernel_rfl) (fun _ _ _ h => h) (.inl ⟨rfl, fun u hu => (by go_simp)⟩) S3.out ?_
        refine U_step (j := 11) (by kernel_rfl) rfl (fun K hK => ?_)
        go_simp
        refine hK.out _ _ (.inr S3.out) ?_
        clear hK K
        refine U_step (j := 12) (by kernel_rfl) rfl (fun K hK => ?_)
        go_simp
        refine hK.out _ _ (.inr S3.out) ?_
        clear hK K
        refine U_done (by kernel_rfl) ?_ _
        by_cases hy2 : y2 = 0
        · subst hy2
          rw [if_neg (by simp)] at hans
          have hfz : w3.frozen? ⟨g, zn, none⟩ = false := HR3.out.frozen zn
          have hcp3 : w3.cell? ⟨g, zn, none⟩ = some (.string ⟨x.toArray⟩) := S3.out
          have HWR := hid (HR3.out.stored zn y1)
          have HBF := hid (HB3.out.trans (HWR.out.2.low HB3.out.size (by have := HGL.out.2; simpa using this)))
          have hlr : (r.set zn y1).length ≤ 1000001 := by rw [List.length_set, ← HRM.out]; omega
          have HJ := hid (joinRA_fn (r.set zn y1) _ _ HWR.out.1.strs (fun z hz => by
            rcases List.mem_or_eq_of_mem_set hz with h | rfl
            · exact HXLR.out z h
            · exact hyl) (by omega))
          rw [← hans] at HJ
          clear S0 S3 hans hlr
          go_wp2_with fail
          all_goals (with_reducible refine HJ.out.mono ?_); rintro e w5 ⟨rfl, hb5⟩
          all_goals have HB5 := hid (HBF.out.trans (hb5.mono HBF.out.size))
          all_goals clear hb5
          all_goals go_wp2
          all_goals go_ret2
          all_goals exact ⟨rfl, HB5.out⟩
        · rw [if_pos hy2] at hans
          have hyb : (y2 != 0) = true := by simpa using hy2
          have HANS := hid hans
          clear S0 S3 hans
          go_wp2
          all_goals go_ret2
          all_goals exact ⟨by obtain ⟨e1, e2⟩ := Prod.mk.inj HANS.out; rw [e1, e2] <;> rfl, HB3.out⟩
      · rw [if_neg (show ¬ ((zn : Int) = (n : Int)) by omega)] at hA0
        have hzm : zn < n := by omega
        have hans := hA0
        have HXLR := HXL
        have hne : ((zn : Int) == (n : Int)) = false := by rw [beq_eq_false_iff_ne]; omega
        clear hA0
        go_enter Tryz.func81, Tryz.ntmps81
        go_wp2_with fail
        (with_reducible refine HS2.out.mono ?_); rintro e w1 ⟨hb1, v1, rfl, hr1⟩
        have hvs : ∃ g c, v1 = .slice (some ⟨g, 0, none⟩) n c := by
          obtain ⟨a', c', rfl⟩ := hr1.shape
          rw [← HN.out] at hr1 ⊢
          obtain ⟨g, rfl, _, _⟩ := hr1.at (i := 0) (by rw [← HN.out]; omega)
          exact ⟨g, c', rfl⟩
        obtain ⟨g, c, rfl⟩ := hvs
        have HRU := hid hr1
        have hq := HCQ.out w1 hb1
        have HBU := hid hb1
        have h1 := HPL.out w1
        simp only [plAns] at h1
        clear hb1 hr1
        go_wp2_with fail
        (with_reducible refine h1.mono ?_); rintro e w1' ⟨rfl, hw⟩; subst w1'
        obtain ⟨r, hrr⟩ : ∃ r, r = l := ⟨_, rfl⟩
        subst hrr
        obtain ⟨m, hm⟩ : ∃ m, m = n := ⟨_, rfl⟩
        subst hm
        have HRM := HN
        have hsU := HBU.out.size
        obtain ⟨x, hx⟩ : ∃ x, x = r.getD zn [] := ⟨_, rfl⟩
        have hzr : zn < r.length := by rw [← HRM.out]; exact hzm
        have hcx : w1.cell? ⟨g, zn, none⟩ = some (.string ⟨x.toArray⟩) := by rw [hx]; exact HRU.out.getD hzr
        have hxl := HXLR.out x (by rw [hx, List.getD_eq_getElem?_getD, List.getElem?_eq_getElem hzr]; exact List.getElem_mem _)
        rw [← hx] at hans
        have S0 : Hid ((fun u : World => u.cell? ⟨g, zn, none⟩ = some (.string ⟨x.toArray⟩)) w1.drew) := hid hcx
        have HCX := hid hcx
        have hgl := (HRU.out.lt g rfl)
        have HGL := hid hgl
        have HRC := hid (REC.out w1.drew HBU.out.drew x hxl)
        have hyl := HYL.out x
        generalize rec x = ry at HRC hans hyl
        obtain ⟨y1, y2⟩ := ry
        dsimp only at HRC hans hyl
        clear hx hzr hcx hgl
        go_wp2
        refine U_begin (late := fun _ => false) (S := fun u : World => u.cell? ⟨g, zn, none⟩ = some (.string ⟨x.toArray⟩)) hmx ?_
        refine U_take3 8 (i := 0) (v := .slice (some ⟨g, 0, none⟩) m c) rfl (by kernel_rfl) (by kernel_rfl) (by kernel_rfl) (by kernel_rfl) (by kernel_rfl) (fun _ _ _ h => h) (.inl ⟨rfl, fun u hu => (by go_simp)⟩) S0.out ?_
        refine U_take3 8 (i := 1) (v := .int .i64 (zn : Nat)) rfl (by kernel_rfl) (by kernel_rfl) (by kernel_rfl) (by kernel_rfl) (by kernel_rfl) (fun _ _ _ h => h) (.inl ⟨rfl, fun u hu => (by go_simp)⟩) S0.out ?_
        refine U_take3 8 (i := 2) (v := .pointer (some ⟨g, zn, none⟩)) rfl (by kernel_rfl) (by kernel_rfl) (by kernel_rfl) (by kernel_rfl) (by kernel_rfl) (fun _ _ _ h => h) (.inl ⟨rfl, fun u hu => (by go_simp)⟩) S0.out ?_
        refine U_take3 8 (i := 3) (v := .string ⟨x.toArray⟩) rfl (by kernel_rfl) (by kernel_rfl) (by kernel_rfl) (by kernel_rfl) (by kernel_rfl) (fun _ _ _ h => h) (.inl ⟨rfl, fun u hu => (by have h1 := hu; go_simp)⟩) S0.out ?_
        refine U_take3 8 (i := 4) (v := .slice (some ⟨qb, qo, none⟩) (np + 1) cp) rfl (by kernel_rfl) (by kernel_rfl) (by kernel_rfl) (by kernel_rfl) (by kernel_rfl) (fun _ _ _ h => h) (.inl ⟨rfl, fun u hu => (by go_simp)⟩) S0.out ?_
        refine U_take3 8 (i := 5) (v := .slice (if cp = 1 then some ⟨qb, qo, none⟩ else some ⟨qb, qo + 1, none⟩) np (cp - 1)) rfl (by kernel_rfl) (by kernel_rfl) (by kernel_rfl) (by kernel_rfl) (by kernel_rfl) (fun _ _ _ h => h) (.inl ⟨rfl, fun u hu => (by go_simp; intro h9; omega)⟩) S0.out ?_
        refine U_take3 8 (i := 6) (v := .string ⟨val.toArray⟩) rfl (by kernel_rfl) (by kernel_rfl) (by kernel_rfl) (by kernel_rfl) (by kernel_rfl) (fun _ _ _ h => h) (.inl ⟨rfl, fun u hu => (by go_simp)⟩) S0.out ?_
        refine U_step (j := 7) (by kernel_rfl) rfl (fun K hK => ?_)
        go_simp
        (with_reducible refine HRC.out.mono ?_); rintro e w3 ⟨rfl, hb3⟩
        have hb4 : Below w1.heap.size w1 w3 := (Below.refl _ _).drew.trans hb3
        have HR3 := hid (HRU.out.on hb4)
        have HB3 := hid (HBU.out.trans (hb4.mono hsU))
        have S3 : Hid ((fun u : World => u.cell? ⟨g, zn, none⟩ = some (.string ⟨x.toArray⟩)) w3) := hid ((hb4.cell (p := ⟨g, zn, none⟩) HGL.out.1).trans HCX.out)
        refine hK.out _ _ (.inr S3.out) ?_
        clear hK K hb3 hb4
        refine U_step (j := 8) (by kernel_rfl) rfl (fun K hK => ?_)
        go_simp
        refine hK.out _ _ (.inr S3.out) ?_
        clear hK K
        refine U_take3 8 (i := 9) (v := .string ⟨y1.toArray⟩) rfl (by kernel_rfl) (by kernel_rfl) (by kernel_rfl) (by kernel_rfl) (by kernel_rfl) (fun _ _ _ h => h) (.inl ⟨rfl, fun u hu => (by go_simp)⟩) S3.out ?_
        refine U_take3 8 (i := 10) (v := .int .i64 y2) rfl (by kernel_rfl) (by kernel_rfl) (by kernel_rfl) (by kernel_rfl) (by kernel_rfl) (fun _ _ _ h => h) (.inl ⟨rfl, fun u hu => (by go_simp)⟩) S3.out ?_
        refine U_step (j := 11) (by kernel_rfl) rfl (fun K hK => ?_)
        go_simp
        refine hK.out _ _ (.inr S3.out) ?_
        clear hK K
        refine U_step (j := 12) (by kernel_rfl) rfl (fun K hK => ?_)
        go_simp
        refine hK.out _ _ (.inr S3.out) ?_
        clear hK K
        refine U_done (by kernel_rfl) ?_ _
        by_cases hy2 : y2 = 0
        · subst hy2
          rw [if_neg (by simp)] at hans
          have hfz : w3.frozen? ⟨g, zn, none⟩ = false := HR3.out.frozen zn
          have hcp3 : w3.cell? ⟨g, zn, none⟩ = some (.string ⟨x.toArray⟩) := S3.out
          have HWR := hid (HR3.out.stored zn y1)
          have HBF := hid (HB3.out.trans (HWR.out.2.low HB3.out.size (by have := HGL.out.2; simpa using this)))
          have hlr : (r.set zn y1).length ≤ 1000001 := by rw [List.length_set, ← HRM.out]; omega
          have HJ := hid (joinRA_fn (r.set zn y1) _ _ HWR.out.1.strs (fun z hz => by
            rcases List.mem_or_eq_of_mem_set hz with h | rfl
            · exact HXLR.out z h
            · exact hyl) (by omega))
          rw [← hans] at HJ
          clear S0 S3 hans hlr
          go_wp2_with fail
          all_goals (with_reducible refine HJ.out.mono ?_); rintro e w5 ⟨rfl, hb5⟩
          all_goals have HB5 := hid (HBF.out.trans (hb5.mono HBF.out.size))
          all_goals clear hb5
          all_goals go_wp2
          all_goals go_ret2
          all_goals exact ⟨rfl, HB5.out⟩
        · rw [if_pos hy2] at hans
          have hyb : (y2 != 0) = true := by simpa using hy2
          have HANS := hid hans
          clear S0 S3 hans
          go_wp2
          all_goals go_ret2
          all_goals exact ⟨by obtain ⟨e1, e2⟩ := Prod.mk.inj HANS.out; rw [e1, e2] <;> rfl, HB3.out⟩
end Go.Proofs.YtheiageokcgbhaaGreatDoor.Pz
/-
  The reference's Set: the same as the program's.
-/
namespace Go.Proofs.YtheiageokcgbhaaGreatDoor.Pz
open Go.RowKit
theorem tailE_none (a b : Int) (r : Str) (h : tailE a r = none) : tailE b r = none := by
  cases r with
  | nil => rw [tailE] at h; cases h
  | cons c t =>
    rw [tail_sign] at h ⊢
    cases hs : sgn c with
    | false => rfl
    | true =>
      rw [hs, if_pos rfl] at h
      rw [if_pos rfl]
      cases hn : numE t with
      | none => rfl
      | some k => rw [hn] at h; cases h
theorem placeE_none (p : Str) (n m : Int) (h : placeE p n = none) : placeE p m = none := by
  unfold placeE at h ⊢
  split at h
  · rename_i hp
    rw [if_pos hp]
    exact tailE_none _ _ _ h
  · rename_i hp
    rw [if_neg hp]
    exact h
theorem splitE_err (s : Str) (hs : s.length ≤ 10000) : (splitE s).2.2 = 0 ∨ (splitE s).2.2 = 2 := by
  unfold splitE
  cases h : listE s with
  | inl b => exact .inr rfl
  | inr xs =>
    have := (listE_out _ s (Nat.le_refl _) xs h).1
    dsimp only
    rw [if_pos (by omega)]
    exact .inl rfl
theorem joinRes_err (l : List Str) : (joinRes l).2 = 0 ∨ (joinRes l).2 = 4 := by
  unfold joinRes
  split
  · exact .inl rfl
  · exact .inr rfl
theorem splitE_nil : splitE [] = ([], 0, 0) := by kernel_rfl
def badP (ps : List Str) : Bool := ps.any fun x => (placeE x 0).isNone
theorem getD_short {l : List Str} {b : Nat} (h : ∀ x ∈ l, x.length ≤ b) (i : Nat) : (l.getD i []).length ≤ b := by
  rw [List.getD_eq_getElem?_getD]
  cases hi : l[i]? with
  | none => exact Nat.zero_le _
  | some x => exact h x (List.mem_of_getElem? hi)
theorem ext_short {l : List Str} {b : Nat} (h : ∀ x ∈ l, x.length ≤ b) (c : Prop) [Decidable c] : ∀ x ∈ (if c then l ++ [[]] else l), x.length ≤ b := by
  intro x hx
  split at hx
  · rcases List.mem_append.1 hx with h1 | h1
    · exact h x h1
    · rw [List.mem_singleton.1 h1]; exact Nat.zero_le _
  · exact h x hx
theorem if2 {y : Str × Int} (h : y = ([], 2)) : (if y.2 = 2 then (([], 2) : Str × Int) else ([], 7)) = ([], 2) := by subst h; rfl
theorem ife {y : Str × Int} {f : Str → List Str} (h : y = ([], 2)) : (if y.2 ≠ 0 then (([], y.2) : Str × Int) else joinRes (f y.1)) = ([], 2) := by subst h; rfl
theorem if7 {y : Str × Int} (h : y.2 ≠ 2) : (if y.2 = 2 then (([], 2) : Str × Int) else ([], 7)).2 ≠ 2 := by
  rw [if_neg h]
  exact (by decide : (7 : Int) ≠ 2)
theorem ifg {y : Str × Int} {f : Str → List Str} (h : y.2 ≠ 2) : (if y.2 ≠ 0 then (([], y.2) : Str × Int) else joinRes (f y.1)).2 ≠ 2 := by
  split
  · exact h
  · rcases joinRes_err (f y.1) with h9 | h9 <;> rw [h9] <;> decide
/-- a place that is none makes a syntax error -/
theorem putE_bad (val : Str) : ∀ (ps : List Str), badP ps = true → ∀ s : Str, s.length ≤ 10000 → putE ps s val = ([], 2)
  | [], h, _, _ => by cases h
  | p :: ps, h, s, hs => by
    rw [putE]
    rcases splitE_err s hs with he | he
    · rw [if_neg (by rw [he]; simp)]
      have hall : ∀ x ∈ (splitE s).1, x.length ≤ 10000 := fun x hx => by have h1 := sumL_mem _ x hx; have h2 := (splitE_out s).2.2; omega
      unfold putIn
      cases hp : placeE p ((splitE s).1.length : Nat) with
      | none => rfl
      | some z =>
        have hps : badP ps = true := by
          rw [badP, List.any_cons, Bool.or_eq_true] at h
          rcases h with h | h
          · have h0 : placeE p 0 = none := by simpa using h
            rw [placeE_none p 0 _ h0] at hp
            cases hp
          · exact h
        dsimp only
        split
        · exact if2 (putE_bad val ps hps [] (by simp))
        · exact ife (f := fun t => (if z = ((splitE s).1.length : Nat) then (splitE s).1 ++ [[]] else (splitE s).1).set z.toNat t) (putE_bad val ps hps _ (getD_short (ext_short hall _) _))
    · rw [if_pos (by rw [he]; simp), he]
theorem putE_good (val : Str) : ∀ (ps : List Str), badP ps = false → (putE ps [] val).2 ≠ 2
  | [], _ => by rw [putE]; exact (by decide : (0 : Int) ≠ 2)
  | p :: ps, h => by
    rw [badP, List.any_cons, Bool.or_eq_false_iff] at h
    have ih := putE_good val ps h.2
    rw [putE, splitE_nil, if_neg (by simp)]
    unfold putIn
    cases hp : placeE p (([] : List Str).length : Nat) with
    | none =>
      have h0 := placeE_none p _ 0 hp
      rw [h0] at h
      cases h.1
    | some z =>
      dsimp only
      by_cases hout : z < 0 ∨ z > (([] : List Str).length : Nat)
      · rw [if_pos hout]
        exact if7 ih
      · rw [if_neg hout]
        have hx : ((if z = (([] : List Str).length : Nat) then [] ++ [[]] else []).getD z.toNat [] : Str) = [] := by
          split
          · rename_i hz
            rw [show z.toNat = 0 by simp at hz; omega]
            rfl
          · rfl
        exact ifg (f := fun t => (if z = (([] : List Str).length : Nat) then [] ++ [[]] else []).set z.toNat t) (by rw [hx]; exact ih)
theorem putE_set (val : Str) : ∀ (ps : List Str) (s : Str), s.length ≤ 10000 → putE ps s val = setE ps s val
  | [], _, _ => rfl
  | p :: ps, s, hs => by
    rw [setE]
    cases hb : badP (p :: ps) with
    | true =>
      have hb1 : ((p :: ps).any (fun x => (placeE x 0).isNone)) = true := hb
      rw [if_pos hb1]
      exact putE_bad val _ hb s hs
    | false =>
      have hb' : ¬ ((p :: ps).any (fun x => (placeE x 0).isNone) = true) := by
        show ¬ (badP (p :: ps) = true)
        rw [hb]; simp
      rw [if_neg hb', putE]
      by_cases he : (splitE s).2.2 ≠ 0
      · unfold chE
        rw [if_pos he, if_pos he]
      · rw [if_neg he]
        have hall : ∀ x ∈ (splitE s).1, x.length ≤ 10000 := fun x hx => by have h1 := sumL_mem _ x hx; have h2 := (splitE_out s).2.2; omega
        rw [badP, List.any_cons, Bool.or_eq_false_iff] at hb
        unfold putIn
        cases hp : placeE p ((splitE s).1.length : Nat) with
        | none =>
          have h0 := placeE_none p _ 0 hp
          rw [h0] at hb
          cases hb.1
        | some z =>
          dsimp only
          by_cases hout : z < 0 ∨ z > ((splitE s).1.length : Nat)
          · have hset : setIn (splitE s).1 p (fun x => setE ps x val) = ([], 7) := by
              unfold setIn
              rw [hp]
              exact if_pos hout
            rw [hset, if_pos hout]
            unfold chE
            rw [if_neg he]
            exact (if_neg (putE_good val ps hb.2)).trans rfl
          · have e := putE_set val ps _ (getD_short (ext_short hall (z = ((splitE s).1.length : Nat))) z.toNat)
            have hset : setIn (splitE s).1 p (fun x => setE ps x val) = ((if z = ((splitE s).1.length : Nat) then (splitE s).1 ++ [[]] else (splitE s).1).set z.toNat (setE ps ((if z = ((splitE s).1.length : Nat) then (splitE s).1 ++ [[]] else (splitE s).1).getD z.toNat []) val).1, (setE ps ((if z = ((splitE s).1.length : Nat) then (splitE s).1 ++ [[]] else (splitE s).1).getD z.toNat []) val).2) := by
              unfold setIn
              rw [hp]
              exact if_neg hout
            rw [hset, if_neg hout]
            unfold chE
            rw [if_neg he]
            simp only [e]
theorem putP_fn : ∀ (path : List Str) (s val : Str) (v : Value) (w : World), StrsAt w v path → s.length ≤ 1000000 → (∀ x ∈ path, x.length ≤ 1000000) → path.length ≤ 1000000 → val.length ≤ 65536 →
    Calls Tryz.prog 81 #[.string ⟨s.toArray⟩, v, .string ⟨val.toArray⟩] w fun e w' => e = .returned (.tuple #[.string ⟨(putE path s val).1.toArray⟩, .int .i64 (putE path s val).2]) ∧ Below w.heap.size w w' := by
  intro path
  induction path with
  | nil =>
    intro s val v w hv hs hp hl hval
    obtain ⟨a, cap, rfl, _, _⟩ := hv
    show Calls Tryz.prog 81 #[.string ⟨s.toArray⟩, .slice a 0 cap, .string ⟨val.toArray⟩] w fun e w' => e = .returned (.tuple #[.string ⟨val.toArray⟩, .int .i64 0]) ∧ Below w.heap.size w w'
    go_enter Tryz.func81, Tryz.ntmps81
    go_wp2
    go_ret2
    exact ⟨rfl, Below.refl _ _⟩
  | cons p ps ih =>
    intro s val v w hv hs hp hl hval
    have hv0 := hv
    obtain ⟨a, cap, rfl, hcap, hcell⟩ := hv
    obtain ⟨q, rfl, hqb, hqc⟩ := hcell 0 (by simp)
    have hspot := World.cell?_spot hqc
    obtain ⟨qb, qo, spot⟩ := q
    obtain rfl : spot = none := by simpa [Addr.add] using hspot
    rw [List.length_cons] at hcap
    exact put1_fn p ps ps.length cap qb qo val (fun x => putE ps x val) s w hs (hp p (by simp)) hcap hval hv0 (fun x => putE_len ps x val hval)
      (fun u hu x hx => ih x val _ u (strs_tail (hv0.below hu)) hx (fun y hy => hp y (by simp [hy])) (by rw [List.length_cons] at hl; omega) hval) (putE (p :: ps) s val) rfl
set_option maxRecDepth 100000 in
theorem setR_fn (path : List Str) (s val : Str) (v : Value) (w : World) (hv : StrsAt w v path) (hs : s.length ≤ 10000) (hp : ∀ x ∈ path, x.length ≤ 1000000) (hl : path.length ≤ 1000000) (hval : val.length ≤ 65536) :
    Calls Tryz.prog 40 #[.string ⟨s.toArray⟩, v, .string ⟨val.toArray⟩] w fun e w' => e = .returned (.tuple #[.string ⟨(setE path s val).1.toArray⟩, .int .i64 (setE path s val).2]) ∧ Below w.heap.size w w' := by
  have HP := hid (putP_fn path s val v w hv (by omega) hp hl hval)
  rw [putE_set val path s hs] at HP
  obtain ⟨a, cap, rfl, _, _⟩ := hv
  generalize setE path s val = R at HP ⊢
  obtain ⟨r1, r2⟩ := R
  dsimp only at HP ⊢
  generalize path.length = n at HP ⊢
  clear hp
  go_enter Tryz.func40, Tryz.ntmps40
  go_wp2_with fail
  (with_reducible refine HP.out.mono ?_); rintro e w1 ⟨rfl, hb⟩
  have HB := hid hb
  clear hb
  go_wp2
  go_ret2
  exact ⟨rfl, HB.out⟩
end Go.Proofs.YtheiageokcgbhaaGreatDoor.Pz
