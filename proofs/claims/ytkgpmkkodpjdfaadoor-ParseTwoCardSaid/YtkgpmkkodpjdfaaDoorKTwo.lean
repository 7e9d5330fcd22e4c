/-
  ParseTwoCard: the law's card and what it alone needs, merged from 2 texts. Conditions: the row's own.
-/
import Derived.Maps.AppendAt
import Derived.Laws.AppendOwnNone
import Derived.Test.YtkgpmkkodpjdfaaDoorCards
import Derived.Test.YtkgpmkkodpjdfaaDoorTie
import Derived.Deep.DeepHandedRow
import Derived.ProofKit
import Derived.OpenShut
import Derived.Lay
import Derived.MakeChecks
import Derived.ChangeMaps5
import Derived.Test.YtkgpmkkodpjdfaaDoorK0
import Derived.Test.YtkgpmkkodpjdfaaDoorK1
import Derived.Test.YtkgpmkkodpjdfaaDoorK2
import Derived.Test.YtkgpmkkodpjdfaaDoorK3
import Derived.Test.YtkgpmkkodpjdfaaDoorK4
import Derived.Test.YtkgpmkkodpjdfaaDoorK5
/-
  P6.3: the walk.
-/
namespace Go.Proofs.YtkgpmkkodpjdfaaDoor.Pz
open Go.RowKit
/-- 'append(nil, row...)' -/
theorem wpList_append_row {P : Program} {w : World} {ops : Array Oper} {rest : List Oper} {o : Oper} {a : Act} {Q : Exit → Act → World → Prop} (hgd : o.guard = none) (s x : Operand) (t : TypeId)
    (ho : o.op = .call { callee := .builtin .append, args := #[s, x], argTypes := #[t, t] })
    (e : TypeId) (i : TypeInfo) (z : Value) (size bytes : Nat) (ht : P.underlying t = some (.slice e)) (hi : P.info? e = some i) (hz : i.zero = some z)
    (hsize : i.size = size) (hby : i.bytes = bytes) (hzs : z.cells.size = size) (hsz : 0 < size)
    (hs : a.eval s = .slice none 0 0) (xv : Value) (m : Nat) (news : List Value) (hx : a.eval x = xv) (hrow : w.ownsRow 0 e size xv m news) (h1 : ∀ u ∈ news, u.oneCell' = true)
    (h63 : m ≤ maxLen) (hbytes : m * bytes ≤ 140737488355328)
    (h : ∀ v' w', w'.ownsRow 0 e size v' m news → w.grownBy w' none → (∀ g, v'.ownBlock = some g → w.heap.size ≤ g) → wpList P ops Q rest (a.put o.dst v') w') :
    wpList P ops Q (o :: rest) a w := by
  rcases hrow.2 with ⟨rfl, rfl⟩ | ⟨g, cap, cur, rfl, hb, hg, rest'⟩
  · have hn : news = [] := List.eq_nil_of_length_eq_zero (by simpa using hrow.1)
    subst hn
    exact wpList_append_own_none hgd s x t ho 0 e i size ht hi (.slice none 0 0) 0 [] hs (World.ownsRow_nil _ _ _ _) hx (h _ _ (World.ownsRow_nil _ _ _ _) ⟨rfl, rfl, rfl, Nat.le_refl _, fun _ _ _ => rfl⟩ (fun g hg => by simp [Value.ownBlock] at hg))
  · refine wpList_append_own_at w hgd s x t ho 0 e i z size bytes ht hi hz hsize hby hzs hsz (.slice none 0 0) 0 [] hs (World.ownsRow_nil _ _ _ _) ⟨g, 0, none⟩ m cap news hx hrow.1 (fun j u hj => hrow.cells rfl j u hj) h1 (by omega) (by simpa using hbytes) (Nat.zero_le _) ?_
    intro v' w' hown hgrow _ hat
    refine h v' w' (by simpa using hown) hgrow fun g' hg' => ?_
    rcases hat with h2 | h2
    · rw [h2] at hg'; simp [Value.ownBlock] at hg'
    · rw [h2] at hg'; have := Option.some.inj hg'; omega
theorem placed_len : ∀ (cs : List Cmd) (l : Str), Placed l cs → cs.length ≤ l.length
  | [], _, _ => Nat.zero_le _
  | c :: cs, l, h => by
    obtain ⟨ch, t, h1, _, _, _, _, _, h2⟩ := h
    have := placed_len cs t h2
    have := h1.length_le
    simp at *
    omega
theorem cmds_len {w : Bool} {d : Nat} {l : Str} {cs : List Cmd} {r : Str} (h : commands w d l = .ok cs r) : cs.length ≤ l.length := placed_len cs l (placed_of l.length w d l (Nat.le_refl _) cs r h)
/-- a row of commands, read from further away -/
theorem CmdsIs.far {n k : Nat} {w : World} {ok : Nat → Prop} {v : Value} {cs : List Cmd} (h : CmdsIs 38 44 30 n w ok v cs) : CmdsIs 38 44 30 (n + k) w ok v (cs.map (Cmd.far k)) := by
  obtain ⟨css, h1, h2, h3, h4⟩ := h
  refine ⟨css, by simpa using h1, h2, by simpa using h3, fun i a b => ?_⟩
  obtain ⟨⟨u, hu, hw⟩, hl⟩ := h4 i a (by simpa using b)
  refine ⟨⟨u, ?_, by simpa [Cmd.far] using hw⟩, hl⟩
  rw [hu]
  simp [Cmd.far]
  omega
theorem CmdsIs.one {n : Nat} {w : World} {ok : Nat → Prop} {css : List (List Value)} {cs : List Cmd} (hl : css.length = cs.length) (h : ∀ i (h1 : i < css.length) (h2 : i < cs.length), CmdIs 38 44 n w ok css[i] cs[i] ∧ css[i].length = 2) :
    ∀ u ∈ css.flatten, u.oneCell' = true := by
  intro u hu
  obtain ⟨l, hl1, hl2⟩ := List.mem_flatten.1 hu
  obtain ⟨i, hi, rfl⟩ := List.getElem_of_mem hl1
  obtain ⟨⟨v, hv, hw⟩, _⟩ := h i hi (by omega)
  rw [hv] at hl2
  obtain ⟨a, cap, rfl, _⟩ := RowIs.cell hw
  simp at hl2
  rcases hl2 with rfl | rfl <;> rfl
theorem placed_back : ∀ (cs : List Cmd) (l : Str), Placed l cs → ∀ c ∈ cs, c.back ≤ l.length
  | [], _, _, _, hc => by cases hc
  | c :: cs, l, h, x, hx => by
    obtain ⟨ch, t, h1, h3, _, _, _, _, h2⟩ := h
    have h4 := h1.length_le
    rcases List.mem_cons.1 hx with rfl | hx
    · rw [h3]; exact h4
    · have := placed_back cs t h2 x hx
      simp at h4
      omega
/-- one command more -/
theorem cmds_put {L N M : Nat} {W0 W3 : World} {v u : Value} {cs : List Cmd} {css : List (List Value)} {c : Cmd} {x : Int} {g cap' : Nat} (hNM : N ≤ M) (hM0 : M ≤ W0.heap.size)
    (hrow : W0.ownsRow 0 30 2 v cs.length css.flatten) (hvb : ∀ g, v.ownBlock = some g → M ≤ g) (hcl : css.length = cs.length) (hel : ∀ i (h1 : i < css.length) (h2 : i < cs.length), CmdIs 38 44 L W0 (New N) css[i] cs[i] ∧ css[i].length = 2)
    (hu : WdsIs 38 44 W0 (New N) u c.words) (hx : x = (L : Int) - (c.back : Int))
    (hrow3 : W3.ownsRow 0 30 2 (.slice (some ⟨g, 0, none⟩) (cs.length + 1) cap') (cs.length + 1) (css.flatten ++ [.int .i64 x, u])) (hg3 : W0.grownBy W3 v.ownBlock) (hgc : v.ownBlock = some g ∨ g = W0.heap.size) :
    CmdsIs 38 44 30 L W3 (New N) (.slice (some ⟨g, 0, none⟩) (cs.length + 1) cap') (cs ++ [c]) ∧ M ≤ g ∧ Below M W0 W3 := by
  have hne : ∀ (q : Nat) (cur : Array Value) (T : TypeId), W0.heap[q]? = some (.cells cur T (0, 0)) → T ≠ 30 → W3.heap[q]? = some (.cells cur T (0, 0)) := by
    intro q cur T hq hT
    rw [hg3.block q (Array.getElem?_eq_some_iff.1 hq).1 ?_]
    · exact hq
    · intro e
      obtain ⟨_, cur', hc⟩ := ownsRow_lt hrow q e.symm
      exact cells_ne hq hc hT rfl
  have hgM : M ≤ g := by
    rcases hgc with h | h
    · exact hvb g h
    · omega
  refine ⟨?_, hgM, hg3.os, hg3.tape, hg3.output, hg3.size, fun k hk => hg3.block k (by omega) (fun e => by have := hvb k e.symm; omega)⟩
  refine RowIs.snoc (css := css) (cs := [.int .i64 x, u]) hrow3 (fun q hq => ?_) hcl (fun j h1 h2 => ⟨(hel j h1 h2).1.keep2 (fun _ h _ => h) (fun q cur _ hc => hne _ _ _ hc (by decide)) (fun q cur _ hc => hne _ _ _ hc (by decide)), (hel j h1 h2).2⟩)
    ⟨u, by rw [hx], hu.keep2 (fun _ h _ => h) (fun q cur _ hc => hne _ _ _ hc (by decide)) (fun q cur _ hc => hne _ _ _ hc (by decide))⟩ rfl
  have e : g = q := Option.some.inj hq
  show N ≤ q
  omega
theorem ScriptQ.shape {s : Str} {w : World} {e : Ending} {w' : World} (h : ScriptQ s w e w') : ∃ a n cp at' er, e = .returned (.tuple #[.slice a n cp, .int .i64 at', .int .i64 er]) ∧ Below w.heap.size w w' ∧
    ((er = 0 ∧ ∃ cs r, commands false 0 s = .ok cs r ∧ n = cs.length ∧ CmdsIs 38 44 30 s.length w' (New w.heap.size) (.slice a n cp) cs) ∨ (er ≠ 0 ∧ ∃ hh, commands false 0 s = .halt hh)) := by
  obtain ⟨hb, h⟩ := h
  cases hR : commands false 0 s with
  | ok cs r =>
    rw [hR] at h
    obtain ⟨v, rfl, hcs⟩ := h
    obtain ⟨a, cap, rfl⟩ : ∃ a cap, v = .slice a cs.length cap := by
      obtain ⟨a, cap, hv, _⟩ := RowIs.cell hcs
      exact ⟨a, cap, hv⟩
    exact ⟨a, _, cap, 0, 0, rfl, hb, .inl ⟨rfl, cs, r, rfl, rfl, hcs⟩⟩
  | halt hh =>
    rw [hR] at h
    obtain ⟨a, e', o, _, h0, rfl⟩ := h
    exact ⟨none, 0, 0, a, e', rfl, hb, .inr ⟨h0, hh, rfl⟩⟩
set_option maxRecDepth 100000 in
set_option maxHeartbeats 4000000 in
theorem parseTwo_fn (a b : List UInt8) (w : World) (la : a.length ≤ 9223372036854775807) (lb : b.length ≤ 9223372036854775807) :
    Calls Tryd.prog 3 #[.string ⟨a.toArray⟩, .string ⟨b.toArray⟩] w fun e w' => e = .returned (.bool true) ∧ Below w.heap.size w w' := by
  have AW := fun w => hid (awake_fn w)
  have LA := fun w => hid (long_fn a w)
  have LB := fun w => hid (long_fn b w)
  by_cases hla : 800 < a.length
  · rw [decide_eq_true hla] at LA
    go_enter Tryd.func3, Tryd.ntmps3
    go_wp2_with fail
    (with_reducible refine (LA _).out.mono ?_); rintro e w1 ⟨rfl, hw⟩; subst w1
    go_wp2_with fail
    (with_reducible refine (AW _).out.mono ?_); rintro e w2 ⟨rfl, hb⟩
    go_wp2
    go_ret
    exact ⟨rfl, hb⟩
  rw [decide_eq_false hla] at LA
  by_cases hlb : 800 < b.length
  · rw [decide_eq_true hlb] at LB
    go_enter Tryd.func3, Tryd.ntmps3
    go_wp2_with fail
    (with_reducible refine (LA _).out.mono ?_); rintro e w1 ⟨rfl, hw⟩; subst w1
    go_wp2_with fail
    (with_reducible refine (LB _).out.mono ?_); rintro e w1 ⟨rfl, hw⟩; subst w1
    go_wp2_with fail
    (with_reducible refine (AW _).out.mono ?_); rintro e w2 ⟨rfl, hb⟩
    go_wp2
    go_ret
    exact ⟨rfl, hb⟩
  rw [decide_eq_false hlb] at LB
  have SA := fun w => hid (script_fn (s := a) (by omega) w)
  have SB := fun w => hid (script_fn (s := b) (by omega) w)
  have SC := fun w => hid (script_fn (s := a ++ 10 :: b) (by simp; omega) w)
  go_enter Tryd.func3, Tryd.ntmps3
  go_wp2_with fail
  (with_reducible refine (LA _).out.mono ?_); rintro e w1 ⟨rfl, hw⟩; subst w1
  go_wp2_with fail
  (with_reducible refine (LB _).out.mono ?_); rintro e w1 ⟨rfl, hw⟩; subst w1
  go_wp2_with fail
  (with_reducible refine (SA _).out.mono ?_); intro e w1 h1
  obtain ⟨a1, n1, p1, t1, r1, rfl, hb1, hc1⟩ := h1.shape
  have HB1 := hid hb1
  have HC1 := hid hc1
  clear h1 hb1 hc1
  go_wp2_with fail
  (with_reducible refine (SB _).out.mono ?_); intro e w2 h2
  obtain ⟨a2, n2, p2, t2, r2, rfl, hb2, hc2⟩ := h2.shape
  have HB2 := hid hb2
  have HC2 := hid hc2
  clear h2 hb2 hc2
  go_wp2_with fail
  have hcat : (⟨a.toArray⟩ ++ ⟨#[10]⟩ ++ ⟨b.toArray⟩ : ByteArray) = ⟨(a ++ 10 :: b).toArray⟩ := by
    apply ByteArray.ext
    apply Array.ext'
    simp [ByteArray.data_append]
  rw [hcat]
  clear hcat
  (with_reducible refine (SC _).out.mono ?_); intro e w3 h3
  obtain ⟨a3, n3, p3, t3, r3, rfl, hb3, hc3⟩ := h3.shape
  have HB3 := hid hb3
  have hbw : Below w.heap.size w w3 := HB1.out.trans ((HB2.out.mono HB1.out.size).trans (hb3.mono (by have := HB1.out.size; have := HB2.out.size; omega)))
  have HBW := hid hbw
  have HC3 := hid hc3
  clear h3 hb3 hc3 hbw
  rcases HC1.out with ⟨rfl, ca, ra, hca, rfl, hra⟩ | ⟨hr, _⟩
  case inr =>
    have hr1 : (r1 != 0) = true := by simpa using hr
    go_wp2_with fail
    (with_reducible refine (AW _).out.mono ?_); rintro e w4 ⟨rfl, hb⟩
    have HB := hid hb
    clear hb
    go_wp2
    go_ret
    exact ⟨rfl, HBW.out.trans (HB.out.mono HBW.out.size)⟩
  rcases HC2.out with ⟨rfl, cb, rb, hcb, rfl, hrb⟩ | ⟨hr, _⟩
  case inr =>
    have hr1 : (r2 != 0) = true := by simpa using hr
    clear hra hca
    go_wp2_with fail
    (with_reducible refine (AW _).out.mono ?_); rintro e w4 ⟨rfl, hb⟩
    have HB := hid hb
    clear hb
    go_wp2
    go_ret
    exact ⟨rfl, HBW.out.trans (HB.out.mono HBW.out.size)⟩
  have OP := fun w => hid (open_fn6 a (by omega) w)
  cases hop : open6 a with
  | true =>
    rw [hop] at OP
    clear hra hca hrb hcb
    go_wp2_with fail
    (with_reducible refine (OP _).out.mono ?_); rintro e w4 ⟨rfl, hw⟩; subst w4
    go_wp2_with fail
    (with_reducible refine (AW _).out.mono ?_); rintro e w4 ⟨rfl, hb⟩
    have HB := hid hb
    clear hb
    go_wp2
    go_ret
    exact ⟨rfl, HBW.out.trans (HB.out.mono HBW.out.size)⟩
  | false =>
    rw [hop] at OP
    have htwo := two (e := b) (shut_of_open hop) hca hcb
    rcases HC3.out with ⟨rfl, cc, rc, hcc, rfl, hrc⟩ | ⟨_, hh, hx⟩
    case inr => rw [htwo] at hx; cases hx
    rw [htwo] at hcc
    obtain ⟨rfl, rfl⟩ := Res.ok.inj hcc
    have hB13 : Below w1.heap.size w1 w3 := HB2.out.trans (HB3.out.mono HB2.out.size)
    have hN1 : w.heap.size ≤ w1.heap.size := HB1.out.size
    have hra3 := ((hra.ahead hB13).far (k := b.length + 1)).keep (ok' := New w.heap.size) (fun _ h => h) (fun _ _ => rfl)
    have hrb3 := (hrb.ahead HB3.out).keep (ok' := New w.heap.size) (fun g (h : w1.heap.size ≤ g) => show w.heap.size ≤ g by omega) (fun _ _ => rfl)
    have hrc3 := hrc.keep (ok' := New w.heap.size) (fun g (h : w2.heap.size ≤ g) => show w.heap.size ≤ g by have := HB2.out.size; omega) (fun _ _ => rfl)
    rw [show (a ++ 10 :: b).length = a.length + (b.length + 1) by simp] at hrc3
    have hla1 := cmds_len hca
    have hlb1 := cmds_len hcb
    have hbk : ∀ c ∈ cb, c.back ≤ b.length := placed_back cb b (placed_of b.length false 0 b (Nat.le_refl _) cb _ hcb)
    obtain ⟨A, hA⟩ : ∃ A, A = ca.map (Cmd.far (b.length + 1)) := ⟨_, rfl⟩
    have hAl : A.length = ca.length := by rw [hA]; simp
    rw [← hA] at hra3 hrc3
    obtain ⟨L, hL⟩ : ∃ L, L = a.length + (b.length + 1) := ⟨_, rfl⟩
    rw [← hL] at hra3 hrc3
    obtain ⟨M, hM⟩ : ∃ M, M = w3.heap.size := ⟨_, rfl⟩
    have HM := hid hM
    have HRB := hid hrb3
    have HRC := hid hrc3
    have HBK := hid hbk
    obtain ⟨css, hrow, hvb, hcl, hel⟩ := hra3
    have hone := CmdsIs.one hcl hel
    have HEL := hid hel
    have HCL := hid hcl
    have HL := hid hL
    have HAL := hid hAl
    have hNM : w.heap.size ≤ M := by rw [hM]; exact HBW.out.size
    clear hra hrb hrc hcc htwo hca hcb hop hrb3 hrc3 hB13 hN1 hbk hA hM hL
    rw [hAl] at hrow
    clear hAl
    obtain ⟨i0, hi0, hz0, hz1, hz2⟩ := info_parts Tryd.infoCmd
    go_wp2_with fail
    (with_reducible refine (OP _).out.mono ?_); rintro e w4 ⟨rfl, hw⟩; subst w4
    go_wp2_with (at_builtin; refine wpList_append_row rfl (.tmp 56) (.tmp 57) 24 rfl 30 i0 (.agg #[.int .i64 0, .slice none 0 0]) 2 32 Tryd.underlying24 hi0 hz0 hz1 hz2 rfl (by decide) (by rfl) (.slice a1 ca.length p1) ca.length css.flatten (by rfl) hrow hone (by unfold maxLen; omega) (by omega) ?_)
    intro v4 w4 hrow4 hg4 hv4
    rw [← HAL.out] at hrow4
    rw [← HM.out] at hv4
    have hb34 : Below M w3 w4 := ⟨hg4.os, hg4.tape, hg4.output, hg4.size, fun k hk => hg4.block k (by rw [← HM.out]; exact hk) (by simp)⟩
    have hA4 : CmdsIs 38 44 30 L w4 (New w.heap.size) v4 A := by
      have hk : ∀ (q : Nat) (cur : Array Value) (T : TypeId), w3.heap[q]? = some (.cells cur T (0, 0)) → w4.heap[q]? = some (.cells cur T (0, 0)) := fun q cur T hq => (hg4.block q (Array.getElem?_eq_some_iff.1 hq).1 (by simp)).trans hq
      refine ⟨css, hrow4, fun g hg => ?_, HCL.out, fun j h1 h2 => ⟨(HEL.out j h1 h2).1.keep2 (fun _ h _ => h) (fun q cur _ hc => hk _ _ _ hc) (fun q cur _ hc => hk _ _ _ hc), (HEL.out j h1 h2).2⟩⟩
      have := hv4 g hg
      show w.heap.size ≤ g
      omega
    obtain ⟨a4, p4, rfl⟩ : ∃ a4 p4, v4 = .slice a4 A.length p4 := by
      obtain ⟨a, cap, hv, _⟩ := RowIs.cell hA4
      exact ⟨a, cap, hv⟩
    have H4 := hid hA4
    have HV4 := hid hv4
    have HB34 := hid hb34
    clear hrow hvb hcl hel hone hrow4 hg4 hv4 hA4 hb34
    go_wp2
    go_loopg [14, 61] cb.length (fun k wv iv wr => ∃ i : Nat, iv = .int .i64 (i : Nat) ∧ CmdsIs 38 44 30 L wr (New w.heap.size) wv (A ++ cb.take i) ∧ (∀ g, wv.ownBlock = some g → M ≤ g) ∧ Below M w3 wr ∧ i + k = cb.length)
    case atStart => exact ⟨0, rfl, by simpa using H4.out, HV4.out, HB34.out, by simp⟩
    case round =>
      obtain ⟨i, rfl, hwant, hown, hbl, hk⟩ := hrel
      clear H4 HV4 HB34
      obtain ⟨a5, p5, rfl⟩ : ∃ a p, u14 = .slice a (A ++ cb.take i).length p := by
        obtain ⟨a, cap, hv, _⟩ := RowIs.cell hwant
        exact ⟨a, cap, hv⟩
      have HW := hid hwant
      have HO := hid hown
      have HBL := hid hbl
      have HK := hid hk
      clear hwant hown hbl hk
      obtain ⟨n5, hn5⟩ : ∃ n5, n5 = (A ++ cb.take i).length := ⟨_, rfl⟩
      rw [← hn5] at HW HO ⊢
      have HN5 := hid hn5
      by_cases hi : i < cb.length
      · have hn5b : n5 ≤ 1600 := by
          rw [hn5, List.length_append, HAL.out, List.length_take]
          omega
        have hB := HRB.out.ahead (by rw [← HM.out]; exact HBL.out)
        obtain ⟨g2, q2, u2, e2, hw2, x0, x1⟩ := cmd_at hB hi
        simp only [Value.slice.injEq] at e2
        obtain ⟨rfl, _, rfl⟩ := e2
        have hbk := HBK.out _ (List.getElem_mem hi)
        obtain ⟨pn, hpn⟩ : ∃ pn : Nat, pn = b.length - cb[i].back := ⟨_, rfl⟩
        have hpe : ((b.length : Int) - (cb[i].back : Int)) = (pn : Int) := by omega
        rw [hpe] at x0
        obtain ⟨a6, n6, c6, rfl⟩ : ∃ a n c, u2 = .slice a n c := by
          obtain ⟨a, cap, hv, _⟩ := RowIs.cell hw2
          exact ⟨a, _, cap, hv⟩
        have hi1 : (0 : Int) ≤ (i : Int) ∧ (i : Int) < (cb.length : Int) := by omega
        have hi2 : (i : Int) < (cb.length : Int) := by omega
        have hpb : pn ≤ 800 := by omega
        have HPN := hid hpn
        have HWS := hid hw2
        have HPE := hid hpe
        have hsa : (⟨a.toArray⟩ : ByteArray).size = a.length := Lib.size_mk _
        clear hw2 hpn hpe hB hn5
        have b6a : Below wr.heap.size wr (wr.alloc (.cells #[.int .i64 (pn : Nat), .slice a6 n6 c6] 30)) := (Below.refl _ _).alloc (Nat.le_refl _) _
        have b6 : Below wr.heap.size wr ((wr.alloc (.cells #[.int .i64 (pn : Nat), .slice a6 n6 c6] 30)).alloc (.cells #[.int .i64 ((pn : Int) + (a.length : Int) + 1), .slice a6 n6 c6] 30)) := b6a.alloc (by simp) _
        have hsz6 : ((wr.alloc (.cells #[.int .i64 (pn : Nat), .slice a6 n6 c6] 30)).alloc (.cells #[.int .i64 ((pn : Int) + (a.length : Int) + 1), .slice a6 n6 c6] 30)).heap.size = wr.heap.size + 1 + 1 := by simp
        have hnew : ((wr.alloc (.cells #[.int .i64 (pn : Nat), .slice a6 n6 c6] 30)).alloc (.cells #[.int .i64 ((pn : Int) + (a.length : Int) + 1), .slice a6 n6 c6] 30)).heap[wr.heap.size + 1]? = some (.cells #[.int .i64 ((pn : Int) + (a.length : Int) + 1), .slice a6 n6 c6] 30 (0, 0)) := (new2 wr _ _).2
        have hW6 := HW.out.ahead b6
        obtain ⟨css5, hr6', hvb5, hcl5, hel5⟩ := hW6
        rw [← HN5.out] at hr6'
        have hr6 := hr6'
        have HEL5 := hid hel5
        have HCL5 := hid hcl5
        have HB6 := hid b6
        clear hel5 hcl5 b6 b6a hvb5 hr6'
        go_wp2_with (at_builtin; refine wpList_append_lies _ rfl (.tmp 65) (.tmp 75) 24 rfl 0 30 i0 (.agg #[.int .i64 0, .slice none 0 0]) 2 32 Tryd.underlying24 hi0 hz0 hz1 hz2 rfl (by decide) _ n5 css5.flatten (by rfl) hr6 ⟨wr.heap.size + 1, 0, none⟩ 1 1 [.int .i64 ((pn : Int) + (a.length : Int) + 1), .slice a6 n6 c6] (by rfl) rfl (World.news_of_block hnew) (by intro u hu; simp at hu; rcases hu with rfl | rfl <;> rfl) (by decide) (by unfold maxLen; omega) (by omega) (Nat.zero_le _) (wr.heap.size + 1 + 1) hsz6 ?_)
        intro g cap' W7 hrow7 hg7 hgc hglt
        have hMr : M ≤ wr.heap.size := by have := HBL.out.size; rw [HM.out]; exact this
        have hws6 := HWS.out.ahead HB6.out
        have hxx : ((pn : Int) + (a.length : Int) + 1) = (L : Int) - (cb[i].back : Int) := by
          have h1 := HPE.out
          have h2 : (L : Int) = (a.length : Int) + ((b.length : Int) + 1) := by rw [HL.out]; simp
          omega
        obtain ⟨hn7, hg7M, hb7⟩ := cmds_put (L := L) (N := w.heap.size) (M := M) (c := cb[i]) (cs := A ++ cb.take i) hNM (by omega) (by rw [← HN5.out]; exact hr6) HO.out HCL5.out HEL5.out hws6 hxx
          (by rw [← HN5.out]; exact hrow7) hg7 (by rw [hsz6]; exact hgc)
        have htk : (A ++ cb.take i) ++ [cb[i]] = A ++ cb.take (i + 1) := by rw [List.append_assoc, ← List.take_succ_eq_append_getElem hi]
        rw [htk, ← HN5.out] at hn7
        have HN7 := hid hn7
        have HG7 := hid hg7M
        have HB7 := hid (HBL.out.trans ((HB6.out.mono hMr).trans hb7))
        clear hn7 hg7M hb7 hrow7 hg7 hgc hglt hr6 hnew hsz6 hws6 htk
        go_wp2
        go_roundg (gk - 1)
        case measure => have := HK.out; omega
        case rel => exact ⟨i + 1, by simp, HN7.out, fun q hq => by have e : g = q := Option.some.inj hq; have := HG7.out; omega, HB7.out, by have := HK.out; omega⟩
      · have hii : i = cb.length := by have := HK.out; omega
        clear hn5
        have hwt := HW.out
        rw [hii, List.take_length] at hwt
        have hct := HRC.out.ahead (by rw [← HM.out]; exact HBL.out)
        rw [List.length_append, HAL.out] at hct
        have hsm := hid (same_fn hct hwt)
        have hbr : Below w.heap.size w wr := HBW.out.trans (HBL.out.mono hNM)
        have HBR := hid hbr
        clear hwt hct hbr hii
        go_wp2_with fail
        (with_reducible refine hsm.out.mono ?_); rintro e w8 ⟨rfl, hb8⟩
        have HB8 := hid (HBR.out.trans (hb8.mono HBR.out.size))
        clear hb8
        go_wp2_with fail
        (with_reducible refine (AW _).out.mono ?_); rintro e w9 ⟨rfl, hb9⟩
        have HB9 := hid (HB8.out.trans (hb9.mono HB8.out.size))
        clear hb9
        go_wp2
        go_ret
        exact ⟨rfl, HB9.out⟩
end Go.Proofs.YtkgpmkkodpjdfaaDoor.Pz
/-
  ParseTwo: the row and its card. Condition: the listed package-level variables hold what the row lists (the card ties them to the text).
-/
namespace Go.Proofs.YtkgpmkkodpjdfaaDoor.parseTwo
open Go.ChangeMaps Go.ChangeShapes Go.WideShapes Go.ChangeAt Go.RowKit
theorem own : ownKnob Tryd.prog.godebug = none := by kernel_rfl
theorem ok_true {P : Program} {W' : World} {f : Func} {t : TypeId} (hr : f.resultTypes = #[t]) (ht : P.underlying t = some .bool) :
    ∀ (j : Nat) (t' : TypeId) (r : Value), f.resultTypes[j]? = some t' → ((Value.bool true).resultList f.resultTypes.size)[j]? = some r → Value.okWide P W' .any 0 t' r := ok_one hr rfl (okWide_bool_mk ht true)
section
variable {H : Type} {enc : TypeId × Value → H}
set_option maxRecDepth 100000 in
/-- the row's last step: no place was read, no variable is asked, what lay below is as it was -/
theorem post_below {f : Func} {s : ChangeSpec} {W W' : World} {args : Array Value} {v : Value} {ds gs : List (DataW H)}
    (hW : DataW.Whole enc Tryd.prog f.params.toList s.vars false W args.toList ds gs [])
    (hres : ∀ (b : Nat) (sp : Nat → Bool) (hd : Bool), DataW.TrodAll enc Tryd.prog W' b sp hd f.resultTypes.toList (v.resultList f.resultTypes.size) (s.fn H (ds ++ gs)).results [])
    (hargs : ∀ sp : Nat → Bool, DataW.TrodAll enc Tryd.prog W' 0 sp true f.params.toList args.toList (s.fn H (ds ++ gs)).args [])
    (hvars : ∀ sp : Nat → Bool, DataW.TrodVars enc Tryd.prog W' sp s.vars (s.fn H (ds ++ gs)).vars []) (hb : Below W.heap.size W W')
    (hok : ∀ (j : Nat) (t : TypeId) (r : Value), f.resultTypes[j]? = some t → (v.resultList f.resultTypes.size)[j]? = some r → Value.okWide Tryd.prog W' .any 0 t r) :
    s.post enc Tryd.prog f false true false false W args v W' := by
  refine ⟨ds, gs, [], [], [], [], hW, hres _ _ _, hargs _, hvars _, World.keptBut_mono (fun p hp => ⟨hp, .inr (.inr hp)⟩) (hb.frame (· ∈ ([] : List MemPlace))), fun _ => ?_⟩
  refine ⟨hok, _, _, ([] ++ []) ++ [], ⟨[] ++ [], [], trodAll_append (hargs _) (hres _ _ _), hvars _, rfl, ?_, ?_⟩, ?_⟩
  · intro b off hp
    simp at hp
  · intro h
    cases h
  · intro p hp _
    simp at hp
end
theorem contract (H : Type) (enc : TypeId × Value → H) (W : World) (base : Nat) (args : Array Value) (ds gs : List (DataW H)) (before : List MemPlace)
    (hval : ∀ (j : Nat) t v, Tryd.f3.params[j]? = some t → args[j]? = some v → Value.okWide Tryd.prog W .any base t v)
    (hW : DataW.Whole enc Tryd.prog Tryd.f3.params.toList Rows.parseTwoSpec.vars false W args.toList ds gs before) :
    Calls Tryd.prog 3 args W fun e W' => ∃ v, e = .returned v ∧ Rows.parseTwoSpec.post enc Tryd.prog Tryd.f3 false true false false W args v W' := by
  have hW' := hW
  obtain ⟨p, q, hA0, hV, rfl, hfz, hnd⟩ := hW
  have hA : DataW.TrodAll enc Tryd.prog W 0 (fun _ => true) true Tryd.f3.params.toList args.toList ds p := hA0
  rw [Tryd.params3] at hA hval
  obtain ⟨v0, vs0, d0, ds0, p0, q0, hargs, rfl, rfl, h0, r0⟩ := trodAll_cons hA
  obtain ⟨v1, vs1, d1, ds1, p1, q1, rfl, rfl, rfl, h1, r1⟩ := trodAll_cons r0
  obtain ⟨rfl, rfl, rfl⟩ := trodAll_nil r1
  obtain rfl : args = #[v0, v1] := by cases args; simp_all
  obtain ⟨rfl, rfl⟩ := trodVars_none hV
  obtain ⟨s0, rfl, rfl, rfl, m0⟩ := open_string Tryd.underlying9 (by with_reducible exact hval 0 9 v0 (by simp) (by simp)) h0
  obtain ⟨s1, rfl, rfl, rfl, m1⟩ := open_string Tryd.underlying9 (by with_reducible exact hval 1 9 v1 (by simp) (by simp)) h1
  clear hA0
  simp only [List.append_nil] at hW'
  have e0 : s0 = ⟨s0.data.toList.toArray⟩ := by cases s0; simp
  have q0 : s0.data.toList.length ≤ 9223372036854775807 := by
    have h1 : s0.data.toList.length = s0.size := by rw [Array.length_toList]; rfl
    have h2 := m0
    unfold maxLen at h2
    omega
  have e1 : s1 = ⟨s1.data.toList.toArray⟩ := by cases s1; simp
  have q1 : s1.data.toList.length ≤ 9223372036854775807 := by
    have h1 : s1.data.toList.length = s1.size := by rw [Array.length_toList]; rfl
    have h2 := m1
    unfold maxLen at h2
    omega
  have walk := Pz.parseTwo_fn s0.data.toList s1.data.toList W q0 q1
  rw [← e0, ← e1] at walk
  refine walk.mono fun e W' ⟨he, hg⟩ => ?_
  subst he
  exact ⟨_, rfl, post_below hW' (fun _ _ _ => trodAll_cons_mk (shut_bool Tryd.underlying4 _) trodAll_mk0) (fun _ => trodAll_cons_mk (shut_string Tryd.underlying9 m0) (trodAll_cons_mk (shut_string Tryd.underlying9 m1) trodAll_mk0)) (fun _ => rfl) hg (@ok_true Tryd.prog W' Tryd.f3 4 (by kernel_rfl) Tryd.underlying4)⟩
theorem reads (os : Os) {H : Type} (enc : TypeId × Value → H) : ∃ places, DataW.whole enc Tryd.prog ((World.laidAll Tryd.prog os Rows.parseTwoRow.laid).forCall (fun _ _ => 0) ⟨#[], #[.string .empty, .string .empty], []⟩).memory Tryd.f3.params.toList Rows.parseTwoSpec.vars false (#[.string .empty, .string .empty] : Array Value).toList 8 = some ([.lit (.string []), .lit (.string [])], [], places) :=
  ⟨[], by kernel_rfl⟩
set_option maxRecDepth 100000 in
theorem lifted (os : Os) (started : os.Started) (H : Type) (enc : TypeId × Value → H) (F : Stop.Interp) :
    ReturnsInHanded {} Tryd.checked os 3 .any ((OpenSpec.ofChange Rows.parseTwoSpec).preRow enc Tryd.prog Tryd.f3 Rows.parseTwoRow.domain false Rows.parseTwoRow.laid) (((OpenSpec.ofChange Rows.parseTwoSpec).at F).post enc Tryd.prog Tryd.f3 false true false false) := by
  obtain ⟨places, hx⟩ := reads os enc
  have hl : laidMetH Tryd.prog Rows.parseTwoRow.laid ((World.laidAll Tryd.prog os Rows.parseTwoRow.laid).forCall (fun _ _ => 0) ⟨#[], #[.string .empty, .string .empty], []⟩).memory := by
    rw [MakeChecks.laidMetH_plain _ _ _ (by kernel_rfl)]
    exact laidMet_laidAll _ (by kernel_rfl) (by kernel_rfl)
  refine returnsInHanded_of_row (C := Tryd.checked) (s := (OpenSpec.ofChange Rows.parseTwoSpec)) own started (by kernel_rfl) Tryd.func3
    (witness_row_at (enc := enc) (C := Tryd.checked) false (World.laidAll Tryd.prog os Rows.parseTwoRow.laid) #[.string .empty, .string .empty] (World.laidAll_os _ _ _) (by kernel_rfl) (by kernel_rfl) (by kernel_rfl)
      (OpenSpec.preRow_of_cond 8 hx (by kernel_rfl) (fun k hk => by cases hk) (by kernel_rfl) hl)) ?_
  intro W base args ds gs before hval hW _ _ _ _ _ _
  exact contract H enc W base args ds gs before hval hW
theorem said : Rows.ParseTwoSaid :=
  OpenClaim.holds_of_cond 3 Tryd.f3 rfl rfl rfl rfl rfl rfl rfl ⟨rfl, rfl, rfl, rfl, rfl⟩ rfl rfl rfl rfl rfl (by kernel_rfl) Tryd.func3 (by kernel_rfl)
    (of_decide_eq_true (by kernel_rfl)) (by unfold Func.isWrapper; first | (rw [if_pos (by decide +kernel)]; kernel_rfl) | (rw [if_neg (by decide +kernel)]; exact ⟨rfl, rfl⟩))
    (fun os started H enc _ F => by rw [OpenClaim.pre_eq_preRow]; exact lifted os started H enc F)
theorem plain (f : FuncId) (fn : Func) (hf : Tryd.pinned.checked.prog.funcNamed "threadbare/threadbarelaw06.ParseTwo" = some f) (hfn : Tryd.pinned.checked.prog.funcs[f]? = some fn) :
    true = Tryd.pinned.checked.prog.looks [] ∧ ∀ (j : Nat) t, fn.params[j]? = some t → Tryd.pinned.checked.prog.wantsStandIn t = false := by
  obtain rfl : f = 3 := Option.some.inj ((show Tryd.prog.funcNamed "threadbare/threadbarelaw06.ParseTwo" = some 3 by kernel_rfl).symm.trans hf) |>.symm
  obtain rfl : fn = Tryd.f3 := (Option.some.inj (Tryd.func3.symm.trans hfn)).symm
  refine ⟨by kernel_rfl, fun j t ht => ?_⟩
  rw [Tryd.params3] at ht
  have ht := Array.mem_of_getElem? ht
  simp at ht
  subst ht
  exact (show Tryd.prog.wantsStandIn 9 = false by kernel_rfl)
theorem card : Rows.ParseTwoCardSaid :=
  Claim7.holds_tied_plain_at .later [] _ _ _ _ said (fun _ h => by cases h) (by kernel_rfl) (fun _ h => by cases h) parseTwo_row_tie rfl ⟨rfl, rfl⟩ (by kernel_rfl) rfl plain (by kernel_rfl)
end Go.Proofs.YtkgpmkkodpjdfaaDoor.parseTwo
