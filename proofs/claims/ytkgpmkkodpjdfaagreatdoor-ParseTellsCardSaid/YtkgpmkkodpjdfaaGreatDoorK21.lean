/-
  Part K21 of the proofs of this seat: contracts of functions and plain facts, merged from 4 texts.
-/
import Derived.Maps.OwnOps
import Derived.Maps.Views
import Derived.Laws.EntriesVeiled
import Derived.Test.YtkgpmkkodpjdfaaGreatDoorK20
namespace Go.Proofs.YtkgpmkkodpjdfaaGreatDoor.Pz
open Go.RowKit
theorem all_fn : ∀ (k : Nat) (cs : List Cmd) {n : Nat} {w : World} {ok : Nat → Prop} {v : Value}, CmdsIs 33 49 47 n w ok v cs → cfit k cs → k ≤ 100000 → wcs cs ≤ 1000000 → csum cs ≤ 1000000 →
    Calls Tryz.prog 46 #[v] w fun e w' => ∃ u, e = .returned u ∧ Row w.heap.size w' u (namesN k cs) ∧ Below w.heap.size w w' := by
  intro k
  induction k with
  | zero =>
    intro cs n w ok v hC hf hk1 hw hc
    have hle := namesN_le 0 cs
    have he : (cs.flatMap fun c => nameOf c ++ (scrWs c.words).flatMap fun _ => ([] : List Str)) = namesN 0 cs := by rw [namesN]; congr 1; funext c; simp
    have h := all_step (fun _ => []) hC hf hk1 hw (by rw [he]; omega) (fun s hs => absurd hs (by omega))
    rw [he] at h
    exact h
  | succ k ih =>
    intro cs n w ok v hC hf hk1 hw hc
    have hle := namesN_le (k + 1) cs
    rw [namesN] at hle ⊢
    refine all_step (fun s => namesN k (cmdsOf s)) hC hf hk1 hw (by omega) fun s hs w' ok' v' hv' => ?_
    obtain ⟨f1, f2, f3⟩ := cmdsOf_f s
    exact ih (cmdsOf s) hv' (fun c hc x hx => fits_mono (by omega) _ (f1 c hc x hx)) (by omega) (by omega) (by omega)
theorem Row.mono {B C : Nat} {w : World} {v : Value} {l : List Str} (h : Row B w v l) (hb : C ≤ B) : Row C w v l := by
  refine ⟨h.1, ?_⟩
  rcases h.2 with hn | ⟨g, cap, cur, e, hB, rest⟩
  · exact .inl hn
  · exact .inr ⟨g, cap, cur, e, by omega, rest⟩
def uniq (acc : List Str) : List Str → List Str
  | [] => acc
  | s :: l => uniq (if s ∈ acc then acc else acc ++ [s]) l
theorem uniq_app : ∀ (a b acc : List Str), uniq acc (a ++ b) = uniq (uniq acc a) b
  | [], b, acc => rfl
  | s :: a, b, acc => by rw [List.cons_append, uniq, uniq, uniq_app a b]
theorem uniq_len : ∀ (l acc : List Str), (uniq acc l).length ≤ acc.length + l.length
  | [], acc => by simp [uniq]
  | s :: l, acc => by
    have h := uniq_len l (if s ∈ acc then acc else acc ++ [s])
    rw [uniq]
    have : (if s ∈ acc then acc else acc ++ [s]).length ≤ acc.length + 1 := by split <;> simp
    simp only [List.length_cons]
    omega
theorem uniq_take (l : List Str) {i : Nat} (h : i < l.length) : uniq [] (l.take (i + 1)) = if l[i] ∈ uniq [] (l.take i) then uniq [] (l.take i) else uniq [] (l.take i) ++ [l[i]] := by
  rw [List.take_succ_eq_append_getElem h, uniq_app]
  rfl
theorem mem_take_succ (l : List Str) (s : Str) {i : Nat} (h : i < l.length) : decide (s ∈ l.take (i + 1)) = (decide (s ∈ l.take i) || decide (s = l[i])) := by
  have h1 : s ∈ l.take i ++ [l[i]] ↔ s ∈ l.take i ∨ s = l[i] := by rw [List.mem_append, List.mem_singleton]
  rw [List.take_succ_eq_append_getElem h, decide_eq_decide.2 h1]
  exact Bool.decide_or _ _
set_option maxRecDepth 100000 in
set_option maxHeartbeats 2000000 in
theorem namesR_fn {k n : Nat} {w : World} {ok : Nat → Prop} {v : Value} {cs : List Cmd} (hC : CmdsIs 33 49 47 n w ok v cs) (hf : cfit k cs) (hk1 : k ≤ 100000) (hwt : wcs cs ≤ 1000000) (hcs : csum cs ≤ 1000000) :
    Calls Tryz.prog 20 #[v] w fun e w' => ∃ u, e = .returned u ∧ Row w.heap.size w' u (uniq [] (namesN k cs)) ∧ Below w.heap.size w w' := by
  have HC := hid (all_fn k cs hC hf hk1 hwt hcs)
  have hll := namesN_le k cs
  obtain ⟨l, hl⟩ : ∃ l, l = namesN k cs := ⟨_, rfl⟩
  rw [← hl] at HC hll ⊢
  clear hl hC hf
  go_enter Tryz.func20, Tryz.ntmps20
  go_wp2_with fail
  (with_reducible refine HC.out.mono ?_); rintro e w1 ⟨u, rfl, hr1, hb1⟩
  obtain ⟨a1, c1, e1⟩ := hr1.shape
  subst e1
  have HR1 := hid hr1
  have HB1 := hid hb1
  have hs1 := hb1.size
  clear hr1 hb1
  go_wp2
  go_loopg [3, 12] l.length (fun k2 ov iv wr => ∃ (i : Nat), iv = .int .i64 (i : Nat) ∧ Row w1.heap.size wr ov (uniq [] (l.take i)) ∧ Below w1.heap.size w1 wr ∧ i + k2 = l.length)
  case atStart => exact ⟨0, rfl, by rw [List.take_zero]; exact Row.nil _ _, Below.refl _ _, by simp⟩
  case round =>
    obtain ⟨i, rfl, hown, hbl, hk2⟩ := hrel
    by_cases hi : i < l.length
    · obtain ⟨g, rfl, _, hx⟩ := Row.at (HR1.out.on hbl) hi
      have hut := uniq_take l hi
      have hul := uniq_len (l.take i) []
      rw [List.length_take] at hul
      obtain ⟨s, hs⟩ : ∃ s, s = l[i] := ⟨_, rfl⟩
      rw [← hs] at hx hut
      generalize hU : uniq [] (l.take i) = U at hown hut hul
      obtain ⟨a2, c2, e2⟩ := hown.shape
      subst e2
      have HO := hid hown
      have HUT := hid hut
      have HBL := hid hbl
      have hsz := hbl.size
      have hi1 : (0 : Int) ≤ (i : Int) ∧ (i : Int) < (l.length : Int) := by omega
      have hi2 : (i : Int) < (l.length : Int) := by omega
      simp only [List.length_nil] at hul
      clear hs hU hut hown hbl
      go_wp2
      clear hx hi1 hi2
      go_loopg [6, 18] U.length (fun k3 mv jv wr2 => ∃ (j : Nat), mv = .bool (decide (s ∈ U.take j)) ∧ jv = .int .i64 (j : Nat) ∧ Below wr.heap.size wr wr2 ∧ j + k3 = U.length)
      case atStart => exact ⟨0, by simp, rfl, Below.refl _ _, by simp⟩
      case round =>
        obtain ⟨j, rfl, rfl, hbl2, hk3⟩ := hrel
        by_cases hj : j < U.length
        · obtain ⟨g2, rfl, _, hy⟩ := Row.at (HO.out.on hbl2) hj
          have hmt := mem_take_succ U s hj
          obtain ⟨t, ht⟩ : ∃ t, t = U[j] := ⟨_, rfl⟩
          rw [← ht] at hy hmt
          have hj1 : (0 : Int) ≤ (j : Int) ∧ (j : Int) < (U.length : Int) := by omega
          have hj2 : (j : Int) < (U.length : Int) := by omega
          have HMT := hid hmt
          have HB2 := hid hbl2
          clear ht hmt hbl2
          have HST := hid (show (s == t) = decide (s = t) by rw [Bool.eq_iff_iff]; simp)
          cases hm : decide (s ∈ U.take j) with
          | true =>
            rw [hm] at HMT
            clear hm
            go_wp2
            go_roundg (U.length - (j + 1))
            case measure => omega
            case rel => exact ⟨j + 1, by rw [HMT.out]; rfl, by go_num, HB2.out, by omega⟩
          | false =>
            rw [hm] at HMT
            clear hm
            go_wp2
            go_roundg (U.length - (j + 1))
            case measure => omega
            case rel => exact ⟨j + 1, by rw [HMT.out, HST.out]; rfl, by go_num, HB2.out, by omega⟩
        · have ht : U.take j = U := List.take_of_length_le (by omega)
          rw [ht]
          have hws := hbl2.size
          have HO2 := hid (HO.out.on hbl2)
          have HB2 := hid (HBL.out.trans (hbl2.mono hsz))
          clear hbl2 ht
          by_cases hm : s ∈ U
          · have hd : decide (s ∈ U) = true := decide_eq_true hm
            have hit := HUT.out
            rw [if_pos hm] at hit
            have HIT := hid hit
            rw [hd]
            clear hd hm hit
            go_wp2
            go_roundg (l.length - (i + 1))
            case measure => omega
            case rel => exact ⟨i + 1, by go_num, by rw [HIT.out]; exact HO2.out, HB2.out, by omega⟩
          · have hd : decide (s ∈ U) = false := decide_eq_false hm
            have hit := HUT.out
            rw [if_neg hm] at hit
            have HIT := hid hit
            rw [hd]
            clear hd hm hit
            go_wp2_with (at_builtin; refine app_one (w := wr) rfl rfl (.tmp 31) (.tmp 33) rfl w1.heap.size _ U s rfl HO2.out rfl (by omega) (by omega) ?_)
            intro v9 w9 hr9 hg9 hv9
            have HR9 := hid hr9
            have HB9 := hid (HB2.out.grown hg9 (by omega) (fun g hg => (Row.lt HO2.out g hg).2))
            clear hr9 hg9 hv9
            go_wp2
            go_roundg (l.length - (i + 1))
            case measure => omega
            case rel => exact ⟨i + 1, by go_num, by rw [HIT.out]; exact HR9.out, HB9.out, by omega⟩
    · have ht : l.take i = l := List.take_of_length_le (by omega)
      rw [ht] at hown
      go_wp2
      go_ret
      exact ⟨_, rfl, hown.mono hs1, HB1.out.trans (hbl.mono hs1)⟩
theorem Tryz.zeroB (w : World) : (zeroValue 4).run Tryz.prog w = .ok (.bool false) w := by kernel_rfl
theorem plainElem_bool_inv {P : Program} {e : TypeId} (he : P.underlying e = some .bool) {v : Value} {x : Bool} {ps : List MemPlace} (h : plainElem (H := Unit) P e v = some (.lit (.bool x), ps)) : v = .bool x := by
  unfold plainElem at h
  rw [he] at h
  cases v <;> simp at h
  rw [h.1]
def MetIs (w : World) (b : Nat) (L : List Str) : Prop :=
  ∃ D : DataW Unit, w.ownsMap Tryz.prog 9 (plainElem Tryz.prog 4) b L.length D ∧ Maps.IsMap D ∧ ∀ s : Str, D.atKey (.string s) (.lit (.bool false)) = .lit (.bool (decide (s ∈ L)))
theorem MetIs.look {w : World} {b : Nat} {L : List Str} (h : MetIs w b L) (s : Str) (hs : s.length ≤ 1000000) : (Instr.lookup 86 (.map (some b)) (.string ⟨s.toArray⟩) false).run Tryz.prog w = .ok (.bool (decide (s ∈ L))) w := by
  obtain ⟨D, ho, _, hat⟩ := h
  have hk : keyOf Tryz.prog 9 (.string ⟨s.toArray⟩) = some (.string s) := by
    rw [WideMaps.keyOf_string_mk Tryz.underlying9 (by rw [Lib.size_mk]; unfold maxLen; omega)]
  obtain ⟨v, ps, hrun, hv⟩ := ho.lookup (Maps.string_keyed Tryz.underlying9) Tryz.underlying86 (Tryz.zeroB w) (plainElem_bool Tryz.underlying4 false) hk
  rw [hat s] at hv
  rw [hrun]
  rw [plainElem_bool_inv Tryz.underlying4 hv]
theorem MetIs.put {w : World} {b : Nat} {L : List Str} {D : DataW Unit} {s : Str} (hm : Maps.IsMap D) (hat : ∀ s : Str, D.atKey (.string s) (.lit (.bool false)) = .lit (.bool (decide (s ∈ L))))
    (ho : w.ownsMap Tryz.prog 9 (plainElem Tryz.prog 4) b (L.length + 1) (D.put (.string s) (.lit (.bool true)))) : MetIs w b (L ++ [s]) := by
  refine ⟨_, by rw [List.length_append]; exact ho, hm.put _ _, fun t => ?_⟩
  by_cases h : t = s
  · subst h
    rw [Maps.atKey_put_same hm (show WideAt.IsKeyLit (.string t) from trivial)]
    simp
  · rw [Maps.atKey_put_other (by simpa using h), hat t]
    simp [h]
theorem MetIs.of {w w' : World} {b : Nat} {L : List Str} (h : MetIs w b L) (hb : w'.heap[b]? = w.heap[b]?) : MetIs w' b L := by
  obtain ⟨D, ⟨es, clock, h1, h2⟩, h3⟩ := h
  exact ⟨D, ⟨es, clock, hb.trans h1, h2⟩, h3⟩
theorem MetIs.obj {w : World} {b : Nat} {L : List Str} (h : MetIs w b L) : ∃ es clock, w.heap[b]? = some (.map es clock) := by
  obtain ⟨D, ⟨es, clock, h1, h2⟩, h3⟩ := h
  exact ⟨es, clock, h1⟩
structure St (o b m k B : Nat) (w : World) (v : Value) (L : List Str) : Prop where
  dis : o < B ∧ b < B ∧ m < B ∧ k < B ∧ o ≠ b ∧ m ≠ o ∧ m ≠ b ∧ k ≠ o ∧ k ≠ b
  size : B ≤ w.heap.size
  out : w.heap[o]? = some (.cells #[v] 42 (0, 0))
  row : Row B w v L
  mp : MetIs w b L
  met : w.heap[m]? = some (.cells #[.map (some b)] 86 (0, 0))
  walk : w.heap[k]? = some (.cells #[.func (.func 45) #[] #[.pointer (some ⟨m, 0, none⟩), .pointer (some ⟨o, 0, none⟩), .pointer (some ⟨k, 0, none⟩)]] 87 (0, 0))
structure Fr (o b : Nat) (v : Value) (w : World) (v' : Value) (w' : World) : Prop where
  os : w'.os = w.os
  tape : w'.tape = w.tape
  output : w'.output = w.output
  size : w.heap.size ≤ w'.heap.size
  block : ∀ g, g < w.heap.size → g ≠ o → g ≠ b → v.ownBlock ≠ some g → w'.heap[g]? = w.heap[g]?
  own : ∀ g, v'.ownBlock = some g → v.ownBlock = some g ∨ w.heap.size ≤ g
theorem Fr.refl (o b : Nat) (v : Value) (w : World) : Fr o b v w v w := ⟨rfl, rfl, rfl, Nat.le_refl _, fun _ _ _ _ _ => rfl, fun _ h => .inl h⟩
theorem Fr.trans {o b : Nat} {v1 v2 v3 : Value} {w1 w2 w3 : World} (h : Fr o b v1 w1 v2 w2) (k : Fr o b v2 w2 v3 w3) : Fr o b v1 w1 v3 w3 := by
  refine ⟨k.os.trans h.os, k.tape.trans h.tape, k.output.trans h.output, Nat.le_trans h.size k.size, fun g h1 h2 h3 h4 => ?_, fun g hg => ?_⟩
  · have hs := h.size
    refine (k.block g (by omega) h2 h3 fun e => ?_).trans (h.block g h1 h2 h3 h4)
    rcases h.own g e with h5 | h5
    · exact h4 h5
    · omega
  · rcases k.own g hg with h5 | h5
    · exact h.own g h5
    · exact .inr (Nat.le_trans h.size h5)
theorem Fr.below {o b : Nat} {v1 v2 : Value} {w1 w2 w3 : World} (h : Fr o b v1 w1 v2 w2) (k : Below w2.heap.size w2 w3) : Fr o b v1 w1 v2 w3 :=
  h.trans ⟨k.os, k.tape, k.output, k.size, fun g h1 _ _ _ => k.block g h1, fun _ h => .inl h⟩
theorem Fr.low {o b B : Nat} {v1 v2 : Value} {w1 w2 : World} (h : Fr o b v1 w1 v2 w2) (ho : B ≤ o) (hb : B ≤ b) (hB : B ≤ w1.heap.size) (hv : ∀ g, v1.ownBlock = some g → B ≤ g) : Below B w1 w2 :=
  ⟨h.os, h.tape, h.output, h.size, fun g hg => h.block g (by omega) (by omega) (by omega) fun e => by have := hv g e; omega⟩
section
variable {o b m k B : Nat} {w w' : World} {v v' : Value} {L L' : List Str}
theorem St.below (h : St o b m k B w v L) (hb : Below w.heap.size w w') : St o b m k B w' v L := by
  obtain ⟨d1, d2, d3, d4, d5⟩ := h.dis
  have hs := h.size
  exact ⟨h.dis, Nat.le_trans h.size hb.size, (hb.block _ (by omega)).trans h.out, h.row.on hb, h.mp.of (hb.block _ (by omega)), (hb.block _ (by omega)).trans h.met, (hb.block _ (by omega)).trans h.walk⟩
theorem St.fr (h : St o b m k B w v L) {g : Nat} {cur : Array Value} {T : TypeId} (hf : Fr o b v w v' w') (hT1 : T ≠ 9) (hT2 : T ≠ 42) (hc : w.heap[g]? = some (.cells cur T (0, 0))) : w'.heap[g]? = some (.cells cur T (0, 0)) := by
  rw [hf.block g (Array.getElem?_eq_some_iff.1 hc).1 ?_ ?_ ?_]
  · exact hc
  · rintro rfl
    have := h.out
    rw [hc] at this
    simp only [Option.some.injEq, Obj.cells.injEq] at this
    exact hT2 this.2.1
  · rintro rfl
    obtain ⟨es, clock, h1⟩ := h.mp.obj
    rw [hc] at h1
    cases h1
  · intro e
    obtain ⟨_, cur', h1⟩ := ownsRow_lt h.row g e
    rw [hc] at h1
    simp only [Option.some.injEq, Obj.cells.injEq] at h1
    exact hT1 h1.2.1
theorem CmdsIs.fr {n : Nat} {ok : Nat → Prop} {u : Value} {cs : List Cmd} (hC : CmdsIs 33 49 47 n w ok u cs) (h : St o b m k B w v L) (hf : Fr o b v w v' w') : CmdsIs 33 49 47 n w' ok u cs :=
  hC.keep2 (fun _ h _ => h) (fun _ _ _ hc => h.fr hf (by decide) (by decide) hc) (fun _ _ _ hc => h.fr hf (by decide) (by decide) hc) (fun _ _ _ hc => h.fr hf (by decide) (by decide) hc)
theorem WdsIs.fr {ok : Nat → Prop} {u : Value} {ws : List Wd} (hC : WdsIs 33 49 w ok u ws) (h : St o b m k B w v L) (hf : Fr o b v w v' w') : WdsIs 33 49 w' ok u ws :=
  hC.keep2 (fun _ h _ => h) (fun _ _ _ hc => h.fr hf (by decide) (by decide) hc) (fun _ _ _ hc => h.fr hf (by decide) (by decide) hc)
theorem Row.fr {C : Nat} {u : Value} {l : List Str} (hR : Row C w u l) (h : St o b m k B w v L) (hf : Fr o b v w v' w') (hsep : ∀ g, v.ownBlock = some g → u.ownBlock ≠ some g) : Row C w' u l ∧ ∀ g, v'.ownBlock = some g → u.ownBlock ≠ some g := by
  refine ⟨ownsRow_heap2 hR fun g cur hg hc => ?_, fun g h1 h2 => ?_⟩
  · rw [hf.block g (Array.getElem?_eq_some_iff.1 hc).1 ?_ ?_ fun e => hsep g e hg]
    · exact hc
    · rintro rfl
      have := h.out
      rw [hc] at this
      simp only [Option.some.injEq, Obj.cells.injEq] at this
      exact absurd this.2.1 (by decide)
    · rintro rfl
      obtain ⟨es, clock, h1⟩ := h.mp.obj
      rw [hc] at h1
      cases h1
  · rcases hf.own g h1 with h3 | h3
    · exact hsep g h3 h2
    · have := (Row.lt hR g h2).1
      omega
theorem St.add (h : St o b m k B w v L) {s : Str} {w1 w2 : World} {D : DataW Unit} (hm : Maps.IsMap D) (hat : ∀ s : Str, D.atKey (.string s) (.lit (.bool false)) = .lit (.bool (decide (s ∈ L))))
    (ho : w1.ownsMap Tryz.prog 9 (plainElem Tryz.prog 4) b (L.length + 1) (D.put (.string s) (.lit (.bool true)))) (hg1 : w.grownBy w1 (some b)) (hr2 : Row B w2 v' (L ++ [s])) (hg2 : w1.grownBy w2 v.ownBlock)
    (hv2 : ∀ g, v'.ownBlock = some g → v.ownBlock = some g ∨ w1.heap.size ≤ g) : St o b m k B (w2.setCell ⟨o, 0, none⟩ v') v' (L ++ [s]) ∧ Fr o b v w v' (w2.setCell ⟨o, 0, none⟩ v') := by
  obtain ⟨d1, d2, d3, d4, d5, d6, d7, d8, d9⟩ := h.dis
  have hs := h.size
  have s1 := hg1.size
  have s2 := hg2.size
  have hlt := h.row.lt
  have hlt2 := hr2.lt
  have e1 : ∀ g, g < w.heap.size → g ≠ b → v.ownBlock ≠ some g → w2.heap[g]? = w.heap[g]? := fun g x1 x2 x3 => (hg2.block g (by omega) fun e => x3 e.symm).trans (hg1.block g x1 fun e => x2 (Option.some.inj e))
  have e2 : ∀ g, g ≠ o → (w2.setCell ⟨o, 0, none⟩ v').heap[g]? = w2.heap[g]? := fun g x => Below.heap_setCell _ _ _ _ fun e => x e
  have n1 : ∀ g, g < B → v.ownBlock ≠ some g := fun g x e => by have := (hlt g e).2; omega
  have hout : w2.heap[o]? = some (.cells #[v] 42 (0, 0)) := (e1 o (by omega) d5 (n1 o d1)).trans h.out
  refine ⟨⟨h.dis, by simp [World.setCell]; omega, ?_, ?_, ?_, ?_, ?_⟩, ⟨by rw [show (w2.setCell ⟨o, 0, none⟩ v').os = w2.os from rfl, hg2.os, hg1.os], by rw [show (w2.setCell ⟨o, 0, none⟩ v').tape = w2.tape from rfl, hg2.tape, hg1.tape], by rw [show (w2.setCell ⟨o, 0, none⟩ v').output = w2.output from rfl, hg2.output, hg1.output], by simp [World.setCell]; omega, ?_, ?_⟩⟩
  · simp [World.setCell, Array.getElem?_modify, hout]
  · exact ownsRow_heap hr2 fun g hg => e2 g (by have := (hlt2 g hg).2; omega)
  · refine MetIs.of (MetIs.put hm hat ho) ?_
    rw [e2 b (by omega)]
    exact hg2.block b (by omega) fun e => n1 b d2 e.symm
  · rw [e2 m d6, e1 m (by omega) d7 (n1 m d3)]; exact h.met
  · rw [e2 k d8, e1 k (by omega) d9 (n1 k d4)]; exact h.walk
  · intro g x1 x2 x3 x4
    rw [e2 g x2, e1 g x1 x3 x4]
  · intro g hg
    rcases hv2 g hg with h5 | h5
    · exact .inl h5
    · exact .inr (by omega)
end
theorem litOf_len {sp : Bool} {ts : List Tok} {s : Str} (h : litOf ⟨sp, ts⟩ = some s) : s.length ≤ wts ts := by
  unfold litOf at h
  split at h
  · rename_i hh
    dsimp only at hh
    subst hh
    split at h
    · simp only [Option.some.injEq] at h
      subst h
      simp [wts, Tok.wt]
      omega
    · cases h
  · cases h
theorem CmdsIs.single {n B : Nat} {w : World} {u : Value} {c : Cmd} {bk : Int} (hbk : bk = (n : Int) - (c.back : Int)) (hw : WdsIs 33 49 w (fun g => g < B) u c.words) (hB : B ≤ w.heap.size) :
    CmdsIs 33 49 47 n (w.alloc (.cells #[.int .i64 bk, u] 47)) (fun _ => True) (.slice (some ⟨w.heap.size, 0, none⟩) 1 1) [c] := by
  have hb := belowA w (.cells #[.int .i64 bk, u] 47)
  refine ⟨[[.int .i64 bk, u]], ⟨by simp, .inr ⟨w.heap.size, 1, #[.int .i64 bk, u], rfl, Nat.zero_le _, heap_alloc_new _ _, Nat.le_refl _, by unfold maxLen; omega, by simp, by simp⟩⟩, fun _ _ => trivial, rfl, fun i h1 h2 => ?_⟩
  obtain rfl : i = 0 := by simp at h2; exact h2
  exact ⟨⟨u, by rw [hbk]; rfl, (hw.keep2 (fun _ _ _ => trivial) (fun g cur hg hc => (hb.block g (by omega)).trans hc) (fun g cur hg hc => (hb.block g (by omega)).trans hc))⟩, rfl⟩
theorem wcs_mem1 : ∀ (cs : List Cmd) (c : Cmd), c ∈ cs → 1 + wws c.words ≤ wcs cs
  | [], _, h => by cases h
  | y :: cs, c, h => by
    rw [wcs]
    rcases List.mem_cons.1 h with rfl | h
    · omega
    · have := wcs_mem1 cs c h; omega
set_option maxRecDepth 100000 in
set_option maxHeartbeats 4000000 in
theorem names1_step {kf n : Nat} {w : World} {ok : Nat → Prop} {v : Value} {cs : List Cmd} {o b m k B : Nat} {u : Value} {L : List Str} (f : Str → List Str) (hC : CmdsIs 33 49 47 n w ok v cs) (hf : cfit kf cs) (hk1 : kf ≤ 100000) (hwt : wcs cs ≤ 1000000)
    (hS : St o b m k B w u L) (hsum : L.length + (cs.flatMap fun c => nameOf c ++ (scrWs c.words).flatMap f).length ≤ 1000000)
    (ih : ∀ (s : Str), s.length < kf → ∀ (w : World) (ok : Nat → Prop) (v u : Value) (L : List Str), CmdsIs 33 49 47 s.length w ok v (cmdsOf s) → St o b m k B w u L → L.length + (f s).length ≤ 1000000 →
      Calls Tryz.prog 45 #[v, .pointer (some ⟨m, 0, none⟩), .pointer (some ⟨o, 0, none⟩), .pointer (some ⟨k, 0, none⟩)] w fun e w' => e = .returned (.tuple #[]) ∧ ∃ u', St o b m k B w' u' (uniq L (f s)) ∧ Fr o b u w u' w') :
    Calls Tryz.prog 45 #[v, .pointer (some ⟨m, 0, none⟩), .pointer (some ⟨o, 0, none⟩), .pointer (some ⟨k, 0, none⟩)] w fun e w' => e = .returned (.tuple #[]) ∧ ∃ u', St o b m k B w' u' (uniq L (cs.flatMap fun c => nameOf c ++ (scrWs c.words).flatMap f)) ∧ Fr o b u w u' w' := by
  have hlen := hC.short
  obtain ⟨a1, c1, rfl⟩ : ∃ a c, v = .slice a cs.length c := by
    obtain ⟨a, cap, hv, _⟩ := RowIs.cell hC
    exact ⟨a, cap, hv⟩
  have HC := hid hC
  have HF := hid hf
  have IH := hid ih
  have HS := hid hS
  clear hC hf ih hS
  obtain ⟨F, hF⟩ : ∃ F : Cmd → List Str, F = fun c => nameOf c ++ (scrWs c.words).flatMap f := ⟨_, rfl⟩
  rw [← hF] at hsum ⊢
  go_enter Tryz.func45, Tryz.ntmps45
  go_wp2
  go_loopg [16] cs.length (fun k2 iv wr => ∃ (i : Nat) (x : Value), iv = .int .i64 (i : Nat) ∧ St o b m k B wr x (uniq L ((cs.take i).flatMap F)) ∧ Fr o b u w x wr ∧ i + k2 = cs.length)
  case atStart => exact ⟨0, u, rfl, by rw [List.take_zero]; exact HS.out, Fr.refl _ _ _ _, by simp⟩
  case round =>
    obtain ⟨i, x, rfl, hst, hfr, hk2⟩ := hrel
    by_cases hi : i < cs.length
    · have h1 := HC.out.fr HS.out hfr
      obtain ⟨g1, q1, u1, e1, hw1, x0, x1⟩ := cmd_at h1 hi
      simp only [Value.slice.injEq] at e1
      obtain ⟨rfl, _, rfl⟩ := e1
      have hwl := hw1.short
      have hnext := flat_take F cs hi
      have hcp := flat_part F cs (i + 1)
      have hfw := HF.out _ (List.getElem_mem hi)
      have hww := wcs_mem1 cs _ (List.getElem_mem hi)
      obtain ⟨cm, hcm⟩ : ∃ cm, cm = cs[i] := ⟨_, rfl⟩
      obtain ⟨bk, hbk⟩ : ∃ bk, bk = (n : Int) - (cs[i].back : Int) := ⟨_, rfl⟩
      rw [← hbk] at x0
      rw [← hcm] at hw1 hwl hnext hfw hww hbk
      rw [hnext, List.length_append] at hcp
      have hun := uniq_len ((cs.take i).flatMap F) L
      have hue : uniq L ((cs.take (i + 1)).flatMap F) = uniq (uniq L ((cs.take i).flatMap F)) (F cm) := by rw [hnext, uniq_app]
      generalize uniq L ((cs.take i).flatMap F) = Li at hst hun hue
      have hFc : F cm = nameOf cm ++ (scrWs cm.words).flatMap f := by rw [hF]
      rw [hFc, List.length_append] at hcp
      rw [hFc, uniq_app] at hue
      have HBKE := hid hbk
      obtain ⟨ws, hws⟩ : ∃ ws, ws = cm.words := ⟨_, rfl⟩
      rw [← hws] at hw1 hwl hfw hww hcp hue
      obtain ⟨a3, c3, rfl⟩ : ∃ a c, u1 = .slice a ws.length c := by
        obtain ⟨a, cap, hv, _⟩ := RowIs.cell hw1
        exact ⟨a, cap, hv⟩
      obtain ⟨w1, hw1'⟩ : ∃ w1, w1 = wr.alloc (.cells #[.int .i64 bk, .slice a3 ws.length c3] 47) := ⟨_, rfl⟩
      have hb1 : Below wr.heap.size wr w1 := by rw [hw1']; exact belowA _ _
      have HK1 := hid (show w1.heap[wr.heap.size]? = some (.cells #[.int .i64 bk, .slice a3 ws.length c3] 47 (0, 0)) by rw [hw1']; exact heap_alloc_new _ _)
      have HS1 := hid (hst.below hb1)
      have HFR1 := hid (hfr.below hb1)
      have HWS1 := hid (hw1.ahead hb1)
      have HFW := hid hfw
      have HUE := hid hue
      have HW1 := hid hw1'
      have HSZ1 := hid (show w1.heap.size = wr.heap.size + 1 by rw [hw1']; simp)
      have HWE := hid hws
      have hi1 : (0 : Int) ≤ (i : Int) ∧ (i : Int) < (cs.length : Int) := by omega
      have hi2 : (i : Int) < (cs.length : Int) := by omega
      clear hw1 hfw hnext hws hbk hcm h1 hst hfr hFc hue hw1' hb1
      by_cases hj0 : 0 < ws.length
      · obtain ⟨g2, q2, t1, e2, ht1, p0, p1⟩ := wd_at HWS1.out hj0
        simp only [Value.slice.injEq] at e2
        obtain ⟨rfl, _, rfl⟩ := e2
        have hft := HFW.out _ (List.getElem_mem hj0)
        have hwx := wws_mem ws _ (List.getElem_mem hj0)
        have HNO0 := hid (nameOf_at HWE.out hj0)
        obtain ⟨x9, hx9⟩ : ∃ x, x = ws[0] := ⟨_, rfl⟩
        rw [← hx9] at ht1 hft hwx p0 HNO0
        obtain ⟨sp, ts⟩ := x9
        dsimp only at ht1 hft hwx p0
        obtain ⟨a5, c5, rfl⟩ : ∃ a c, t1 = .slice a ts.length c := by
          obtain ⟨a, cap, hv, _⟩ := RowIs.cell ht1
          exact ⟨a, cap, hv⟩
        have y0 : (wr.alloc (.cells #[.int .i64 bk, .slice (some ⟨g2, 0, none⟩) ws.length c3] 47)).cell? ⟨g2, 0, none⟩ = some (.bool sp) := by rw [← HW1.out]; exact p0
        have y1 : (wr.alloc (.cells #[.int .i64 bk, .slice (some ⟨g2, 0, none⟩) ws.length c3] 47)).cell? ⟨g2, 1, none⟩ = some (.slice a5 ts.length c5) := by rw [← HW1.out]; exact p1
        have hlit := hid (litP_fn (sp := sp) ht1)
        have hn0 : decide (0 < ws.length) = true := decide_eq_true (by omega)
        have hn1 : (0 : Int) < (ws.length : Int) := by omega
        clear p0 p1 ht1 hx9 hft hj0
        go_wp2_with fail
        rw [← HW1.out]
        (with_reducible refine hlit.out.mono ?_); rintro e w2 ⟨rfl, hb2⟩
        have hs2 := hb2.size
        have HS2 := hid (HS1.out.below hb2)
        have HFR2 := hid (HFR1.out.below hb2)
        have HK2 := hid ((hb2.block _ (by have := HSZ1.out; omega)).trans HK1.out)
        have HWS2 := hid (HWS1.out.ahead hb2)
        clear y0 y1 hn0 hn1 hlit hb2
        cases hlo : litOf ⟨sp, ts⟩ with
        | none =>
          rw [litVal, hlo]
          have HNO := hid (show nameOf cm = [] by rw [HNO0.out, hlo]; rfl)
          have HSA := hid (show St o b m k B w2 x (uniq Li (nameOf cm)) by rw [HNO.out]; exact HS2.out)
          have HFRA := HFR2
          have HKA := HK2
          have HWSA := HWS2
          clear hlo
          obtain ⟨wA, hwA⟩ : ∃ wA, wA = w2.alloc (.cells #[.int .i64 bk, .slice (some ⟨g2, 0, none⟩) ws.length c3] 47) := ⟨_, rfl⟩
          have hbA : Below w2.heap.size w2 wA := by rw [hwA]; exact belowA _ _
          have HCA := hid (show CmdsIs 33 49 47 n wA (fun _ => True) (.slice (some ⟨w2.heap.size, 0, none⟩) 1 1) [cm] by
            rw [hwA, show w2.heap.size = w2.heap.size from rfl]
            have h9 := HWSA.out.low
            rw [HWE.out] at h9 ⊢
            exact CmdsIs.single HBKE.out h9 (Nat.le_refl _))
          have HWA := hid hwA
          have HSB := hid (HSA.out.below hbA)
          have HFRB := hid (HFRA.out.below hbA)
          have hc0 : w2.cell? ⟨wr.heap.size, 0, none⟩ = some (.int .i64 bk) := by rw [Lib.cell_of_heap HKA.out]; rfl
          have hc1 : w2.cell? ⟨wr.heap.size, 1, none⟩ = some (.slice (some ⟨g2, 0, none⟩) ws.length c3) := by rw [Lib.cell_of_heap HKA.out]; rfl
          have hsc := hid (scriptsP_fn (m := kf) HCA.out (fun c hc => by rw [List.mem_singleton.1 hc]; rw [← HWE.out]; exact HFW.out) (by simp only [wcs]; rw [← HWE.out]; omega))
          have hbs := HFRB.out.size
          clear hwA hbA
          go_wp2_with fail
          rw [← HWA.out]
          (with_reducible refine hsc.out.mono ?_); rintro e w3 ⟨a6, c6, rfl, hr3, hb3⟩
          rw [show scrCs [cm] = scrWs ws by rw [HWE.out, scrCs, List.flatMap_cons, List.flatMap_nil, List.append_nil]] at hr3 ⊢
          have HS3 := hid (HSB.out.below hb3)
          have HFR3 := hid (HFRB.out.below hb3)
          have HSEP := hid (show ∀ g, (x : Value).ownBlock = some g → (Value.slice a6 (scrWs ws).length c6).ownBlock ≠ some g from fun g h1 h2 => by
            have h3 := (Row.lt HSB.out.row g h1).1
            have h4 := (Row.lt hr3 g h2).2
            omega)
          have HRS := hid hr3
          have HSS := hid (show ∀ s ∈ scrWs ws, s.length < kf from fun s hs => by
            obtain ⟨y, hy, hs⟩ := List.mem_flatMap.1 hs
            exact scrs_short _ (HFW.out y hy) s hs)
          have hcs3 := scrWs_count ws
          have hnl := nameOf_le cm
          have hjl := uniq_len (nameOf cm) Li
          obtain ⟨l3, hl3⟩ : ∃ l3, l3 = scrWs ws := ⟨_, rfl⟩
          rw [← hl3] at HRS HSEP HSS hcs3 hcp HUE ⊢
          obtain ⟨Lj, hLj⟩ : ∃ Lj, Lj = uniq Li (nameOf cm) := ⟨_, rfl⟩
          rw [← hLj] at HUE hjl
          have HS4 := hid (show St o b m k B w3 (x) Lj by rw [hLj]; exact HS3.out)
          clear hr3 hb3 hc0 hc1 hl3 hsc hLj HS3
          go_wp2
          go_loopg [49] l3.length (fun k3 mv wr3 => ∃ (j : Nat) (y : Value), mv = .int .i64 (j : Nat) ∧ St o b m k B wr3 y (uniq Lj ((l3.take j).flatMap f)) ∧ Fr o b u w y wr3 ∧ Row wA.heap.size wr3 (.slice a6 l3.length c6) l3 ∧ (∀ g, y.ownBlock = some g → (Value.slice a6 l3.length c6).ownBlock ≠ some g) ∧ j + k3 = l3.length)
          case atStart => exact ⟨0, _, rfl, by rw [List.take_zero]; exact HS4.out, HFR3.out, HRS.out, HSEP.out, by simp⟩
          case round =>
            obtain ⟨j, y, rfl, hst3, hfr3, hrs3, hsep3, hk3⟩ := hrel
            clear HS4 HFR3 HRS HSEP
            by_cases hm : j < l3.length
            · obtain ⟨g6, rfl, _, hxs⟩ := Row.at hrs3 hm
              have hshort := HSS.out _ (List.getElem_mem hm)
              have hft3 := flat_take f l3 hm
              have hfp3 := flat_part f l3 (j + 1)
              obtain ⟨s, hs⟩ : ∃ s, s = l3[j] := ⟨_, rfl⟩
              rw [← hs] at hxs hshort hft3
              rw [hft3, List.length_append] at hfp3
              have hu3 := uniq_len ((l3.take j).flatMap f) Lj
              have hue3 : uniq Lj ((l3.take (j + 1)).flatMap f) = uniq (uniq Lj ((l3.take j).flatMap f)) (f s) := by rw [hft3, uniq_app]
              generalize uniq Lj ((l3.take j).flatMap f) = Lm at hst3 hu3 hue3
              have HUE3 := hid hue3
              have HST := hid hst3
              have HFT := hid hfr3
              have HRS3 := hid hrs3
              have HSEP3 := hid hsep3
              have HQ := hid (tellP_fn (s := s) (by omega) wr)
              have HI := hid (fun w ok v u L => IH.out s hshort w ok v u L)
              have hm1 : (0 : Int) ≤ (j : Int) ∧ (j : Int) < (l3.length : Int) := by omega
              have hm2 : (j : Int) < (l3.length : Int) := by omega
              clear hs hft3 hst3 hfr3 hrs3 hsep3 hue3
              go_wp2_with fail
              (with_reducible refine HQ.out.mono ?_); intro e w5 h5
              obtain ⟨hb5, a7, n7, c7, at', z, rfl, hcs5⟩ := h5
              have HS5 := hid (HST.out.below hb5)
              have HFR5 := hid (HFT.out.below hb5)
              have HR5 := hid (Row.on HRS3.out hb5)
              have hkc : w5.cell? ⟨k, 0, none⟩ = some (.func (.func 45) #[] #[.pointer (some ⟨m, 0, none⟩), .pointer (some ⟨o, 0, none⟩), .pointer (some ⟨k, 0, none⟩)]) := by rw [Lib.cell_of_heap HS5.out.walk]; rfl
              have HI5 := hid (HI.out w5 _ _ y Lm hcs5 HS5.out (by omega))
              clear hb5 hcs5 hxs hm1 hm2
              go_wp2_with fail
              (with_reducible refine HI5.out.mono ?_); rintro e w7 ⟨rfl, y', hst7, hfr7⟩
              obtain ⟨hr7, hsep7⟩ := Row.fr HR5.out HS5.out hfr7 HSEP3.out
              have HS7 := hid hst7
              have HFR7 := hid (HFR5.out.trans hfr7)
              have HR7 := hid hr7
              have HSEP7 := hid hsep7
              clear hst7 hfr7 hr7 hsep7 hkc
              go_wp2
              go_roundg (l3.length - (j + 1))
              case measure => omega
              case rel => exact ⟨j + 1, y', by go_num, by rw [HUE3.out]; exact HS7.out, HFR7.out, HR7.out, HSEP7.out, by omega⟩
            · have ht : l3.take j = l3 := List.take_of_length_le (by omega)
              rw [ht, ← HUE.out] at hst3
              have HS2 := hid hst3
              have HF2 := hid hfr3
              clear hst3 hfr3 hrs3 hsep3
              go_wp2
              go_roundg (cs.length - (i + 1))
              case measure => omega
              case rel => exact ⟨i + 1, y, by go_num, HS2.out, HF2.out, by omega⟩
        | some s0 =>
          rw [litVal, hlo]
          have hsl := litOf_len hlo
          have HNO := hid (show nameOf cm = [s0] by rw [HNO0.out, hlo]; rfl)
          have hlk := HS2.out.mp.look s0 (by omega)
          have cm0 : w2.cell? ⟨m, 0, none⟩ = some (.map (some b)) := by rw [Lib.cell_of_heap HS2.out.met]; rfl
          clear hlo
          by_cases hmem : s0 ∈ Li
          · rw [decide_eq_true hmem] at hlk
            have HSA := hid (show St o b m k B w2 x (uniq Li (nameOf cm)) by rw [HNO.out, uniq, if_pos hmem]; exact HS2.out)
            have HFRA := HFR2
            have HKA := HK2
            have HWSA := HWS2
            clear hmem
            obtain ⟨wA, hwA⟩ : ∃ wA, wA = w2.alloc (.cells #[.int .i64 bk, .slice (some ⟨g2, 0, none⟩) ws.length c3] 47) := ⟨_, rfl⟩
            have hbA : Below w2.heap.size w2 wA := by rw [hwA]; exact belowA _ _
            have HCA := hid (show CmdsIs 33 49 47 n wA (fun _ => True) (.slice (some ⟨w2.heap.size, 0, none⟩) 1 1) [cm] by
              rw [hwA, show w2.heap.size = w2.heap.size from rfl]
              have h9 := HWSA.out.low
              rw [HWE.out] at h9 ⊢
              exact CmdsIs.single HBKE.out h9 (Nat.le_refl _))
            have HWA := hid hwA
            have HSB := hid (HSA.out.below hbA)
            have HFRB := hid (HFRA.out.below hbA)
            have hc0 : w2.cell? ⟨wr.heap.size, 0, none⟩ = some (.int .i64 bk) := by rw [Lib.cell_of_heap HKA.out]; rfl
            have hc1 : w2.cell? ⟨wr.heap.size, 1, none⟩ = some (.slice (some ⟨g2, 0, none⟩) ws.length c3) := by rw [Lib.cell_of_heap HKA.out]; rfl
            have hsc := hid (scriptsP_fn (m := kf) HCA.out (fun c hc => by rw [List.mem_singleton.1 hc]; rw [← HWE.out]; exact HFW.out) (by simp only [wcs]; rw [← HWE.out]; omega))
            have hbs := HFRB.out.size
            clear hwA hbA
            go_wp2_with fail
            rw [← HWA.out]
            (with_reducible refine hsc.out.mono ?_); rintro e w3 ⟨a6, c6, rfl, hr3, hb3⟩
            rw [show scrCs [cm] = scrWs ws by rw [HWE.out, scrCs, List.flatMap_cons, List.flatMap_nil, List.append_nil]] at hr3 ⊢
            have HS3 := hid (HSB.out.below hb3)
            have HFR3 := hid (HFRB.out.below hb3)
            have HSEP := hid (show ∀ g, (x : Value).ownBlock = some g → (Value.slice a6 (scrWs ws).length c6).ownBlock ≠ some g from fun g h1 h2 => by
              have h3 := (Row.lt HSB.out.row g h1).1
              have h4 := (Row.lt hr3 g h2).2
              omega)
            have HRS := hid hr3
            have HSS := hid (show ∀ s ∈ scrWs ws, s.length < kf from fun s hs => by
              obtain ⟨y, hy, hs⟩ := List.mem_flatMap.1 hs
              exact scrs_short _ (HFW.out y hy) s hs)
            have hcs3 := scrWs_count ws
            have hnl := nameOf_le cm
            have hjl := uniq_len (nameOf cm) Li
            obtain ⟨l3, hl3⟩ : ∃ l3, l3 = scrWs ws := ⟨_, rfl⟩
            rw [← hl3] at HRS HSEP HSS hcs3 hcp HUE ⊢
            obtain ⟨Lj, hLj⟩ : ∃ Lj, Lj = uniq Li (nameOf cm) := ⟨_, rfl⟩
            rw [← hLj] at HUE hjl
            have HS4 := hid (show St o b m k B w3 (x) Lj by rw [hLj]; exact HS3.out)
            clear hlk cm0 hr3 hb3 hc0 hc1 hl3 hsc hLj HS3
            go_wp2
            go_loopg [49] l3.length (fun k3 mv wr3 => ∃ (j : Nat) (y : Value), mv = .int .i64 (j : Nat) ∧ St o b m k B wr3 y (uniq Lj ((l3.take j).flatMap f)) ∧ Fr o b u w y wr3 ∧ Row wA.heap.size wr3 (.slice a6 l3.length c6) l3 ∧ (∀ g, y.ownBlock = some g → (Value.slice a6 l3.length c6).ownBlock ≠ some g) ∧ j + k3 = l3.length)
            case atStart => exact ⟨0, _, rfl, by rw [List.take_zero]; exact HS4.out, HFR3.out, HRS.out, HSEP.out, by simp⟩
            case round =>
              obtain ⟨j, y, rfl, hst3, hfr3, hrs3, hsep3, hk3⟩ := hrel
              clear HS4 HFR3 HRS HSEP
              by_cases hm : j < l3.length
              · obtain ⟨g6, rfl, _, hxs⟩ := Row.at hrs3 hm
                have hshort := HSS.out _ (List.getElem_mem hm)
                have hft3 := flat_take f l3 hm
                have hfp3 := flat_part f l3 (j + 1)
                obtain ⟨s, hs⟩ : ∃ s, s = l3[j] := ⟨_, rfl⟩
                rw [← hs] at hxs hshort hft3
                rw [hft3, List.length_append] at hfp3
                have hu3 := uniq_len ((l3.take j).flatMap f) Lj
                have hue3 : uniq Lj ((l3.take (j + 1)).flatMap f) = uniq (uniq Lj ((l3.take j).flatMap f)) (f s) := by rw [hft3, uniq_app]
                generalize uniq Lj ((l3.take j).flatMap f) = Lm at hst3 hu3 hue3
                have HUE3 := hid hue3
                have HST := hid hst3
                have HFT := hid hfr3
                have HRS3 := hid hrs3
                have HSEP3 := hid hsep3
                have HQ := hid (tellP_fn (s := s) (by omega) wr)
                have HI := hid (fun w ok v u L => IH.out s hshort w ok v u L)
                have hm1 : (0 : Int) ≤ (j : Int) ∧ (j : Int) < (l3.length : Int) := by omega
                have hm2 : (j : Int) < (l3.length : Int) := by omega
                clear hs hft3 hst3 hfr3 hrs3 hsep3 hue3
                go_wp2_with fail
                (with_reducible refine HQ.out.mono ?_); intro e w5 h5
                obtain ⟨hb5, a7, n7, c7, at', z, rfl, hcs5⟩ := h5
                have HS5 := hid (HST.out.below hb5)
                have HFR5 := hid (HFT.out.below hb5)
                have HR5 := hid (Row.on HRS3.out hb5)
                have hkc : w5.cell? ⟨k, 0, none⟩ = some (.func (.func 45) #[] #[.pointer (some ⟨m, 0, none⟩), .pointer (some ⟨o, 0, none⟩), .pointer (some ⟨k, 0, none⟩)]) := by rw [Lib.cell_of_heap HS5.out.walk]; rfl
                have HI5 := hid (HI.out w5 _ _ y Lm hcs5 HS5.out (by omega))
                clear hb5 hcs5 hxs hm1 hm2
                go_wp2_with fail
                (with_reducible refine HI5.out.mono ?_); rintro e w7 ⟨rfl, y', hst7, hfr7⟩
                obtain ⟨hr7, hsep7⟩ := Row.fr HR5.out HS5.out hfr7 HSEP3.out
                have HS7 := hid hst7
                have HFR7 := hid (HFR5.out.trans hfr7)
                have HR7 := hid hr7
                have HSEP7 := hid hsep7
                clear hst7 hfr7 hr7 hsep7 hkc
                go_wp2
                go_roundg (l3.length - (j + 1))
                case measure => omega
                case rel => exact ⟨j + 1, y', by go_num, by rw [HUE3.out]; exact HS7.out, HFR7.out, HR7.out, HSEP7.out, by omega⟩
              · have ht : l3.take j = l3 := List.take_of_length_le (by omega)
                rw [ht, ← HUE.out] at hst3
                have HS2 := hid hst3
                have HF2 := hid hfr3
                clear hst3 hfr3 hrs3 hsep3
                go_wp2
                go_roundg (cs.length - (i + 1))
                case measure => omega
                case rel => exact ⟨i + 1, y, by go_num, HS2.out, HF2.out, by omega⟩
          · rw [decide_eq_false hmem] at hlk
            have hnot : ∀ h : s0 ∈ Li, False := hmem
            obtain ⟨D, hown, hism, hat⟩ := HS2.out.mp
            have HISM := hid hism
            have HAT := hid hat
            have HNOT := hid hnot
            have hkey : keyOf Tryz.prog 9 (.string ⟨s0.toArray⟩) = some (.string s0) := by
              rw [WideMaps.keyOf_string_mk Tryz.underlying9 (by rw [Lib.size_mk]; unfold maxLen; omega)]
            have hnm1 := nameOf_le cm
            clear hmem hism hat hnot
            go_wp2_with (at_mapUpdate; refine wpList_mapUpdate_own _ rfl (.tmp 39) (.tmp 40) (.const (.bool true)) 86 rfl 9 4 (Maps.string_keyed Tryz.underlying9) Tryz.underlying86 (plainElem Tryz.prog 4) b Li.length D rfl hown (by unfold maxLen; omega) (.string ⟨s0.toArray⟩) (.bool true) (.string s0) rfl rfl hkey (.lit (.bool true)) [] (plainElem_bool Tryz.underlying4 true) ?_)
            intro w3 hown3 hg3
            obtain ⟨d1, d2, d3, d4, d5, d6, d7, d8, d9⟩ := HS2.out.dis
            have hBs := HS2.out.size
            have hs3 := hg3.size
            have HLT := hid HS2.out.row.lt
            have HR3 := hid (show Row B w3 x Li from ownsRow_heap HS2.out.row fun g hg => hg3.block g (HLT.out g hg).1 fun e => by
              have := (HLT.out g hg).2
              have := Option.some.inj e
              omega)
            have ho3 : w3.heap[o]? = some (.cells #[x] 42 (0, 0)) := (hg3.block o (by omega) fun e => d5 (Option.some.inj e)).trans HS2.out.out
            have co3 : w3.cell? ⟨o, 0, none⟩ = some x := by rw [Lib.cell_of_heap ho3]; rfl
            have HO3 := hid ho3
            have HG3 := hid hg3
            have HOWN3 := hid hown3
            clear hlk cm0 ho3 hg3 hown3 hown
            go_wp2_with (at_builtin; refine app_one (w := w3) rfl rfl (.tmp 41) (.tmp 43) rfl B _ Li s0 rfl HR3.out rfl (by omega) (by omega) ?_)
            intro v4 w4 hr4 hg4 hv4
            obtain ⟨a9, c9, e9⟩ := Row.shape hr4
            obtain ⟨n9, hn9⟩ : ∃ n9, n9 = (Li ++ [s0]).length := ⟨_, rfl⟩
            rw [← hn9] at e9
            subst e9
            clear hn9
            have ho4 : w4.heap[o]? = some (.cells #[x] 42 (0, 0)) := (hg4.block o (by omega) fun e => by
              have := (HLT.out o e.symm).2
              omega).trans HO3.out
            have co4 : w4.cell? ⟨o, 0, none⟩ = some x := by rw [Lib.cell_of_heap ho4]; rfl
            have fo4 : w4.frozen? ⟨o, 0, none⟩ = false := Lib.frozen_of_heap ho4 0
            have HG4 := hid hg4
            have HR4 := hid hr4
            have HV4 := hid hv4
            clear co3 ho4 hr4 hg4 hv4 d1 d2 d3 d4 d5 d6 d7 d8 d9 hBs hs3
            go_upto_region 8 with fail
            refine at_world fun W5 hW5 => ?_
            obtain ⟨hs5, hf5⟩ := HS2.out.add HISM.out HAT.out HOWN3.out HG3.out HR4.out HG4.out HV4.out
            rw [← hW5] at hs5 hf5
            have HSA := hid (show St o b m k B W5 (.slice a9 n9 c9) (uniq Li (nameOf cm)) by rw [HNO.out, uniq, if_neg HNOT.out]; exact hs5)
            have HFRA := hid (HFR2.out.trans hf5)
            have HKA := hid (HS2.out.fr hf5 (by decide) (by decide) HK2.out)
            have HWSA := hid (HWS2.out.fr HS2.out hf5)
            clear hs5 hf5 hW5 co4 fo4
            obtain ⟨wA, hwA⟩ : ∃ wA, wA = W5.alloc (.cells #[.int .i64 bk, .slice (some ⟨g2, 0, none⟩) ws.length c3] 47) := ⟨_, rfl⟩
            have hbA : Below W5.heap.size W5 wA := by rw [hwA]; exact belowA _ _
            have HCA := hid (show CmdsIs 33 49 47 n wA (fun _ => True) (.slice (some ⟨W5.heap.size, 0, none⟩) 1 1) [cm] by
              rw [hwA, show W5.heap.size = W5.heap.size from rfl]
              have h9 := HWSA.out.low
              rw [HWE.out] at h9 ⊢
              exact CmdsIs.single HBKE.out h9 (Nat.le_refl _))
            have HWA := hid hwA
            have HSB := hid (HSA.out.below hbA)
            have HFRB := hid (HFRA.out.below hbA)
            have hc0 : W5.cell? ⟨wr.heap.size, 0, none⟩ = some (.int .i64 bk) := by rw [Lib.cell_of_heap HKA.out]; rfl
            have hc1 : W5.cell? ⟨wr.heap.size, 1, none⟩ = some (.slice (some ⟨g2, 0, none⟩) ws.length c3) := by rw [Lib.cell_of_heap HKA.out]; rfl
            have hsc := hid (scriptsP_fn (m := kf) HCA.out (fun c hc => by rw [List.mem_singleton.1 hc]; rw [← HWE.out]; exact HFW.out) (by simp only [wcs]; rw [← HWE.out]; omega))
            have hbs := HFRB.out.size
            clear hwA hbA
            go_wp2_with fail
            rw [← HWA.out]
            (with_reducible refine hsc.out.mono ?_); rintro e w3 ⟨a6, c6, rfl, hr3, hb3⟩
            rw [show scrCs [cm] = scrWs ws by rw [HWE.out, scrCs, List.flatMap_cons, List.flatMap_nil, List.append_nil]] at hr3 ⊢
            have HS3 := hid (HSB.out.below hb3)
            have HFR3 := hid (HFRB.out.below hb3)
            have HSEP := hid (show ∀ g, (.slice a9 n9 c9 : Value).ownBlock = some g → (Value.slice a6 (scrWs ws).length c6).ownBlock ≠ some g from fun g h1 h2 => by
              have h3 := (Row.lt HSB.out.row g h1).1
              have h4 := (Row.lt hr3 g h2).2
              omega)
            have HRS := hid hr3
            have HSS := hid (show ∀ s ∈ scrWs ws, s.length < kf from fun s hs => by
              obtain ⟨y, hy, hs⟩ := List.mem_flatMap.1 hs
              exact scrs_short _ (HFW.out y hy) s hs)
            have hcs3 := scrWs_count ws
            have hnl := nameOf_le cm
            have hjl := uniq_len (nameOf cm) Li
            obtain ⟨l3, hl3⟩ : ∃ l3, l3 = scrWs ws := ⟨_, rfl⟩
            rw [← hl3] at HRS HSEP HSS hcs3 hcp HUE ⊢
            obtain ⟨Lj, hLj⟩ : ∃ Lj, Lj = uniq Li (nameOf cm) := ⟨_, rfl⟩
            rw [← hLj] at HUE hjl
            have HS4 := hid (show St o b m k B w3 (.slice a9 n9 c9) Lj by rw [hLj]; exact HS3.out)
            clear hr3 hb3 hc0 hc1 hl3 hsc hLj HS3
            go_wp2
            go_loopg [49] l3.length (fun k3 mv wr3 => ∃ (j : Nat) (y : Value), mv = .int .i64 (j : Nat) ∧ St o b m k B wr3 y (uniq Lj ((l3.take j).flatMap f)) ∧ Fr o b u w y wr3 ∧ Row wA.heap.size wr3 (.slice a6 l3.length c6) l3 ∧ (∀ g, y.ownBlock = some g → (Value.slice a6 l3.length c6).ownBlock ≠ some g) ∧ j + k3 = l3.length)
            case atStart => exact ⟨0, _, rfl, by rw [List.take_zero]; exact HS4.out, HFR3.out, HRS.out, HSEP.out, by simp⟩
            case round =>
              obtain ⟨j, y, rfl, hst3, hfr3, hrs3, hsep3, hk3⟩ := hrel
              clear HS4 HFR3 HRS HSEP
              by_cases hm : j < l3.length
              · obtain ⟨g6, rfl, _, hxs⟩ := Row.at hrs3 hm
                have hshort := HSS.out _ (List.getElem_mem hm)
                have hft3 := flat_take f l3 hm
                have hfp3 := flat_part f l3 (j + 1)
                obtain ⟨s, hs⟩ : ∃ s, s = l3[j] := ⟨_, rfl⟩
                rw [← hs] at hxs hshort hft3
                rw [hft3, List.length_append] at hfp3
                have hu3 := uniq_len ((l3.take j).flatMap f) Lj
                have hue3 : uniq Lj ((l3.take (j + 1)).flatMap f) = uniq (uniq Lj ((l3.take j).flatMap f)) (f s) := by rw [hft3, uniq_app]
                generalize uniq Lj ((l3.take j).flatMap f) = Lm at hst3 hu3 hue3
                have HUE3 := hid hue3
                have HST := hid hst3
                have HFT := hid hfr3
                have HRS3 := hid hrs3
                have HSEP3 := hid hsep3
                have HQ := hid (tellP_fn (s := s) (by omega) wr)
                have HI := hid (fun w ok v u L => IH.out s hshort w ok v u L)
                have hm1 : (0 : Int) ≤ (j : Int) ∧ (j : Int) < (l3.length : Int) := by omega
                have hm2 : (j : Int) < (l3.length : Int) := by omega
                clear hs hft3 hst3 hfr3 hrs3 hsep3 hue3
                go_wp2_with fail
                (with_reducible refine HQ.out.mono ?_); intro e w5 h5
                obtain ⟨hb5, a7, n7, c7, at', z, rfl, hcs5⟩ := h5
                have HS5 := hid (HST.out.below hb5)
                have HFR5 := hid (HFT.out.below hb5)
                have HR5 := hid (Row.on HRS3.out hb5)
                have hkc : w5.cell? ⟨k, 0, none⟩ = some (.func (.func 45) #[] #[.pointer (some ⟨m, 0, none⟩), .pointer (some ⟨o, 0, none⟩), .pointer (some ⟨k, 0, none⟩)]) := by rw [Lib.cell_of_heap HS5.out.walk]; rfl
                have HI5 := hid (HI.out w5 _ _ y Lm hcs5 HS5.out (by omega))
                clear hb5 hcs5 hxs hm1 hm2
                go_wp2_with fail
                (with_reducible refine HI5.out.mono ?_); rintro e w7 ⟨rfl, y', hst7, hfr7⟩
                obtain ⟨hr7, hsep7⟩ := Row.fr HR5.out HS5.out hfr7 HSEP3.out
                have HS7 := hid hst7
                have HFR7 := hid (HFR5.out.trans hfr7)
                have HR7 := hid hr7
                have HSEP7 := hid hsep7
                clear hst7 hfr7 hr7 hsep7 hkc
                go_wp2
                go_roundg (l3.length - (j + 1))
                case measure => omega
                case rel => exact ⟨j + 1, y', by go_num, by rw [HUE3.out]; exact HS7.out, HFR7.out, HR7.out, HSEP7.out, by omega⟩
              · have ht : l3.take j = l3 := List.take_of_length_le (by omega)
                rw [ht, ← HUE.out] at hst3
                have HS2 := hid hst3
                have HF2 := hid hfr3
                clear hst3 hfr3 hrs3 hsep3
                go_wp2
                go_roundg (cs.length - (i + 1))
                case measure => omega
                case rel => exact ⟨i + 1, y, by go_num, HS2.out, HF2.out, by omega⟩
      · have hl0 : ws.length = 0 := by omega
        have HNO := hid (show nameOf cm = [] by
          have h8 : cm.words = [] := by rw [← HWE.out]; exact List.eq_nil_of_length_eq_zero hl0
          unfold nameOf
          rw [h8])
        have HSA := hid (show St o b m k B w1 x (uniq Li (nameOf cm)) by rw [HNO.out]; exact HS1.out)
        have HFRA := HFR1
        have HKA := HK1
        have HWSA := HWS1
        have hn0 : decide (0 < ws.length) = false := decide_eq_false (by omega)
        clear hl0 hj0
        obtain ⟨wA, hwA⟩ : ∃ wA, wA = w1.alloc (.cells #[.int .i64 bk, .slice a3 ws.length c3] 47) := ⟨_, rfl⟩
        have hbA : Below w1.heap.size w1 wA := by rw [hwA]; exact belowA _ _
        have HCA := hid (show CmdsIs 33 49 47 n wA (fun _ => True) (.slice (some ⟨wr.heap.size + 1, 0, none⟩) 1 1) [cm] by
          rw [hwA, show wr.heap.size + 1 = w1.heap.size from HSZ1.out.symm]
          have h9 := HWSA.out.low
          rw [HWE.out] at h9 ⊢
          exact CmdsIs.single HBKE.out h9 (Nat.le_refl _))
        have HWA := hid hwA
        have HSB := hid (HSA.out.below hbA)
        have HFRB := hid (HFRA.out.below hbA)
        have hc0 : w1.cell? ⟨wr.heap.size, 0, none⟩ = some (.int .i64 bk) := by rw [Lib.cell_of_heap HKA.out]; rfl
        have hc1 : w1.cell? ⟨wr.heap.size, 1, none⟩ = some (.slice a3 ws.length c3) := by rw [Lib.cell_of_heap HKA.out]; rfl
        have hsc := hid (scriptsP_fn (m := kf) HCA.out (fun c hc => by rw [List.mem_singleton.1 hc]; rw [← HWE.out]; exact HFW.out) (by simp only [wcs]; rw [← HWE.out]; omega))
        have hbs := HFRB.out.size
        clear hwA hbA
        go_wp2_with fail
        rw [← HW1.out, ← HWA.out]
        (with_reducible refine hsc.out.mono ?_); rintro e w3 ⟨a6, c6, rfl, hr3, hb3⟩
        rw [show scrCs [cm] = scrWs ws by rw [HWE.out, scrCs, List.flatMap_cons, List.flatMap_nil, List.append_nil]] at hr3 ⊢
        have HS3 := hid (HSB.out.below hb3)
        have HFR3 := hid (HFRB.out.below hb3)
        have HSEP := hid (show ∀ g, (x : Value).ownBlock = some g → (Value.slice a6 (scrWs ws).length c6).ownBlock ≠ some g from fun g h1 h2 => by
          have h3 := (Row.lt HSB.out.row g h1).1
          have h4 := (Row.lt hr3 g h2).2
          omega)
        have HRS := hid hr3
        have HSS := hid (show ∀ s ∈ scrWs ws, s.length < kf from fun s hs => by
          obtain ⟨y, hy, hs⟩ := List.mem_flatMap.1 hs
          exact scrs_short _ (HFW.out y hy) s hs)
        have hcs3 := scrWs_count ws
        have hnl := nameOf_le cm
        have hjl := uniq_len (nameOf cm) Li
        obtain ⟨l3, hl3⟩ : ∃ l3, l3 = scrWs ws := ⟨_, rfl⟩
        rw [← hl3] at HRS HSEP HSS hcs3 hcp HUE ⊢
        obtain ⟨Lj, hLj⟩ : ∃ Lj, Lj = uniq Li (nameOf cm) := ⟨_, rfl⟩
        rw [← hLj] at HUE hjl
        have HS4 := hid (show St o b m k B w3 (x) Lj by rw [hLj]; exact HS3.out)
        clear hn0 hr3 hb3 hc0 hc1 hl3 hsc hLj HS3
        go_wp2
        go_loopg [49] l3.length (fun k3 mv wr3 => ∃ (j : Nat) (y : Value), mv = .int .i64 (j : Nat) ∧ St o b m k B wr3 y (uniq Lj ((l3.take j).flatMap f)) ∧ Fr o b u w y wr3 ∧ Row wA.heap.size wr3 (.slice a6 l3.length c6) l3 ∧ (∀ g, y.ownBlock = some g → (Value.slice a6 l3.length c6).ownBlock ≠ some g) ∧ j + k3 = l3.length)
        case atStart => exact ⟨0, _, rfl, by rw [List.take_zero]; exact HS4.out, HFR3.out, HRS.out, HSEP.out, by simp⟩
        case round =>
          obtain ⟨j, y, rfl, hst3, hfr3, hrs3, hsep3, hk3⟩ := hrel
          clear HS4 HFR3 HRS HSEP
          by_cases hm : j < l3.length
          · obtain ⟨g6, rfl, _, hxs⟩ := Row.at hrs3 hm
            have hshort := HSS.out _ (List.getElem_mem hm)
            have hft3 := flat_take f l3 hm
            have hfp3 := flat_part f l3 (j + 1)
            obtain ⟨s, hs⟩ : ∃ s, s = l3[j] := ⟨_, rfl⟩
            rw [← hs] at hxs hshort hft3
            rw [hft3, List.length_append] at hfp3
            have hu3 := uniq_len ((l3.take j).flatMap f) Lj
            have hue3 : uniq Lj ((l3.take (j + 1)).flatMap f) = uniq (uniq Lj ((l3.take j).flatMap f)) (f s) := by rw [hft3, uniq_app]
            generalize uniq Lj ((l3.take j).flatMap f) = Lm at hst3 hu3 hue3
            have HUE3 := hid hue3
            have HST := hid hst3
            have HFT := hid hfr3
            have HRS3 := hid hrs3
            have HSEP3 := hid hsep3
            have HQ := hid (tellP_fn (s := s) (by omega) wr)
            have HI := hid (fun w ok v u L => IH.out s hshort w ok v u L)
            have hm1 : (0 : Int) ≤ (j : Int) ∧ (j : Int) < (l3.length : Int) := by omega
            have hm2 : (j : Int) < (l3.length : Int) := by omega
            clear hs hft3 hst3 hfr3 hrs3 hsep3 hue3
            go_wp2_with fail
            (with_reducible refine HQ.out.mono ?_); intro e w5 h5
            obtain ⟨hb5, a7, n7, c7, at', z, rfl, hcs5⟩ := h5
            have HS5 := hid (HST.out.below hb5)
            have HFR5 := hid (HFT.out.below hb5)
            have HR5 := hid (Row.on HRS3.out hb5)
            have hkc : w5.cell? ⟨k, 0, none⟩ = some (.func (.func 45) #[] #[.pointer (some ⟨m, 0, none⟩), .pointer (some ⟨o, 0, none⟩), .pointer (some ⟨k, 0, none⟩)]) := by rw [Lib.cell_of_heap HS5.out.walk]; rfl
            have HI5 := hid (HI.out w5 _ _ y Lm hcs5 HS5.out (by omega))
            clear hb5 hcs5 hxs hm1 hm2
            go_wp2_with fail
            (with_reducible refine HI5.out.mono ?_); rintro e w7 ⟨rfl, y', hst7, hfr7⟩
            obtain ⟨hr7, hsep7⟩ := Row.fr HR5.out HS5.out hfr7 HSEP3.out
            have HS7 := hid hst7
            have HFR7 := hid (HFR5.out.trans hfr7)
            have HR7 := hid hr7
            have HSEP7 := hid hsep7
            clear hst7 hfr7 hr7 hsep7 hkc
            go_wp2
            go_roundg (l3.length - (j + 1))
            case measure => omega
            case rel => exact ⟨j + 1, y', by go_num, by rw [HUE3.out]; exact HS7.out, HFR7.out, HR7.out, HSEP7.out, by omega⟩
          · have ht : l3.take j = l3 := List.take_of_length_le (by omega)
            rw [ht, ← HUE.out] at hst3
            have HS2 := hid hst3
            have HF2 := hid hfr3
            clear hst3 hfr3 hrs3 hsep3
            go_wp2
            go_roundg (cs.length - (i + 1))
            case measure => omega
            case rel => exact ⟨i + 1, y, by go_num, HS2.out, HF2.out, by omega⟩
    · have ht : cs.take i = cs := List.take_of_length_le (by omega)
      rw [ht] at hst
      go_wp2
      go_end0
      exact ⟨rfl, x, hst, hfr⟩
theorem names1_fn : ∀ (k : Nat) (cs : List Cmd) {n : Nat} {w : World} {ok : Nat → Prop} {v : Value} {o b m kk B : Nat} {u : Value} {L : List Str}, CmdsIs 33 49 47 n w ok v cs → cfit k cs → k ≤ 100000 → wcs cs ≤ 1000000 →
    St o b m kk B w u L → L.length + (namesN k cs).length ≤ 1000000 →
    Calls Tryz.prog 45 #[v, .pointer (some ⟨m, 0, none⟩), .pointer (some ⟨o, 0, none⟩), .pointer (some ⟨kk, 0, none⟩)] w fun e w' => e = .returned (.tuple #[]) ∧ ∃ u', St o b m kk B w' u' (uniq L (namesN k cs)) ∧ Fr o b u w u' w' := by
  intro k
  induction k with
  | zero =>
    intro cs n w ok v o b m kk B u L hC hf hk1 hw hS hL
    have he : (cs.flatMap fun c => nameOf c ++ (scrWs c.words).flatMap fun _ => ([] : List Str)) = namesN 0 cs := by rw [namesN]; congr 1; funext c; simp
    have h := names1_step (fun _ => []) hC hf hk1 hw hS (by rw [he]; exact hL) (fun s hs => absurd hs (by omega))
    rw [he] at h
    exact h
  | succ k ih =>
    intro cs n w ok v o b m kk B u L hC hf hk1 hw hS hL
    rw [namesN] at hL ⊢
    refine names1_step (fun s => namesN k (cmdsOf s)) hC hf hk1 hw hS hL fun s hs w' ok' v' u' L' hv' hS' hL' => ?_
    obtain ⟨f1, f2, f3⟩ := cmdsOf_f s
    exact ih (cmdsOf s) hv' (fun c hc x hx => fits_mono (by omega) _ (f1 c hc x hx)) (by omega) (by omega) hS' hL'
set_option maxRecDepth 100000 in
set_option maxHeartbeats 1000000 in
theorem namesP_fn {k n : Nat} {w : World} {ok : Nat → Prop} {v : Value} {cs : List Cmd} (hC : CmdsIs 33 49 47 n w ok v cs) (hf : cfit k cs) (hk1 : k ≤ 100000) (hwt : wcs cs ≤ 1000000) (hcs : csum cs ≤ 1000000) :
    Calls Tryz.prog 19 #[v] w fun e w' => ∃ u, e = .returned u ∧ Row w.heap.size w' u (uniq [] (namesN k cs)) ∧ Below w.heap.size w w' := by
  have hmm := @run_makeMap Tryz.prog
  have hmf : ∀ (fn : Fn) (first cap : Array Value) (w : World), (Instr.makeFunc fn first cap).run Tryz.prog w = .ok (.func fn first cap) w := fun _ _ _ _ => rfl
  have HC := hid hC
  have HF := hid hf
  clear hC hf
  obtain ⟨N, hN⟩ : ∃ N, N = w.heap.size := ⟨_, rfl⟩
  obtain ⟨W, hW⟩ : ∃ W, W = (((w.alloc (.cells #[.slice none 0 0] 42)).alloc (.map #[] 0)).alloc (.cells #[.map (some (w.heap.size + 1))] 86)).alloc (.cells #[.func (.func 45) #[] #[.pointer (some ⟨w.heap.size + 1 + 1, 0, none⟩), .pointer (some ⟨w.heap.size, 0, none⟩), .pointer (some ⟨w.heap.size + 1 + 1 + 1, 0, none⟩)]] 87) := ⟨_, rfl⟩
  have hs : W.heap.size = N + 1 + 1 + 1 + 1 := by rw [hW, hN]; simp
  have h0 : W.heap[N]? = some (.cells #[.slice none 0 0] 42 (0, 0)) := by rw [hW, hN, Below.heap_alloc _ _ _ (by simp; omega), Below.heap_alloc _ _ _ (by simp; omega), Below.heap_alloc _ _ _ (by simp)]; exact heap_alloc_new _ _
  have h2 : W.heap[N + 1 + 1]? = some (.cells #[.map (some (N + 1))] 86 (0, 0)) := by
    rw [hW, Below.heap_alloc _ _ _ (by simp; omega), hN]
    have := heap_alloc_new ((w.alloc (.cells #[.slice none 0 0] 42)).alloc (.map #[] 0)) (.cells #[.map (some (w.heap.size + 1))] 86)
    simpa using this
  have h3 : W.heap[N + 1 + 1 + 1]? = some (.cells #[.func (.func 45) #[] #[.pointer (some ⟨N + 1 + 1, 0, none⟩), .pointer (some ⟨N, 0, none⟩), .pointer (some ⟨N + 1 + 1 + 1, 0, none⟩)]] 87 (0, 0)) := by
    rw [hW, hN]
    have := heap_alloc_new (((w.alloc (.cells #[.slice none 0 0] 42)).alloc (.map #[] 0)).alloc (.cells #[.map (some (w.heap.size + 1))] 86)) (.cells #[.func (.func 45) #[] #[.pointer (some ⟨w.heap.size + 1 + 1, 0, none⟩), .pointer (some ⟨w.heap.size, 0, none⟩), .pointer (some ⟨w.heap.size + 1 + 1 + 1, 0, none⟩)]] 87)
    simpa using this
  have hm : MetIs W (N + 1) [] := by
    have h9 := World.ownsMap_made (H := Unit) (w.alloc (.cells #[.slice none 0 0] 42)) Tryz.prog 9 (plainElem Tryz.prog 4)
    have h8 := (h9.alloc (.cells #[.map (some (w.heap.size + 1))] 86)).alloc (.cells #[.func (.func 45) #[] #[.pointer (some ⟨w.heap.size + 1 + 1, 0, none⟩), .pointer (some ⟨w.heap.size, 0, none⟩), .pointer (some ⟨w.heap.size + 1 + 1 + 1, 0, none⟩)]] 87)
    rw [← hW] at h8
    refine ⟨_, ?_, Maps.isMap_empty, fun s => rfl⟩
    rw [hN]
    simpa using h8
  have hb : Below w.heap.size w W := by rw [hW]; exact ((((Below.refl _ _).alloc (Nat.le_refl _) _).alloc (by simp) _).alloc (by simp; omega) _).alloc (by simp; omega) _
  have hst : St N (N + 1) (N + 1 + 1) (N + 1 + 1 + 1) (N + 1 + 1 + 1 + 1) W (.slice none 0 0) [] := ⟨⟨by omega, by omega, by omega, by omega, by omega, by omega, by omega, by omega, by omega⟩, by omega, h0, Row.nil _ _, hm, h2, h3⟩
  have hll := namesN_le k cs
  have HI := hid (names1_fn k cs (HC.out.ahead hb) HF.out hk1 hwt hst (by simp only [List.length_nil]; omega))
  have HW := hid hW
  have HN := hid hN
  have HB := hid hb
  have HS := hid hs
  clear hW hN hb hm h0 h2 h3 hs hst
  go_enter Tryz.func19, Tryz.ntmps19
  go_wp2_with fail
  rw [← HW.out, ← HN.out]
  (with_reducible refine HI.out.mono ?_); rintro e W7 ⟨rfl, u7, hst7, hfr7⟩
  have c7 : W7.cell? ⟨N, 0, none⟩ = some u7 := by rw [Lib.cell_of_heap hst7.out]; rfl
  have HR7 := hid hst7.row
  have HB7 := hid (HB.out.trans (hfr7.low (by rw [← HN.out]; exact Nat.le_refl _) (by rw [← HN.out]; omega) (by rw [HS.out, ← HN.out]; omega) (fun g h => by simp [Value.ownBlock] at h)))
  obtain ⟨a7, p7, e7⟩ := HR7.out.shape
  clear hst7 hfr7
  subst e7
  go_wp2
  go_ret
  exact ⟨_, rfl, HR7.out.mono (by rw [← HN.out]; omega), HB7.out⟩
end Go.Proofs.YtkgpmkkodpjdfaaGreatDoor.Pz
