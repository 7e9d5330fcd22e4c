/-
  Part K3 of the proofs of this seat: contracts of functions and plain facts, merged from 7 texts.
-/
import Derived.Maps.OwnOps
import Derived.Maps.OwnSet
import Derived.Maps.Views
import Derived.Laws.OwnMore
import Derived.Deep.AppendLies
import Derived.Maps.OwnIn
import Derived.Test.YtabhkoklcjhlpaaGreatDoorK0
import Derived.Test.YtabhkoklcjhlpaaGreatDoorK1
import Derived.Test.YtabhkoklcjhlpaaGreatDoorK2
/-
  dict: what a dictionary's map tells.
-/
namespace Go.Proofs.YtabhkoklcjhlpaaGreatDoor.Pz
open Go.RowKit
theorem Tryz.zeroI (w : World) : (zeroValue 3).run Tryz.prog w = .ok (.int .i64 0) w := by kernel_rfl
/-- where a text stands first -/
def idx : List Str → Str → Option Nat
  | [], _ => none
  | x :: l, s => if x = s then some 0 else (idx l s).map (· + 1)
theorem idx_lt : ∀ (l : List Str) (s : Str) (i : Nat), idx l s = some i → i < l.length
  | [], _, _, h => by cases h
  | x :: l, s, i, h => by
    rw [idx] at h
    split at h
    · simp only [Option.some.injEq] at h
      subst h
      simp
    · obtain ⟨j, hj, rfl⟩ := Option.map_eq_some_iff.1 h
      have := idx_lt l s j hj
      simp
      omega
theorem idx_snoc : ∀ (l : List Str) (k s : Str), idx l k = none → idx (l ++ [k]) s = if s = k then some l.length else idx l s
  | [], k, s, _ => by
    by_cases h : s = k
    · subst h
      simp [idx]
    · rw [if_neg h]
      simp [idx, Ne.symm h]
  | x :: l, k, s, h => by
    rw [idx] at h
    split at h
    · cases h
    · rename_i hx
      have h2 : idx l k = none := by simpa using h
      have h3 := idx_snoc l k s h2
      rw [List.cons_append, idx, idx, h3]
      by_cases hs : s = k
      · subst hs
        simp [hx]
      · rw [if_neg hs, if_neg hs]
/-- the block b is the map from the keys to their places -/
def KeyIs (w : World) (b : Nat) (Ks : List Str) : Prop :=
  ∃ D : DataW Unit, w.ownsMap Tryz.prog 9 (plainElem Tryz.prog 3) b Ks.length D ∧ Maps.IsMap D ∧ ∀ (s : Str) (zd : DataW Unit), D.atKey (.string s) zd = match idx Ks s with | some i => .lit (.int .i64 (i : Nat)) | none => zd
def lookAns (Ks : List Str) (s : Str) : Value :=
  match idx Ks s with
  | some i => .tuple #[.int .i64 (i : Nat), .bool true]
  | none => .tuple #[.int .i64 0, .bool false]
theorem KeyIs.look {w : World} {b : Nat} {Ks : List Str} (h : KeyIs w b Ks) (s : Str) (hs : s.length ≤ 1000000) : (Instr.lookup 190 (.map (some b)) (.string ⟨s.toArray⟩) true).run Tryz.prog w = .ok (lookAns Ks s) w := by
  obtain ⟨D, ⟨es, clock, hb, F, _, rfl⟩, _, hat⟩ := h
  have hk : keyOf Tryz.prog 9 (.string ⟨s.toArray⟩) = some (.string s) := by
    rw [WideMaps.keyOf_string_mk Tryz.underlying9 (by rw [Lib.size_mk]; unfold maxLen; omega)]
  unfold lookAns
  rcases Maps.fit_look true (Maps.string_keyed Tryz.underlying9) Tryz.underlying190 (Tryz.zeroI w) hb F hk with ⟨hrun, _, h2⟩ | ⟨e0, y, _, _, hrun, hR, h2, _⟩
  · rw [hrun]
    cases hi : idx Ks s with
    | none => rfl
    | some i =>
      have h3 := hat s (.lit (.bool true))
      rw [h2, hi] at h3
      cases h3
  · rw [hrun]
    cases hi : idx Ks s with
    | none =>
      have h3 := hat s (.lit (.bool true))
      have h4 := hat s (.lit (.bool false))
      rw [h2, hi] at h3 h4
      dsimp only at h3 h4
      rw [h3] at h4
      cases h4
    | some i =>
      have h3 := hat s (.lit (.bool true))
      rw [h2, hi] at h3
      dsimp only at h3
      obtain ⟨a, hv, hz, _⟩ := plainElem_int_inv Tryz.underlying3 hR
      rw [hz] at h3
      simp only [DataW.lit.injEq, Lit.int.injEq, true_and] at h3
      rw [hv, h3]
      rfl
theorem KeyIs.of {w w' : World} {b : Nat} {Ks : List Str} (h : KeyIs w b Ks) (hb : w'.heap[b]? = w.heap[b]?) : KeyIs w' b Ks := by
  obtain ⟨D, ⟨es, clock, h1, h2⟩, h3⟩ := h
  exact ⟨D, ⟨es, clock, hb.trans h1, h2⟩, h3⟩
theorem KeyIs.obj {w : World} {b : Nat} {Ks : List Str} (h : KeyIs w b Ks) : ∃ es clock, w.heap[b]? = some (.map es clock) := by
  obtain ⟨D, ⟨es, clock, h1, h2⟩, h3⟩ := h
  exact ⟨es, clock, h1⟩
theorem KeyIs.put {w : World} {b : Nat} {Ks : List Str} {D : DataW Unit} {s : Str} (hm : Maps.IsMap D) (hat : ∀ (s : Str) (zd : DataW Unit), D.atKey (.string s) zd = match idx Ks s with | some i => .lit (.int .i64 (i : Nat)) | none => zd) (hs : idx Ks s = none)
    (ho : w.ownsMap Tryz.prog 9 (plainElem Tryz.prog 3) b (Ks.length + 1) (D.put (.string s) (.lit (.int .i64 (Ks.length : Nat))))) : KeyIs w b (Ks ++ [s]) := by
  refine ⟨_, by rw [List.length_append]; exact ho, hm.put _ _, fun t zd => ?_⟩
  rw [idx_snoc Ks s t hs]
  by_cases h : t = s
  · subst h
    rw [Maps.atKey_put_same hm (show WideAt.IsKeyLit (.string t) from trivial), if_pos rfl]
  · rw [Maps.atKey_put_other (by simpa using h), hat t, if_neg h]
theorem KeyIs.made (w : World) (o : Obj) : KeyIs ((w.alloc (.map #[] 0)).alloc o) w.heap.size [] :=
  ⟨_, (World.ownsMap_made (H := Unit) w Tryz.prog 9 (plainElem Tryz.prog 3)).alloc o, Maps.isMap_empty, fun _ _ => rfl⟩
end Go.Proofs.YtabhkoklcjhlpaaGreatDoor.Pz
/-
  dict: a book that is changed, none and set.
-/
namespace Go.Proofs.YtabhkoklcjhlpaaGreatDoor.Pz
open Go.RowKit
structure BookAt (M b mb : Nat) (w : World) (kv vv : Value) (Ks Vs : List Str) : Prop where
  lo : M ≤ b ∧ M ≤ mb ∧ M ≤ w.heap.size
  blk : w.heap[b]? = some (.cells #[kv, .map (some mb), vv] 194 (0, 0))
  mp : KeyIs w mb Ks
  krow : RowS M w kv Ks
  vrow : RowS M w vv Vs
  sep : ∀ g, kv.ownBlock = some g → vv.ownBlock ≠ some g
  len : Vs.length = Ks.length
section
variable {M b mb : Nat} {w : World} {kv vv : Value} {Ks Vs : List Str}
theorem RowS.ne_cells {B : Nat} {v : Value} {l : List Str} (h : RowS B w v l) {k : Nat} {cs : Array Value} {t : TypeId} {fz : Nat × Nat} (hk : w.heap[k]? = some (.cells cs t fz)) (ht : t ≠ 9) : v.ownBlock ≠ some k := by
  intro e
  obtain ⟨_, cur, hc⟩ := ownsRow_lt h k e
  rw [hk] at hc
  simp only [Option.some.injEq, Obj.cells.injEq] at hc
  exact ht hc.2.1
theorem RowS.ne_map {B : Nat} {v : Value} {l : List Str} (h : RowS B w v l) {k : Nat} {Ks : List Str} (hk : KeyIs w k Ks) : v.ownBlock ≠ some k := by
  intro e
  obtain ⟨_, cur, hc⟩ := ownsRow_lt h k e
  obtain ⟨es, clock, h1⟩ := hk.obj
  rw [h1] at hc
  cases hc
theorem KeyIs.lt {k : Nat} (hk : KeyIs w k Ks) : k < w.heap.size := by
  obtain ⟨es, clock, h1⟩ := hk.obj
  exact (Array.getElem?_eq_some_iff.1 h1).1
theorem KeyIs.ne_cells {k j : Nat} (hk : KeyIs w k Ks) {cs : Array Value} {t : TypeId} {fz : Nat × Nat} (hj : w.heap[j]? = some (.cells cs t fz)) : k ≠ j := by
  rintro rfl
  obtain ⟨es, clock, h1⟩ := hk.obj
  rw [hj] at h1
  cases h1
end
theorem book_none (w : World) : BookAt w.heap.size (w.heap.size + 1) w.heap.size ((w.alloc (.map #[] 0)).alloc (.cells #[.slice none 0 0, .map (some w.heap.size), .slice none 0 0] 194)) (.slice none 0 0) (.slice none 0 0) [] [] := by
  refine ⟨⟨by omega, Nat.le_refl _, by simp; omega⟩, ?_, KeyIs.made w _, RowS.nil _ _, RowS.nil _ _, fun g h => by simp [Value.ownBlock] at h, rfl⟩
  have := heap_alloc_new (w.alloc (.map #[] 0)) (.cells #[.slice none 0 0, .map (some w.heap.size), .slice none 0 0] 194)
  simpa using this
theorem none_fn (w : World) : Calls Tryz.prog 149 #[] w fun e w' => ∃ b mb, e = .returned (.pointer (some ⟨b, 0, none⟩)) ∧ BookAt w.heap.size b mb w' (.slice none 0 0) (.slice none 0 0) [] [] ∧ Below w.heap.size w w' := by
  have hmm := @run_makeMap Tryz.prog
  have hb := book_none w
  have h0 : Below w.heap.size w ((w.alloc (.map #[] 0)).alloc (.cells #[.slice none 0 0, .map (some w.heap.size), .slice none 0 0] 194)) := ((Below.refl _ _).alloc (Nat.le_refl _) _).alloc (by simp) _
  have HB := hid hb
  have H0 := hid h0
  clear hb h0
  go_enter Tryz.func149, Tryz.ntmps149
  go_wp2
  go_ret
  exact ⟨_, _, rfl, HB.out, H0.out⟩
def setK (Ks : List Str) (k : Str) : List Str := match idx Ks k with
  | some _ => Ks
  | none => Ks ++ [k]
def setV (Ks Vs : List Str) (k x : Str) : List Str := match idx Ks k with
  | some i => Vs.set i x
  | none => Vs ++ [x]
theorem strCells_set (l : List Str) (i : Nat) (x : Str) : strCells (l.set i x) = (strCells l).set i (.string ⟨x.toArray⟩) := by simp [strCells, List.map_set]
/-- a value is set anew -/
theorem BookAt.stored {M b mb : Nat} {w : World} {kv : Value} {g n c : Nat} {Ks Vs : List Str} (h : BookAt M b mb w kv (.slice (some ⟨g, 0, none⟩) n c) Ks Vs) (i : Nat) (x : Str) (_hi : i < Vs.length) :
    BookAt M b mb (w.setCell ⟨g, i, none⟩ (.string ⟨x.toArray⟩)) kv (.slice (some ⟨g, 0, none⟩) n c) Ks (Vs.set i x) ∧ Below M w (w.setCell ⟨g, i, none⟩ (.string ⟨x.toArray⟩)) := by
  have hr := h.vrow
  have hg := (hr.lt g rfl).2
  have hn : n = Vs.length := by
    obtain ⟨a', c', e⟩ := hr.shape
    simp only [Value.slice.injEq] at e
    exact e.2.1
  have hr' := hr
  unfold RowS at hr'
  rw [← hn] at hr'
  obtain ⟨s1, s2⟩ := World.ownsRow.stored hr' i (.string ⟨x.toArray⟩)
  have hset : ∀ k, k ≠ g → (w.setCell ⟨g, i, none⟩ (.string ⟨x.toArray⟩)).heap[k]? = w.heap[k]? := fun k hk => Below.heap_setCell _ _ _ _ fun e => hk e
  have hgb : b ≠ g := fun e => hr.ne_cells h.blk (by decide) (by rw [e]; rfl)
  have hgm : mb ≠ g := fun e => hr.ne_map h.mp (by rw [e]; rfl)
  refine ⟨⟨⟨h.lo.1, h.lo.2.1, by simp [World.setCell]; exact h.lo.2.2⟩, (hset b hgb).trans h.blk, h.mp.of (hset mb hgm), ownsRow_heap h.krow fun k hk => hset k (fun e => h.sep k hk (by rw [e]; rfl)), ?_, h.sep, by simpa using h.len⟩, (Below.refl _ _).setCell (by show M ≤ g; exact hg) _⟩
  show World.ownsRow _ _ _ _ _ _ _
  rw [strCells_set, List.length_set, ← hn]
  exact s1
/-- a key is put behind the others -/
theorem BookAt.added {M b mb : Nat} {w w1 w2 w3 : World} {kv vv kv' vv' : Value} {Ks Vs : List Str} {D : DataW Unit} (h : BookAt M b mb w kv vv Ks Vs) (k x : Str) (hi : idx Ks k = none)
    (hm : Maps.IsMap D) (hat : ∀ (s : Str) (zd : DataW Unit), D.atKey (.string s) zd = match idx Ks s with | some i => .lit (.int .i64 (i : Nat)) | none => zd)
    (ho : w1.ownsMap Tryz.prog 9 (plainElem Tryz.prog 3) mb (Ks.length + 1) (D.put (.string k) (.lit (.int .i64 (Ks.length : Nat))))) (hg1 : w.grownBy w1 (some mb))
    (hr2 : RowS M w2 kv' (Ks ++ [k])) (hg2 : w1.grownBy w2 kv.ownBlock) (hv2 : ∀ g, kv'.ownBlock = some g → kv.ownBlock = some g ∨ w1.heap.size ≤ g)
    (hr3 : RowS M w3 vv' (Vs ++ [x])) (hg3 : (w2.setCell ⟨b, 0, none⟩ kv').grownBy w3 vv.ownBlock) (hv3 : ∀ g, vv'.ownBlock = some g → vv.ownBlock = some g ∨ w2.heap.size ≤ g) :
    BookAt M b mb (w3.setCell ⟨b, 2, none⟩ vv') kv' vv' (Ks ++ [k]) (Vs ++ [x]) ∧ Below M w (w3.setCell ⟨b, 2, none⟩ vv') := by
  obtain ⟨l1, l2, l3⟩ := h.lo
  have z1 := hg1.size
  have z2 := hg2.size
  have z3 := hg3.size
  have hlb : b < w.heap.size := (Array.getElem?_eq_some_iff.1 h.blk).1
  have hlm : mb < w.heap.size := h.mp.lt
  have hbm : mb ≠ b := h.mp.ne_cells h.blk
  have kb : kv.ownBlock ≠ some b := h.krow.ne_cells h.blk (by decide)
  have vb : vv.ownBlock ≠ some b := h.vrow.ne_cells h.blk (by decide)
  have km : kv.ownBlock ≠ some mb := h.krow.ne_map h.mp
  have vm : vv.ownBlock ≠ some mb := h.vrow.ne_map h.mp
  have hs3 : (w2.setCell ⟨b, 0, none⟩ kv').heap.size = w2.heap.size := by simp [World.setCell]
  rw [hs3] at z3
  have e1 : ∀ g, g < w.heap.size → g ≠ mb → w1.heap[g]? = w.heap[g]? := fun g x1 x2 => hg1.block g x1 fun e => x2 (Option.some.inj e)
  have e2 : ∀ g, g < w1.heap.size → kv.ownBlock ≠ some g → w2.heap[g]? = w1.heap[g]? := fun g x1 x2 => hg2.block g x1 fun e => x2 e.symm
  have e3 : ∀ g, g ≠ b → (w2.setCell ⟨b, 0, none⟩ kv').heap[g]? = w2.heap[g]? := fun g x => Below.heap_setCell _ _ _ _ fun e => x e
  have e4 : ∀ g, g < w2.heap.size → vv.ownBlock ≠ some g → w3.heap[g]? = (w2.setCell ⟨b, 0, none⟩ kv').heap[g]? := fun g x1 x2 => hg3.block g (by rw [hs3]; exact x1) fun e => x2 e.symm
  have e5 : ∀ g, g ≠ b → (w3.setCell ⟨b, 2, none⟩ vv').heap[g]? = w3.heap[g]? := fun g x => Below.heap_setCell _ _ _ _ fun e => x e
  have b2 : w2.heap[b]? = some (.cells #[kv, .map (some mb), vv] 194 (0, 0)) := ((e2 b (by omega) kb).trans (e1 b hlb (fun e => hbm e.symm))).trans h.blk
  have b3 : w3.heap[b]? = some (.cells #[kv', .map (some mb), vv] 194 (0, 0)) := by
    rw [e4 b (by omega) vb]
    simp [World.setCell, Array.getElem?_modify, b2]
  have kv'b : kv'.ownBlock ≠ some b := hr2.ne_cells b2 (by decide)
  have vv'b : vv'.ownBlock ≠ some b := hr3.ne_cells b3 (by decide)
  have vk : ∀ g, kv'.ownBlock = some g → vv.ownBlock ≠ some g := fun g hg e => by
    rcases hv2 g hg with h5 | h5
    · exact h.sep g h5 e
    · have := (h.vrow.lt g e).1
      omega
  refine ⟨⟨⟨l1, l2, by simp [World.setCell]; omega⟩, ?_, ?_, ?_, ?_, ?_, by simp [h.len]⟩, ⟨?_, ?_, ?_, by simp [World.setCell]; omega, ?_⟩⟩
  · simp [World.setCell, Array.getElem?_modify, b3]
  · refine KeyIs.of (KeyIs.put hm hat hi ho) ?_
    rw [e5 mb hbm, e4 mb (by omega) vm, e3 mb hbm, e2 mb (by omega) km]
  · refine ownsRow_heap hr2 fun g hg => ?_
    have hgb : g ≠ b := fun e => kv'b (by rw [← e]; exact hg)
    rw [e5 g hgb, e4 g (hr2.lt g hg).1 (vk g hg), e3 g hgb]
  · exact ownsRow_heap hr3 fun g hg => e5 g fun e => vv'b (by rw [← e]; exact hg)
  · intro g h1 h2
    rcases hv3 g h2 with h5 | h5
    · exact vk g h1 h5
    · have := (hr2.lt g h1).1
      omega
  · rw [show (w3.setCell ⟨b, 2, none⟩ vv').os = w3.os from rfl, hg3.os, show (w2.setCell ⟨b, 0, none⟩ kv').os = w2.os from rfl, hg2.os, hg1.os]
  · rw [show (w3.setCell ⟨b, 2, none⟩ vv').tape = w3.tape from rfl, hg3.tape, show (w2.setCell ⟨b, 0, none⟩ kv').tape = w2.tape from rfl, hg2.tape, hg1.tape]
  · rw [show (w3.setCell ⟨b, 2, none⟩ vv').output = w3.output from rfl, hg3.output, show (w2.setCell ⟨b, 0, none⟩ kv').output = w2.output from rfl, hg2.output, hg1.output]
  · intro g hg
    have n1 : g ≠ b := by omega
    have n2 : kv.ownBlock ≠ some g := fun e => by have := (h.krow.lt g e).2; omega
    have n3 : vv.ownBlock ≠ some g := fun e => by have := (h.vrow.lt g e).2; omega
    rw [e5 g n1, e4 g (by omega) n3, e3 g n1, e2 g (by omega) n2, e1 g (by omega) (by omega)]
end Go.Proofs.YtabhkoklcjhlpaaGreatDoor.Pz
/-
  dict: set, walked.
-/
namespace Go.Proofs.YtabhkoklcjhlpaaGreatDoor.Pz
open Go.RowKit
theorem mapUpd {w : World} {mb kn : Nat} {D : DataW Unit} (hown : w.ownsMap Tryz.prog 9 (plainElem Tryz.prog 3) mb kn D) (k : Str) (hkey : keyOf Tryz.prog 9 (.string ⟨k.toArray⟩) = some (.string k)) (hkl : kn < maxLen) :
    ∃ w', (Instr.mapUpdate 190 (.map (some mb)) (.string ⟨k.toArray⟩) (.int .i64 (kn : Nat))).run Tryz.prog w = .ok () w' ∧ w'.ownsMap Tryz.prog 9 (plainElem Tryz.prog 3) mb (kn + 1) (D.put (.string k) (.lit (.int .i64 (kn : Nat)))) ∧ w.grownBy w' (some mb) := by
  have hpl : plainElem (H := Unit) Tryz.prog 3 (.int .i64 (kn : Nat)) = some (.lit (.int .i64 (kn : Nat)), []) := plainElem_int Tryz.underlying3 (by
    unfold maxLen at hkl
    have e1 : IntKind.min .i64 = -9223372036854775808 := rfl
    have e2 : IntKind.max .i64 = 9223372036854775807 := rfl
    simp only [Lit.wf, e1, e2, Bool.and_eq_true, decide_eq_true_eq]
    omega)
  exact World.ownsMap.update hown (Maps.string_keyed Tryz.underlying9) Tryz.underlying190 hkl hkey hpl
set_option maxRecDepth 100000 in
set_option maxHeartbeats 1000000 in
theorem set_fn {M b mb : Nat} {w : World} {kv vv : Value} {Ks Vs : List Str} (h : BookAt M b mb w kv vv Ks Vs) (k x : Str) (hk : k.length ≤ 1000000) (hn : Ks.length ≤ 1000000) :
    Calls Tryz.prog 150 #[.pointer (some ⟨b, 0, none⟩), .string ⟨k.toArray⟩, .string ⟨x.toArray⟩] w fun e w' => e = .returned (.tuple #[]) ∧ ∃ kv' vv', BookAt M b mb w' kv' vv' (setK Ks k) (setV Ks Vs k x) ∧ Below M w w' := by
  have hlk := h.mp.look k hk
  have c0 : w.cell? ⟨b, 0, none⟩ = some kv := by rw [Lib.cell_of_heap h.blk]; rfl
  have c1 : w.cell? ⟨b, 1, none⟩ = some (.map (some mb)) := by rw [Lib.cell_of_heap h.blk]; rfl
  have c2 : w.cell? ⟨b, 2, none⟩ = some vv := by rw [Lib.cell_of_heap h.blk]; rfl
  have hmx : Tryz.prog.follows .mixedOrders = true := by kernel_rfl
  have hlen := h.len
  unfold setK setV
  unfold lookAns at hlk
  obtain ⟨ka, kc, rfl⟩ := h.krow.shape
  obtain ⟨va, vc, rfl⟩ := h.vrow.shape
  cases hi : idx Ks k with
  | some i =>
    rw [hi] at hlk
    dsimp only at hlk ⊢
    have hil := idx_lt Ks k i hi
    have hiv : i < Vs.length := by omega
    obtain ⟨g, rfl, hvn, hcell⟩ := h.vrow.at hiv
    have hfz : w.frozen? ⟨g, i, none⟩ = false := h.vrow.frozenAt i
    obtain ⟨s1, s2⟩ := h.stored i x hiv
    have S1 := hid s1
    have S2 := hid s2
    obtain ⟨n, hn0⟩ : ∃ n, n = Vs.length := ⟨_, rfl⟩
    rw [← hn0] at c2 hiv S1
    clear h hlen hi hn0 hvn s1 s2
    go_enter Tryz.func150, Tryz.ntmps150
    go_wp2
    refine bodyPost_ret (results_none rfl _ _ _) rfl ?_
    exact ⟨rfl, _, _, S1.out, S2.out⟩
  | none =>
    rw [hi] at hlk
    dsimp only at hlk ⊢
    have hkey : keyOf Tryz.prog 9 (.string ⟨k.toArray⟩) = some (.string k) := by
      rw [WideMaps.keyOf_string_mk Tryz.underlying9 (by rw [Lib.size_mk]; unfold maxLen; omega)]
    obtain ⟨D, hown, hism, hat⟩ := h.mp
    obtain ⟨kn, hkn⟩ : ∃ n, n = Ks.length := ⟨_, rfl⟩
    obtain ⟨vn, hvn⟩ : ∃ n, n = Vs.length := ⟨_, rfl⟩
    have H := hid h
    have HI := hid hi
    have HOWN := hid hown
    have HISM := hid hism
    have HAT := hid hat
    have HKN := hid hkn
    have HVN := hid hvn
    rw [← hkn] at c0 hn
    rw [← hvn] at c2
    have hsz : kn ≤ 1000000 := hn
    clear h hi hown hism hat hlen hkn hvn
    go_enter Tryz.func150, Tryz.ntmps150
    go_wp2
    have hkl : kn < maxLen := by unfold maxLen; omega
    have hown1 : w.drew.ownsMap Tryz.prog 9 (plainElem Tryz.prog 3) mb kn D := by
      rw [HKN.out]
      exact HOWN.out
    obtain ⟨w1, hrun, hown2, hg1⟩ := mapUpd hown1 k hkey hkl
    have HO1 := hid hown2
    clear hown1 hown2
    have hbm : mb ≠ b := H.out.mp.ne_cells H.out.blk
    have hbl := (Array.getElem?_eq_some_iff.1 H.out.blk).1
    have hb1 : w1.heap[b]? = some (.cells #[.slice ka kn kc, .map (some mb), .slice va vn vc] 194 (0, 0)) := by
      rw [hg1.block b hbl fun e => hbm (Option.some.inj e).symm, HKN.out, HVN.out]
      exact H.out.blk
    have d0 : w1.cell? ⟨b, 0, none⟩ = some (.slice ka kn kc) := by rw [Lib.cell_of_heap hb1]; rfl
    have d1 : w1.cell? ⟨b, 1, none⟩ = some (.map (some mb)) := by rw [Lib.cell_of_heap hb1]; rfl
    have HR1 := hid (show RowS M w1 (.slice ka kn kc) Ks by
      rw [HKN.out]
      exact ownsRow_heap H.out.krow fun g hg => hg1.block g (H.out.krow.lt g hg).1 fun e => H.out.krow.ne_map H.out.mp (by rw [hg, Option.some.inj e]))
    have HG1 := hid hg1
    have HB1 := hid hb1
    have hM1 : M ≤ w1.heap.size := by have h9 : w.heap.size ≤ w1.heap.size := hg1.size; have := H.out.lo.2.2; omega
    clear hg1 hb1
    refine U_begin (late := fun _ => false) (S := fun u : World => u.cell? ⟨b, 0, none⟩ = some (.slice ka kn kc) ∧ u.cell? ⟨b, 1, none⟩ = some (.map (some mb))) hmx ?_
    have S0 : Hid ((fun u : World => u.cell? ⟨b, 0, none⟩ = some (.slice ka kn kc) ∧ u.cell? ⟨b, 1, none⟩ = some (.map (some mb))) w.drew) := hid ⟨c0, c1⟩
    refine U_take2 8 (i := 0) (v := .pointer (some ⟨b, 0, none⟩)) rfl (by kernel_rfl) (by kernel_rfl) (by kernel_rfl) (by kernel_rfl) (by kernel_rfl) (fun _ _ _ h => h) (.inl ⟨rfl, fun u hu => (by go_simp)⟩) S0.out ?_
    refine U_take2 8 (i := 1) (v := .pointer (some ⟨b, 0, none⟩)) rfl (by kernel_rfl) (by kernel_rfl) (by kernel_rfl) (by kernel_rfl) (by kernel_rfl) (fun _ _ _ h => h) (.inl ⟨rfl, fun u hu => (by go_simp)⟩) S0.out ?_
    refine U_take2 8 (i := 2) (v := .pointer (some ⟨b, 0, none⟩)) rfl (by kernel_rfl) (by kernel_rfl) (by kernel_rfl) (by kernel_rfl) (by kernel_rfl) (fun _ _ _ h => h) (.inl ⟨rfl, fun u hu => (by go_simp)⟩) S0.out ?_
    refine U_take2 8 (i := 3) (v := .pointer (some ⟨b, 1, none⟩)) rfl (by kernel_rfl) (by kernel_rfl) (by kernel_rfl) (by kernel_rfl) (by kernel_rfl) (fun _ _ _ h => h) (.inl ⟨rfl, fun u hu => (by go_simp)⟩) S0.out ?_
    refine U_take2 8 (i := 4) (v := .map (some mb)) rfl (by kernel_rfl) (by kernel_rfl) (by kernel_rfl) (by kernel_rfl) (by kernel_rfl) (fun _ _ _ h => h) (.inl ⟨rfl, fun u hu => (by obtain ⟨h1, h2⟩ := hu; go_simp)⟩) S0.out ?_
    refine U_take2 8 (i := 5) (v := .string ⟨k.toArray⟩) rfl (by kernel_rfl) (by kernel_rfl) (by kernel_rfl) (by kernel_rfl) (by kernel_rfl) (fun _ _ _ h => h) (.inl ⟨rfl, fun u hu => (by go_simp)⟩) S0.out ?_
    refine U_take2 8 (i := 6) (v := .pointer (some ⟨b, 0, none⟩)) rfl (by kernel_rfl) (by kernel_rfl) (by kernel_rfl) (by kernel_rfl) (by kernel_rfl) (fun _ _ _ h => h) (.inl ⟨rfl, fun u hu => (by go_simp)⟩) S0.out ?_
    refine U_take2 8 (i := 7) (v := .pointer (some ⟨b, 0, none⟩)) rfl (by kernel_rfl) (by kernel_rfl) (by kernel_rfl) (by kernel_rfl) (by kernel_rfl) (fun _ _ _ h => h) (.inl ⟨rfl, fun u hu => (by go_simp)⟩) S0.out ?_
    refine U_take2 8 (i := 8) (v := .pointer (some ⟨b, 0, none⟩)) rfl (by kernel_rfl) (by kernel_rfl) (by kernel_rfl) (by kernel_rfl) (by kernel_rfl) (fun _ _ _ h => h) (.inl ⟨rfl, fun u hu => (by go_simp)⟩) S0.out ?_
    refine U_take2 8 (i := 9) (v := .pointer (some ⟨b, 0, none⟩)) rfl (by kernel_rfl) (by kernel_rfl) (by kernel_rfl) (by kernel_rfl) (by kernel_rfl) (fun _ _ _ h => h) (.inl ⟨rfl, fun u hu => (by go_simp)⟩) S0.out ?_
    refine U_take2 8 (i := 10) (v := .slice ka kn kc) rfl (by kernel_rfl) (by kernel_rfl) (by kernel_rfl) (by kernel_rfl) (by kernel_rfl) (fun _ _ _ h => h) (.inl ⟨rfl, fun u hu => (by obtain ⟨h1, h2⟩ := hu; go_simp)⟩) S0.out ?_
    refine U_take2 8 (i := 11) (v := .int .i64 (kn : Nat)) rfl (by kernel_rfl) (by kernel_rfl) (by kernel_rfl) (by kernel_rfl) (by kernel_rfl) (fun _ _ _ h => h) (.inl ⟨rfl, fun u hu => (by go_simp)⟩) S0.out ?_
    refine U_step (j := 12) (by kernel_rfl) rfl (fun K hK => ?_)
    go_simp
    refine hK.out _ _ (.inr ⟨d0, d1⟩) ?_
    clear hK K S0 hrun c0 c1 c2 hlk
    refine U_done (by kernel_rfl) ?_ _
    go_wp2_with (at_builtin; refine app_one (w := w1) rfl rfl (.tmp 43) (.tmp 45) rfl M _ Ks k rfl HR1.out rfl hM1 (by rw [← HKN.out]; omega) ?_)
    intro v2 w2 hr2 hg2 hv2
    have hb2 : w2.heap[b]? = some (.cells #[.slice ka kn kc, .map (some mb), .slice va vn vc] 194 (0, 0)) := (hg2.block b (Array.getElem?_eq_some_iff.1 HB1.out).1 fun e => HR1.out.ne_cells HB1.out (by decide) e.symm).trans HB1.out
    obtain ⟨a2, p2, e2⟩ := RowS.shape hr2
    obtain ⟨n2, hn2⟩ : ∃ n, n = (Ks ++ [k]).length := ⟨_, rfl⟩
    rw [← hn2] at e2
    subst e2
    have cb2 : w2.cell? ⟨b, 0, none⟩ = some (.slice ka kn kc) := by rw [Lib.cell_of_heap hb2]; rfl
    have fb2 : w2.frozen? ⟨b, 0, none⟩ = false := Lib.frozen_of_heap hb2 0
    obtain ⟨w3, hw3⟩ : ∃ w3, w3 = w2.setCell ⟨b, 0, none⟩ (.slice a2 n2 p2) := ⟨_, rfl⟩
    have hz1 := HG1.out.size
    have hz2 := hg2.size
    have hz3 : w3.heap.size = w2.heap.size := by rw [hw3]; simp [World.setCell]
    have hz0 : w.drew.heap.size = w.heap.size := rfl
    rw [hz0] at hz1
    have hb3 : w3.heap[b]? = some (.cells #[.slice a2 n2 p2, .map (some mb), .slice va vn vc] 194 (0, 0)) := by rw [hw3]; simp [World.setCell, Array.getElem?_modify, hb2]
    have cb3 : w3.cell? ⟨b, 2, none⟩ = some (.slice va vn vc) := by rw [Lib.cell_of_heap hb3]; rfl
    have HR3 := hid (show RowS M w3 (.slice va vn vc) Vs by
      rw [HVN.out]
      refine ownsRow_heap H.out.vrow fun g hg => ?_
      have hgb : g ≠ b := fun e => H.out.vrow.ne_cells H.out.blk (by decide) (by rw [hg, e])
      have hgm : g ≠ mb := fun e => H.out.vrow.ne_map H.out.mp (by rw [hg, e])
      have hgl := (H.out.vrow.lt g hg).1
      have hgk : (Value.slice ka kn kc).ownBlock ≠ some g := fun e => H.out.sep g (by rw [← HKN.out]; exact e) hg
      rw [hw3, Below.heap_setCell _ _ _ _ (fun e => hgb e), hg2.block g (by omega) fun e => hgk e.symm, HG1.out.block g (by rw [hz0]; exact hgl) fun e => hgm (Option.some.inj e)]
      rfl)
    have hM3 : M ≤ w3.heap.size := by omega
    have HW3 := hid hw3
    have HG2 := hid hg2
    have HR2 := hid hr2
    have HV2 := hid hv2
    have HB3 := hid hb3
    have HN2 := hid hn2
    have hlv : Vs.length ≤ 10000000 := by rw [H.out.len, ← HKN.out]; omega
    clear hr2 hg2 hv2 hb2 hb3 hz1 hz2 hz0 hn2
    rw [hw3] at cb3
    clear hw3
    go_wp2_with (at_builtin; rw [← HW3.out]; refine app_one (w := w3) hz3 rfl (.tmp 54) (.tmp 56) rfl M _ Vs x rfl HR3.out rfl hM3 hlv ?_)
    intro v4 w4 hr4 hg4 hv4
    obtain ⟨a4, p4, e4⟩ := RowS.shape hr4
    obtain ⟨n4, hn4⟩ : ∃ n, n = (Vs ++ [x]).length := ⟨_, rfl⟩
    rw [← hn4] at e4
    subst e4
    have hb4 : w4.heap[b]? = some (.cells #[.slice a2 n2 p2, .map (some mb), .slice va vn vc] 194 (0, 0)) := (hg4.block b (Array.getElem?_eq_some_iff.1 HB3.out).1 fun e => HR3.out.ne_cells HB3.out (by decide) e.symm).trans HB3.out
    have cb4 : w4.cell? ⟨b, 2, none⟩ = some (.slice va vn vc) := by rw [Lib.cell_of_heap hb4]; rfl
    have fb4 : w4.frozen? ⟨b, 2, none⟩ = false := Lib.frozen_of_heap hb4 2
    have HR4 := hid hr4
    have HG4 := hid hg4
    have HV4 := hid hv4
    clear hr4 hg4 hv4 hb4 hn4
    go_wp2
    go_end0
    have hgd : w.grownBy w1 (some mb) := by
      obtain ⟨q1, q2, q3, q4, q5⟩ := HG1.out
      exact ⟨q1, q2, q3, q4, q5⟩
    have hA := BookAt.added (w1 := w1) (w2 := w2) (w3 := w4) (kv' := .slice a2 n2 p2) (vv' := .slice a4 n4 p4) H.out k x HI.out HISM.out HAT.out (by rw [← HKN.out]; exact HO1.out) hgd HR2.out (by rw [← HKN.out]; exact HG2.out) (by rw [← HKN.out]; exact HV2.out) HR4.out
      (by rw [← HW3.out, ← HVN.out]; exact HG4.out) (by rw [← HVN.out]; intro g hg; rcases HV4.out g hg with h8 | h8 <;> first | exact .inl h8 | exact .inr (by omega))
    exact ⟨rfl, _, _, hA.1, hA.2⟩
end Go.Proofs.YtabhkoklcjhlpaaGreatDoor.Pz
/-
  dict: of, read.
-/
namespace Go.Proofs.YtabhkoklcjhlpaaGreatDoor.Pz
open Go.RowKit
theorem BookAt.on {M b mb : Nat} {w w' : World} {kv vv : Value} {Ks Vs : List Str} (h : BookAt M b mb w kv vv Ks Vs) (hb : Below w.heap.size w w') : BookAt M b mb w' kv vv Ks Vs :=
  ⟨⟨h.lo.1, h.lo.2.1, Nat.le_trans h.lo.2.2 hb.size⟩, (hb.block b (Array.getElem?_eq_some_iff.1 h.blk).1).trans h.blk, h.mp.of (hb.block mb h.mp.lt), h.krow.on hb, h.vrow.on hb, h.sep, h.len⟩
/-- keys and values of a list of both by turns -/
def bookOf : List Str → List Str → List Str → List Str × List Str
  | Ks, Vs, k :: x :: l => bookOf (setK Ks k) (setV Ks Vs k x) l
  | Ks, Vs, _ => (Ks, Vs)
theorem setK_len (Ks : List Str) (k : Str) : (setK Ks k).length ≤ Ks.length + 1 := by
  unfold setK
  split <;> simp
theorem drop_two {l : List Str} {i : Nat} (h : i + 1 < l.length) : l.drop i = l[i] :: l[i + 1] :: l.drop (i + 2) := by
  rw [List.drop_eq_getElem_cons (by omega), List.drop_eq_getElem_cons (by omega)]
theorem bookOf_short (Ks Vs l : List Str) (h : l.length ≤ 1) : bookOf Ks Vs l = (Ks, Vs) := by
  match l, h with
  | [], _ => rfl
  | [_], _ => rfl
  | _ :: _ :: _, h => simp at h
theorem wrap_small {x : Int} (h0 : -1000000000 ≤ x) (h1 : x ≤ 1000000000) : IntKind.i64.wrap x = x := by
  simp [IntKind.wrap, IntKind.bits, IntKind.signed]; omega
set_option maxRecDepth 100000 in
set_option maxHeartbeats 1000000 in
theorem of_fn {B : Nat} {w : World} {v : Value} {l : List Str} (hv : RowS B w v l) (hl : l.length ≤ 100000) (hls : ∀ s ∈ l, s.length ≤ 1000000) :
    Calls Tryz.prog 123 #[v] w fun e w' => ∃ b mb kv vv, e = .returned (.pointer (some ⟨b, 0, none⟩)) ∧ BookAt w.heap.size b mb w' kv vv (bookOf [] [] l).1 (bookOf [] [] l).2 ∧ Below w.heap.size w w' := by
  obtain ⟨a, c, rfl⟩ := hv.shape
  obtain ⟨n, hn⟩ : ∃ n, n = l.length := ⟨_, rfl⟩
  have HN := hid hn
  rw [← hn] at hv hl ⊢
  have HV := hid hv
  have HLS := hid hls
  have hmx : Tryz.prog.follows .mixedOrders = true := by kernel_rfl
  have HM := hid hmx
  have hno := none_fn w
  have HNO := hid hno
  clear hn hv hls hmx hno
  go_enter Tryz.func123, Tryz.ntmps123
  go_wp2_with fail
  (with_reducible refine HNO.out.mono ?_); rintro e w1 ⟨b, mb, rfl, hbk, hb1⟩
  have HB1 := hid hb1
  have HBK := hid hbk
  clear hbk hb1
  go_wp2
  go_loopg [4] (n + 1) (fun k iv wr => ∃ (i : Nat) (kv vv : Value) (Ks Vs : List Str), iv = .int .i64 (i : Nat) ∧ BookAt w.heap.size b mb wr kv vv Ks Vs ∧ Below w.heap.size w wr ∧ bookOf Ks Vs (l.drop i) = bookOf [] [] l ∧ Ks.length ≤ i ∧ i + k = n + 1)
  case atStart => exact ⟨0, _, _, [], [], rfl, HBK.out, HB1.out, rfl, by simp, by simp⟩
  case round =>
    obtain ⟨i, kv, vv, Ks, Vs, rfl, hbk, hbl, hof, hks, hk⟩ := hrel
    by_cases hi : i + 1 < n
    · have hrow : RowS B wr (.slice a n c) l := HV.out.on hbl
      have hil : i + 1 < l.length := by rw [← HN.out]; exact hi
      obtain ⟨g, rfl, hx1, hc0⟩ := hrow.at (show i < l.length by omega)
      obtain ⟨g2, e2, hx2, hc1⟩ := hrow.at hil
      clear hx1 hx2
      simp only [Option.some.injEq, Addr.mk.injEq, and_true] at e2
      subst e2
      have hd := drop_two hil
      have hk0 := HLS.out l[i] (List.getElem_mem _)
      obtain ⟨k0, hk0e⟩ : ∃ k0, k0 = l[i] := ⟨_, rfl⟩
      obtain ⟨x0, hx0e⟩ : ∃ x0, x0 = l[i + 1] := ⟨_, rfl⟩
      rw [← hk0e, ← hx0e] at hd
      rw [← hk0e] at hc0 hk0
      rw [← hx0e] at hc1
      rw [hd, bookOf] at hof
      have HOF := hid hof
      have HBL := hid hbl
      have HB2 := hid hbk
      have hsl := setK_len Ks k0
      have hset := hid (set_fn (w := wr.drew) (hbk.on (Below.refl _ _).drew) k0 x0 hk0 (by omega))
      clear hof hbl hbk hrow hd hk0e hx0e
      go_wp2
      refine U_begin (late := fun _ => false) (S := fun u : World => u.cell? ⟨g, i, none⟩ = some (.string ⟨k0.toArray⟩) ∧ u.cell? ⟨g, i + 1, none⟩ = some (.string ⟨x0.toArray⟩)) HM.out ?_
      have S0 : Hid ((fun u : World => u.cell? ⟨g, i, none⟩ = some (.string ⟨k0.toArray⟩) ∧ u.cell? ⟨g, i + 1, none⟩ = some (.string ⟨x0.toArray⟩)) wr.drew) := hid ⟨hc0, hc1⟩
      refine U_take2 8 (i := 0) (v := .pointer (some ⟨b, 0, none⟩)) rfl (by kernel_rfl) (by kernel_rfl) (by kernel_rfl) (by kernel_rfl) (by kernel_rfl) (fun _ _ _ h => h) (.inl ⟨rfl, fun u hu => (by go_simp)⟩) S0.out ?_
      refine U_take2 8 (i := 1) (v := .slice (some ⟨g, 0, none⟩) n c) rfl (by kernel_rfl) (by kernel_rfl) (by kernel_rfl) (by kernel_rfl) (by kernel_rfl) (fun _ _ _ h => h) (.inl ⟨rfl, fun u hu => (by go_simp)⟩) S0.out ?_
      refine U_take2 8 (i := 2) (v := .int .i64 (i : Nat)) rfl (by kernel_rfl) (by kernel_rfl) (by kernel_rfl) (by kernel_rfl) (by kernel_rfl) (fun _ _ _ h => h) (.inl ⟨rfl, fun u hu => (by go_simp)⟩) S0.out ?_
      refine U_take2 8 (i := 3) (v := .pointer (some ⟨g, i, none⟩)) rfl (by kernel_rfl) (by kernel_rfl) (by kernel_rfl) (by kernel_rfl) (by kernel_rfl) (fun _ _ _ h => h) (.inl ⟨rfl, fun u hu => (by go_simp; exact fun h => absurd h (by omega))⟩) S0.out ?_
      refine U_take2 8 (i := 4) (v := .string ⟨k0.toArray⟩) rfl (by kernel_rfl) (by kernel_rfl) (by kernel_rfl) (by kernel_rfl) (by kernel_rfl) (fun _ _ _ h => h) (.inl ⟨rfl, fun u hu => (by obtain ⟨h1, h2⟩ := hu; go_simp)⟩) S0.out ?_
      refine U_take2 8 (i := 5) (v := .slice (some ⟨g, 0, none⟩) n c) rfl (by kernel_rfl) (by kernel_rfl) (by kernel_rfl) (by kernel_rfl) (by kernel_rfl) (fun _ _ _ h => h) (.inl ⟨rfl, fun u hu => (by go_simp)⟩) S0.out ?_
      refine U_take2 8 (i := 6) (v := .int .i64 (i : Nat)) rfl (by kernel_rfl) (by kernel_rfl) (by kernel_rfl) (by kernel_rfl) (by kernel_rfl) (fun _ _ _ h => h) (.inl ⟨rfl, fun u hu => (by go_simp)⟩) S0.out ?_
      refine U_take2 8 (i := 7) (v := .int .i64 ((i : Nat) + 1)) rfl (by kernel_rfl) (by kernel_rfl) (by kernel_rfl) (by kernel_rfl) (by kernel_rfl) (fun _ _ _ h => h) (.inl ⟨rfl, fun u hu => (by go_simp; exact wrap_small (by omega) (by omega))⟩) S0.out ?_
      refine U_take2 8 (i := 8) (v := .pointer (some ⟨g, i + 1, none⟩)) rfl (by kernel_rfl) (by kernel_rfl) (by kernel_rfl) (by kernel_rfl) (by kernel_rfl) (fun _ _ _ h => h) (.inl ⟨rfl, fun u hu => (by go_simp; exact fun h => absurd h (by omega))⟩) S0.out ?_
      refine U_take2 8 (i := 9) (v := .string ⟨x0.toArray⟩) rfl (by kernel_rfl) (by kernel_rfl) (by kernel_rfl) (by kernel_rfl) (by kernel_rfl) (fun _ _ _ h => h) (.inl ⟨rfl, fun u hu => (by obtain ⟨h1, h2⟩ := hu; go_simp)⟩) S0.out ?_
      refine U_step (j := 10) (by kernel_rfl) rfl (fun K hK => ?_)
      go_simp
      (with_reducible refine hset.out.mono ?_); rintro e w2 ⟨rfl, kv2, vv2, hbk2, hbl2⟩
      have hb3 := hid (HBL.out.trans ((Below.refl _ _).drew.trans hbl2))
      have hgw := (HV.out.lt g rfl).1
      have c2 : w2.cell? ⟨g, i, none⟩ = some (.string ⟨k0.toArray⟩) := (hbl2.cell (p := ⟨g, i, none⟩) (by exact hgw)).trans hc0
      have c3 : w2.cell? ⟨g, i + 1, none⟩ = some (.string ⟨x0.toArray⟩) := (hbl2.cell (p := ⟨g, i + 1, none⟩) (by exact hgw)).trans hc1
      refine hK.out _ _ (.inr ⟨c2, c3⟩) ?_
      clear hK K
      refine U_done (by kernel_rfl) ?_ _
      have HBK2 := hid hbk2
      clear hc0 hc1 c2 c3 S0 hbk2 hbl2
      go_wp2
      go_roundg (n - (i + 1))
      case measure => omega
      case rel => exact ⟨i + 2, kv2, vv2, _, _, by go_num, HBK2.out, hb3.out, HOF.out, by omega, by omega⟩
    · rw [bookOf_short _ _ _ (by have := HN.out; rw [List.length_drop]; omega)] at hof
      have HOF := hid hof
      have HBL := hid hbl
      have HB2 := hid hbk
      clear hof hbl hbk
      go_wp2
      go_ret
      exact ⟨b, mb, kv, vv, rfl, by rw [← HOF.out]; exact HB2.out, HBL.out⟩
end Go.Proofs.YtabhkoklcjhlpaaGreatDoor.Pz
/-
  dict: all, its iterator.
-/
namespace Go.Proofs.YtabhkoklcjhlpaaGreatDoor.Pz
open Go.RowKit Go.Shelf
attribute [local go_sem] Oper.semAt_some
theorem all_fn (b : Nat) (w : World) : Calls Tryz.prog 124 #[.pointer (some ⟨b, 0, none⟩)] w fun e w' => e = .returned (.func (.func 151) #[] #[.pointer (some ⟨w.heap.size, 0, none⟩)]) ∧ w' = w.alloc (.cells #[.pointer (some ⟨b, 0, none⟩)] 139) := by
  have hmf : ∀ (fn : Fn) (first cap : Array Value) (w : World), (Instr.makeFunc fn first cap).run Tryz.prog w = .ok (.func fn first cap) w := fun _ _ _ _ => rfl
  go_enter Tryz.func124, Tryz.ntmps124
  go_wp2
  go_ret
  exact ⟨rfl, rfl⟩
def encB (x : Str × Str) : Array Value := #[.string ⟨x.1.toArray⟩, .string ⟨x.2.toArray⟩]
set_option maxRecDepth 100000 in
set_option maxHeartbeats 1000000 in
theorem all1_in (l M b mb p : Nat) (w0 : World) (kv vv : Value) (Ks Vs : List Str) (hbk : BookAt M b mb w0 kv vv Ks Vs) (hn : Ks.length ≤ 1000000) (J Jx : List (Str × Str) → World → Prop) (W : World) (N : Nat)
    (hY : ∀ pre x W1, J pre W1 → pre.length < (Ks.zip Vs).length → YieldAt Fence.wide (N - 1) Tryz.prog l (encB x) W1 fun e W' => (e = .returned (.bool true) ∧ J (pre ++ [x]) W' ∧ KpL w0.heap.size p p W1 W') ∨ (e = .returned (.bool false) ∧ Jx (pre ++ [x]) W'))
    (hp : W.heap[p]? = some (.cells #[.pointer (some ⟨b, 0, none⟩)] 139 (0, 0))) (hW : Below w0.heap.size w0 W) (h0 : J [] W) :
    CallsIn Fence.wide N Tryz.prog 151 #[.func (.yield l) #[] #[], .pointer (some ⟨p, 0, none⟩)] W fun e W' => (∃ v, e = .returned v) ∧ (J (Ks.zip Vs) W' ∨ ∃ pre, pre <+: Ks.zip Vs ∧ Jx pre W') := by
  obtain ⟨ka, kc, rfl⟩ := hbk.krow.shape
  obtain ⟨va, vc, rfl⟩ := hbk.vrow.shape
  have hlen := hbk.len
  obtain ⟨n, hn0⟩ : ∃ n, n = Ks.length := ⟨_, rfl⟩
  rw [hlen, ← hn0] at hbk
  rw [← hn0] at hn hlen
  have HN := hid hn0
  have HL := hid hlen
  have hpc : W.cell? ⟨p, 0, none⟩ = some (.pointer (some ⟨b, 0, none⟩)) := by rw [Lib.cell_of_heap hp]; rfl
  have hbW := hbk.on hW
  have c0 : W.cell? ⟨b, 0, none⟩ = some (.slice ka n kc) := by rw [Lib.cell_of_heap hbW.blk]; rfl
  have HY := hid hY
  have HP := hid hp
  have HB := hid hbk
  have HW := hid hW
  have H0 := hid h0
  clear hY hp hbk hbW hW h0 hn0 hlen
  refine callsIn_of_wp Tryz.func151 rfl trivial ?_ rfl
  simp only [Tryz.ntmps151, List.size_toArray, List.length_cons, List.length_nil, Nat.reduceAdd, Nat.reduceSub, Array.replicate_succ, Array.replicate_zero, List.push_toArray, List.append_toArray, List.nil_append, List.cons_append]
  gi_wp2
  gi_loopw [11] (fun iv wr => ∃ (i : Nat), iv = .int .i64 (i : Nat) ∧ i ≤ n ∧ J ((Ks.zip Vs).take i) wr ∧ KpL w0.heap.size p p W wr)
    (fun iv _ => n - (intOf iv).toNat)
  case atStart => exact ⟨0, rfl, Nat.zero_le _, H0.out, KpL.refl _ _ _ _⟩
  case round =>
    obtain ⟨i, rfl, hin, hJ, hkp⟩ := hrel
    by_cases hi : i < n
    · have hbr := HB.out.on (HW.out.trans hkp.1)
      have hik : i < Ks.length := by rw [← HN.out]; exact hi
      have hiv : i < Vs.length := by rw [HL.out]; exact hi
      obtain ⟨g, rfl, hx1, hc0⟩ := hbr.krow.at hik
      obtain ⟨g2, rfl, hx2, hc1⟩ := hbr.vrow.at hiv
      have c2 : wr.cell? ⟨b, 2, none⟩ = some (.slice (some ⟨g2, 0, none⟩) n vc) := by rw [Lib.cell_of_heap hbr.blk]; rfl
      have hpc' : wr.cell? ⟨p, 0, none⟩ = some (.pointer (some ⟨b, 0, none⟩)) := by rw [Lib.cell_of_heap (hkp.2.1.trans HP.out)]; rfl
      have hzl : (Ks.zip Vs).length = n := by rw [List.length_zip, HL.out, ← HN.out]; simp
      have hiz : i < (Ks.zip Vs).length := by rw [hzl]; exact hi
      have htk := List.take_succ_eq_append_getElem hiz
      have hpz : (Ks.zip Vs).take (i + 1) <+: Ks.zip Vs := List.take_prefix _ _
      have hge : (Ks.zip Vs)[i] = (Ks[i], Vs[i]) := List.getElem_zip
      rw [hge] at htk
      obtain ⟨k0, hk0⟩ : ∃ k, k = Ks[i] := ⟨_, rfl⟩
      obtain ⟨x0, hx0⟩ : ∃ x, x = Vs[i] := ⟨_, rfl⟩
      rw [← hk0] at hc0 htk
      rw [← hx0] at hc1 htk
      have hxe : encB (k0, x0) = #[.string ⟨k0.toArray⟩, .string ⟨x0.toArray⟩] := rfl
      obtain ⟨fn, tmps, assign, body, hy, hR⟩ := HY.out ((Ks.zip Vs).take i) (k0, x0) wr hJ (by rw [List.length_take]; omega)
      rw [hxe] at hy
      have HR := hid hR
      have HK := hid hkp
      have HTK := hid htk
      have HPZ := hid hpz
      clear hR hxe hJ hkp hbr hx1 hx2 htk hpz hge hk0 hx0 hzl hiz c0
      have hun : undef = .tuple #[] := rfl
      gi_wp2
      clear hun
      refine ⟨fun h => by (cases h), ?_⟩
      refine HR.out.mono ?_
      rintro e W3 (⟨rfl, hJ3, hk3⟩ | ⟨rfl, hJx3⟩)
      · have HJ3 := hid hJ3
        have HK4 := hid (HK.out.trans hk3)
        clear hJ3 hk3
        gi_wp2
        go_roundw
        case rel => exact ⟨i + 1, by go_num, by omega, by rw [HTK.out]; exact HJ3.out, HK4.out⟩
        case measure => simp [intOf] <;> omega
      · have HX3 := hid hJx3
        clear hJx3
        gi_wp2
        refine bodyPost_ret (results_none rfl _ _ _) rfl ?_
        exact ⟨⟨_, rfl⟩, .inr ⟨_, HPZ.out, by rw [HTK.out]; exact HX3.out⟩⟩
    · have hie : i = n := by omega
      have hzt : (Ks.zip Vs).take i = Ks.zip Vs := List.take_of_length_le (by rw [List.length_zip]; have := HN.out; omega)
      rw [hzt] at hJ
      have HJ := hid hJ
      clear hJ hkp c0
      gi_wp2
      go_end0
      exact ⟨⟨_, rfl⟩, .inl HJ.out⟩
end Go.Proofs.YtabhkoklcjhlpaaGreatDoor.Pz
/-
  The elements of a list are no longer than its text.
-/
namespace Go.Proofs.YtabhkoklcjhlpaaGreatDoor.Pz
theorem unesc_out (t : Str) : (unesc t).1.length + (unesc t).2.length ≤ t.length + 1 := by
  have h1 := suf_len (unesc_suf t)
  have h2 := unesc_len t
  omega
theorem quotedE_out : ∀ (n : Nat) (l : Str), l.length ≤ n → ∀ s r, quotedE l = some (s, r) → s.length + r.length ≤ l.length
  | _, [], _, s, r, h => by rw [quotedE] at h; cases h
  | 0, c :: t, hn, _, _, _ => absurd hn (by simp)
  | n + 1, c :: t, hn, s, r, h => by
    have ht : t.length ≤ n := by simpa using hn
    rw [quotedE] at h
    split at h
    · simp only [Option.some.injEq, Prod.mk.injEq] at h
      obtain ⟨rfl, rfl⟩ := h
      simp
    · split at h
      · obtain ⟨s', h', rfl⟩ := pre_some h
        have hu := suf_len (unesc_suf t)
        have hq := unesc_len t
        have := quotedE_out n _ (by omega) _ _ h'
        simp only [List.length_append, List.length_cons]
        omega
      · obtain ⟨s', h', rfl⟩ := pre_some h
        have := quotedE_out n t ht _ _ h'
        simp only [List.length_append, List.length_cons, List.length_nil]
        omega
theorem bareE_out : ∀ (n : Nat) (l : Str), l.length ≤ n → (bareE l).1.length + (bareE l).2.length ≤ l.length
  | _, [], _ => by rw [bareE]; simp
  | 0, c :: t, hn => absurd hn (by simp)
  | n + 1, c :: t, hn => by
    have ht : t.length ≤ n := by simpa using hn
    rw [bareE]
    split
    · simp
    · split
      · have hu := suf_len (unesc_suf t)
        have hq := unesc_len t
        have := bareE_out n (unesc t).2 (by omega)
        simp only [preP, List.length_append, List.length_cons]
        omega
      · have := bareE_out n t ht
        simp only [preP, List.length_append, List.length_cons, List.length_nil]
        omega
theorem elemE_out {c : UInt8} {t s r : Str} (h : elemE (c :: t) = some (s, r)) : s.length + r.length ≤ t.length + 1 := by
  have h' : (if (c == 123) = true then brace 0 t else if (c == 34) = true then quotedE t else some (bareE (c :: t))) = some (s, r) := h
  clear h
  have h := h'
  clear h'
  split at h
  · have ht := brace_text t.length t (Nat.le_refl _) 0 s r h
    rw [ht]
    simp
    omega
  · split at h
    · have := quotedE_out _ t (Nat.le_refl _) s r h
      omega
    · simp only [Option.some.injEq] at h
      have h1 := bareE_out _ (c :: t) (Nat.le_refl _)
      rw [h] at h1
      simpa using h1
def sumL (l : List Str) : Nat := (l.map List.length).sum
theorem sumL_mem : ∀ (l : List Str) (s : Str), s ∈ l → s.length ≤ sumL l
  | x :: l, s, h => by
    rcases List.mem_cons.1 h with rfl | h
    · simp [sumL]
    · have := sumL_mem l s h
      simp [sumL] at this ⊢
      omega
theorem listE_out : ∀ (n : Nat) (l : Str), l.length ≤ n → ∀ xs, listE l = .inr xs → xs.length ≤ l.length ∧ sumL xs ≤ l.length
  | _, [], _, xs, h => by
    rw [listE] at h
    cases h
    exact ⟨Nat.le_refl _, Nat.le_refl _⟩
  | 0, c :: t, hn, _, _ => absurd hn (by simp)
  | n + 1, c :: t, hn, xs, h => by
    have ht : t.length ≤ n := by simpa using hn
    cases hw : white c with
    | true =>
      rw [listE_white hw] at h
      have := listE_out n t ht xs h
      simp
      omega
    | false =>
      rw [listE_cons hw] at h
      cases he : elemE (c :: t) with
      | none => rw [he] at h; cases h
      | some y =>
        obtain ⟨x, r⟩ := y
        rw [he] at h
        dsimp only at h
        have h1 := elemE_out he
        have h2 := (elemE_suf hw he).1
        split at h
        · cases hr : listE r with
          | inl b => rw [hr] at h; cases h
          | inr ys =>
            rw [hr] at h
            cases h
            have h3 := listE_out n r (by omega) ys hr
            simp [sumL] at h3 ⊢
            omega
        · cases h
theorem splitE_out (s : Str) : (splitE s).1.length ≤ s.length ∧ (splitE s).1.length ≤ 10000 ∧ sumL (splitE s).1 ≤ s.length := by
  unfold splitE
  cases h : listE s with
  | inl b => simp [sumL]
  | inr xs =>
    have := listE_out _ s (Nat.le_refl _) xs h
    dsimp only
    split
    · exact ⟨this.1, by assumption, this.2⟩
    · simp [sumL]
end Go.Proofs.YtabhkoklcjhlpaaGreatDoor.Pz
/-
  dict: pairs, read, Pairs.
-/
namespace Go.Proofs.YtabhkoklcjhlpaaGreatDoor.Pz
open Go.RowKit Go.Shelf
attribute [local go_sem] Oper.semAt_some
def flatP (l : List (Str × Str)) : List Str := l.flatMap fun x => [x.1, x.2]
theorem flatP_snoc (l : List (Str × Str)) (x : Str × Str) : flatP (l ++ [x]) = flatP l ++ [x.1, x.2] := by simp [flatP]
theorem flatP_len (l : List (Str × Str)) : (flatP l).length = 2 * l.length := by
  induction l with
  | nil => rfl
  | cons x l ih =>
    simp only [flatP, List.flatMap_cons, List.length_append, List.length_cons, List.length_nil] at ih ⊢
    omega
theorem app_twoIn {F : Fence} {nF : Nat} {w : World} {N : Nat} (hN : w.heap.size = N) {ops : Array Oper} {rest : List Oper} {o : Oper} {a : Act} {Q : Exit → Act → World → Prop} (hgd : o.guard = none) (s x : Operand)
    (ho : o.op = .call { callee := .builtin .append, args := #[s, x], argTypes := #[22, 22] }) (B : Nat) (v : Value) (l : List Str) (q r : Str)
    (hs : a.eval s = v) (hown : RowS B w v l) (hx : a.eval x = .slice (some ⟨N, 0, none⟩) 2 2) (hB : B ≤ w.heap.size) (hl : l.length ≤ 10000000)
    (h : ∀ v' w', RowS B w' v' (l ++ [q, r]) → w.grownBy w' v.ownBlock → (∀ g, v'.ownBlock = some g → v.ownBlock = some g ∨ w.heap.size ≤ g) → wpListIn F nF Tryz.prog ops Q rest (a.put o.dst v') w') :
    wpListIn F nF Tryz.prog ops Q (o :: rest) a (w.alloc (.cells #[.string ⟨q.toArray⟩, .string ⟨r.toArray⟩] 9)) := by
  obtain ⟨i0, hi, hz0, hz1, hz2⟩ := info_parts Tryz.infoS
  subst hN
  have hown' : (w.alloc (.cells #[.string ⟨q.toArray⟩, .string ⟨r.toArray⟩] 9)).ownsRow B 9 1 v l.length (strCells l) := World.ownsRow.alloc hown _
  refine wpListIn_append_own_at _ hgd s x 22 ho B 9 i0 (.string ⟨#[]⟩) 1 16 Tryz.underlying22 hi hz0 hz1 hz2 rfl (by decide) v l.length (strCells l) hs hown' ⟨w.heap.size, 0, none⟩ 2 2 [.string ⟨q.toArray⟩, .string ⟨r.toArray⟩] hx rfl (World.news_of_block (heap_alloc_new _ _)) (strCells_one [q, r]) ?_ ?_ ?_ ?_
  · unfold maxLen; omega
  · omega
  · simp; omega
  · intro v' w' hrow hg _ hat
    refine h v' w' ?_ ?_ ?_
    · show w'.ownsRow B 9 1 v' (l ++ [q, r]).length (strCells (l ++ [q, r]))
      rw [strCells_app, List.length_append]
      exact hrow
    · refine ⟨hg.os, hg.tape, hg.output, ?_, fun k hk hr => ?_⟩
      · have := hg.size; simp at this; omega
      · rw [hg.block k (by simp; omega) hr]
        exact Below.heap_alloc _ _ _ (by omega)
    · intro g hgv
      rcases hat with h2 | h2
      · exact .inl (by rw [← h2]; exact hgv)
      · rw [h2] at hgv
        have := Option.some.inj hgv
        simp at this
        exact .inr (by omega)
theorem all_stops {M b mb p : Nat} {w0 : World} {kv vv : Value} {Ks Vs : List Str} (hbk : BookAt M b mb w0 kv vv Ks Vs) (hn : Ks.length ≤ 1000000) {w : World} (N : Nat) (hp : w.heap[p]? = some (.cells #[.pointer (some ⟨b, 0, none⟩)] 139 (0, 0))) (hw : Below w0.heap.size w0 w) :
    SeqStopsK Fence.wide N Tryz.prog 151 #[.pointer (some ⟨p, 0, none⟩)] encB (KpL w0.heap.size p p) (fun xs => xs = Ks.zip Vs) (fun pre => pre <+: Ks.zip Vs) (Ks.zip Vs).length w := by
  intro l J Jx W hW hJ hJx hY h0
  refine (all1_in l M b mb p w0 kv vv Ks Vs hbk hn J Jx W N hY ((hW.block p (Array.getElem?_eq_some_iff.1 hp).1).trans hp) (hw.trans (hW.mono hw.size)) h0).mono ?_
  rintro e W' ⟨he, h | ⟨pre, hpre, h⟩⟩
  · exact ⟨he, .inl ⟨_, rfl, h⟩⟩
  · exact ⟨he, .inr ⟨pre, hpre, h⟩⟩
/-- between two rounds of 'pairs' -/
structure PrAt (o M : Nat) (w : World) (v : Value) (pre : List (Str × Str)) (W : World) : Prop where
  big : M ≤ W.heap.size
  l : W.heap[o]? = some (.cells #[v] 22 (0, 0))
  row : RowS M W v (flatP pre)
  low : Below o w W
theorem PrAt.own {o B M : Nat} {w : World} (hB : o ≤ B) (hbw : o ≤ w.heap.size) : OwnFrom B (fun pre W => ∃ v, PrAt o M w v pre W) := by
  rintro pre X Y row ⟨v, h⟩ hg hr
  have hr' : ∀ r, row = some r → o ≤ r ∧ ∃ ob : Obj, X.heap[r]? = some ob ∧ ob.isCells = false := fun r e => ⟨Nat.le_trans hB (hr r e).1, (hr r e).2⟩
  exact ⟨v, Nat.le_trans h.big hg.size, cells_turn hg hr h.l, ownsRow_heap2 h.row fun g cur _ hc => cells_turn hg hr hc, below_turn h.low hbw hg hr'⟩
/-- the temporaries in a round -/
def prTmps (b o : Nat) (x : Str × Str) : Array Value := #[.pointer (some ⟨b, 0, none⟩), undef, .slice none 0 0, .pointer (some ⟨o, 0, none⟩), .string ⟨x.1.toArray⟩, .string ⟨x.2.toArray⟩, .pointer (some ⟨b, 0, none⟩),
  .func (.func 151) #[] #[.pointer (some ⟨o + 1, 0, none⟩)], .string ⟨x.1.toArray⟩, .string ⟨x.2.toArray⟩, undef, undef, undef, undef, undef, undef]
set_option maxRecDepth 100000 in
set_option maxHeartbeats 1000000 in
theorem pairs_fn {M b mb : Nat} {w : World} {kv vv : Value} {Ks Vs : List Str} (hbk : BookAt M b mb w kv vv Ks Vs) (hn : Ks.length ≤ 1000000) :
    Calls Tryz.prog 94 #[.pointer (some ⟨b, 0, none⟩)] w fun e w' => ∃ v, e = .returned v ∧ RowS w.heap.size w' v (flatP (Ks.zip Vs)) ∧ Below w.heap.size w w' := by
  refine (callsIn_wide (n := 5)).1 ?_
  refine callsIn_of_wp_marks Tryz.func94 rfl trivial ?_ rfl
  simp only [Tryz.ntmps94, List.size_toArray, List.length_cons, List.length_nil, Nat.reduceAdd, Nat.reduceSub, Array.replicate_succ, Array.replicate_zero, List.push_toArray, List.append_toArray, List.nil_append, List.cons_append]
  obtain ⟨W0, hW0⟩ : ∃ W0, W0 = w.alloc (.cells #[.slice none 0 0] 22) := ⟨_, rfl⟩
  have hs0 : W0.heap.size = w.heap.size + 1 := by rw [hW0]; simp
  have h0 : W0.heap[w.heap.size]? = some (.cells #[.slice none 0 0] 22 (0, 0)) := by rw [hW0]; exact heap_alloc_new _ _
  have hb0 : Below w.heap.size w W0 := by rw [hW0]; exact (Below.refl _ _).alloc (Nat.le_refl _) _
  have hal := all_fn b W0
  have HAL := hid hal
  have HW0 := hid hW0
  have H0 := hid h0
  have HB0 := hid hb0
  have HS0 := hid hs0
  have HBK := hid hbk
  clear hW0 h0 hb0 hs0 hal hbk
  gi_wp2_with (refine ⟨trivial, ?_⟩; gi_at_call 124; rw [← HW0.out]; refine (callsIn_wide.2 HAL.out).mono ?_; rintro e w1 ⟨rfl, hw1⟩)
  rw [← hw1]
  obtain ⟨o, ho⟩ : ∃ o, o = w.heap.size := ⟨_, rfl⟩
  have hsz1 : w1.heap.size = w.heap.size + 1 + 1 := by rw [hw1]; simp; exact HS0.out
  have hep : w1.heap[w.heap.size + 1]? = some (.cells #[.pointer (some ⟨b, 0, none⟩)] 139 (0, 0)) := by
    rw [hw1, ← HS0.out]
    exact heap_alloc_new _ _
  have hl1 : w1.heap[w.heap.size]? = some (.cells #[.slice none 0 0] 22 (0, 0)) := by
    rw [hw1, Below.heap_alloc _ _ _ (by rw [HS0.out]; omega)]
    exact H0.out
  have hbw : Below w.heap.size w w1 := by rw [hw1]; exact HB0.out.alloc (by rw [HS0.out]; omega) _
  have hst := hid (all_stops HBK.out hn 4 hep hbw)
  have hI0 : ∃ v, PrAt w.heap.size w1.heap.size w v [] w1 := ⟨_, Nat.le_refl _, hl1, RowS.nil _ _, hbw⟩
  rw [HS0.out]
  have HO := hid ho
  rw [← ho] at hep hst hsz1 hI0 ⊢
  have hbw1 : o ≤ w.heap.size := by omega
  have hnz : (Ks.zip Vs).length ≤ 1000000 := by rw [List.length_zip]; omega
  clear hw1 HAL HW0 H0 HB0 HS0 hl1 hbw ho
  refine wpIn_rangeFunc_ownH rfl (by omega) (gf := 151) (lb := #[.pointer (some ⟨o + 1, 0, none⟩)]) rfl trivial (enters_of Tryz.func151 (by kernel_rfl) rfl)
    hst.out KpL.trans (fun W l ob ob' hl h h1 h2 => ⟨belowK_b (w := w1) (by omega) W l ob ob' hl h h1 h2, World.putObj_heap_other (by omega), World.putObj_heap_other (by omega)⟩) (Below.refl _ _) (fun _ => rfl)
    (fun pre W => ∃ v, PrAt o w1.heap.size w v pre W) (fun _ _ _ => False)
    (PrAt.own (by omega) hbw1) (fun c s' X Y row h hg hr => h) hI0
    (fun x a' W => a' = { tmps := prTmps b o x, defers := [] })
    (fun x a' s' X Y row h hg hr => h) ?assign ?body ?done ?stop
  case assign =>
    rintro l pre x W K ⟨v, hi⟩ hK
    unfold encB
    gi_wp2
    exact hK _ _ ((KeepsOthers.refl _).from _) (KpL.refl _ _ _ _) ⟨v, hi⟩ rfl
  case body =>
    rintro l pre ⟨k, y⟩ a' W hl hr ⟨v, hi⟩ rfl hlt
    obtain ⟨av, cv, ev⟩ := hi.row.shape
    obtain ⟨n, hn0⟩ : ∃ n, n = (flatP pre).length := ⟨_, rfl⟩
    have hpl := flatP_len pre
    rw [← hn0] at ev
    subst ev
    have l0 : W.cell? ⟨o, 0, none⟩ = some (.slice av n cv) := by rw [Lib.cell_of_heap hi.l]; rfl
    have l1 : W.frozen? ⟨o, 0, none⟩ = false := Lib.frozen_of_heap hi.l 0
    have HI := hid hi
    have hnl : (flatP pre).length ≤ 10000000 := by omega
    clear hi hn0
    unfold prTmps
    dsimp only
    gi_wp2_with (gi_at_builtin; refine app_twoIn rfl rfl (.tmp 10) (.tmp 13) rfl w1.heap.size _ _ k y rfl HI.out.row rfl HI.out.big hnl ?_; intro v9 w9 hr9 hg9 hv9; obtain ⟨a9, c9, e9⟩ := RowS.shape hr9; obtain ⟨n9, hn9⟩ : ∃ n9, n9 = (flatP pre ++ [k, y]).length := ⟨_, rfl⟩; rw [← hn9] at e9; subst e9; have hob := HI.out.row.lt; have hob9 : w9.heap[o]? = some (.cells #[.slice av n cv] 22 (0, 0)) := (hg9.block o (by have := HI.out.big; omega) (fun e => by have := (hob o e.symm).2; omega)).trans HI.out.l; have co9 : w9.cell? ⟨o, 0, none⟩ = some (.slice av n cv) := (by rw [Lib.cell_of_heap hob9]; rfl); have fo9 : w9.frozen? ⟨o, 0, none⟩ = false := Lib.frozen_of_heap hob9 0; have HR9 := hid hr9; have HG9 := hid hg9; have HV9 := hid hv9; have HOB := hid hob; have HOB9 := hid hob9; clear hr9 hg9 hv9 hob hob9 hn9)
    have same : ∀ g, g < w1.heap.size → w9.heap[g]? = W.heap[g]? := fun g hg => HG9.out.block g (by have := HI.out.big; omega) (fun e => by have := (HOB.out g e.symm).2; omega)
    have hset : ∀ g, g ≠ o → (w9.setCell ⟨o, 0, none⟩ (.slice a9 n9 c9)).heap[g]? = w9.heap[g]? := fun g hg => Below.heap_setCell _ _ _ _ fun e => hg e
    have hbl : Below o W w9 := ⟨HG9.out.os, HG9.out.tape, HG9.out.output, HG9.out.size, fun g hg => same g (by omega)⟩
    have hk9 : KeepsOthers W w9 := KeepsOthers.of_grownBy HG9.out fun j ob e hob => by
      obtain ⟨_, cur, hc⟩ := ownsRow_lt HI.out.row j e
      rw [hc] at hob
      cases hob
      rfl
    refine ⟨(hk9.trans (KeepsOthers.setCell _ _ _)).from _, ⟨hbl.setCell (Nat.le_refl _) _, (hset _ (by omega)).trans (same _ (by omega)), (hset _ (by omega)).trans (same _ (by omega))⟩, .slice a9 n9 c9, ?_, ?_, ?_, ?_⟩
    · have := HI.out.big
      have := HG9.out.size
      simp [World.setCell]
      omega
    · simp [World.setCell, Array.getElem?_modify, HOB9.out]
    · rw [flatP_snoc]
      exact ownsRow_heap HR9.out fun g hg => hset g (by have := (HR9.out.lt g hg).2; omega)
    · exact (HI.out.low.trans hbl).setCell (Nat.le_refl _) _
  case done =>
    rintro D xs W hD rfl ⟨v, hi⟩ hK
    have l0 : W.cell? ⟨o, 0, none⟩ = some v := by rw [Lib.cell_of_heap hi.l]; rfl
    obtain ⟨av, cv, ev⟩ := hi.row.shape
    obtain ⟨n, hn0⟩ : ∃ n, n = (flatP (Ks.zip Vs)).length := ⟨_, rfl⟩
    rw [← hn0] at ev
    subst ev
    have HI := hid hi
    clear hi hn0
    gi_wp2
    have hne : ∀ k, (∃ (cs : Array Value) (t : TypeId), W.heap[k]? = some (Obj.cells cs t (0, 0))) → (W.putObj D (.deferred none)).heap[k]? = W.heap[k]? := fun k hk => World.putObj_heap_other (by
      rintro rfl
      obtain ⟨cs, t, hk⟩ := hk
      rw [hK] at hk
      cases hk)
    refine ⟨by simp, .inl ⟨_, _, rfl, run_takeDeferred hK, ?_⟩⟩
    refine ⟨.slice av n cv, ?_, _, rfl, RowS.mono (B := w1.heap.size) (show RowS _ _ _ _ from ownsRow_heap2 HI.out.row fun g cur hg hc => (hne g ⟨_, _, hc⟩).trans hc) (by have := HO.out; omega), ?_⟩
    · simp [results, Tryz.results94, asAddr, go_sem]
    · rw [← HO.out]
      exact HI.out.low.trans ⟨rfl, rfl, rfl, by rw [World.putObj_size]; exact Nat.le_refl _, fun k hk => World.putObj_heap_other (by omega)⟩
  case stop =>
    rintro D c pre W hD hpre h hK
    cases h
/-- what 'Pairs' answers: keys and values by turns, or 11 -/
def pairsE (s : Str) : List Str × Int :=
  if (splitE s).2.2 = 0 ∧ (splitE s).1.length % 2 = 0 then (flatP ((bookOf [] [] (splitE s).1).1.zip (bookOf [] [] (splitE s).1).2), 0) else ([], 11)
theorem bookOf_len : ∀ (l Ks Vs : List Str), (bookOf Ks Vs l).1.length ≤ Ks.length + l.length
  | [], _, _ => by simp [bookOf]
  | [_], _, _ => by simp [bookOf]
  | k :: x :: l, Ks, Vs => by
    have h := bookOf_len l (setK Ks k) (setV Ks Vs k x)
    have := setK_len Ks k
    rw [bookOf]
    simp
    omega
theorem BookAt.lower {M C b mb : Nat} {w : World} {kv vv : Value} {Ks Vs : List Str} (h : BookAt M b mb w kv vv Ks Vs) (hC : C ≤ M) : BookAt C b mb w kv vv Ks Vs :=
  ⟨⟨Nat.le_trans hC h.lo.1, Nat.le_trans hC h.lo.2.1, Nat.le_trans hC h.lo.2.2⟩, h.blk, h.mp, h.krow.mono hC, h.vrow.mono hC, h.sep, h.len⟩
set_option maxRecDepth 100000 in
set_option maxHeartbeats 1000000 in
theorem read_fn (s : Str) (hs : s.length ≤ 100000) (w : World) : Calls Tryz.prog 93 #[.string ⟨s.toArray⟩] w fun e w' => Below w.heap.size w w' ∧
    if (splitE s).2.2 = 0 ∧ (splitE s).1.length % 2 = 0 then ∃ b mb kv vv, e = .returned (.tuple #[.pointer (some ⟨b, 0, none⟩), .int .i64 0]) ∧ BookAt w.heap.size b mb w' kv vv (bookOf [] [] (splitE s).1).1 (bookOf [] [] (splitE s).1).2
    else e = .returned (.tuple #[.pointer none, .int .i64 11]) := by
  have HS := hid (split_fn s (by omega) w)
  obtain ⟨l, hl⟩ : ∃ l, l = (splitE s).1 := ⟨_, rfl⟩
  obtain ⟨at0, hat⟩ : ∃ x, x = (splitE s).2.1 := ⟨_, rfl⟩
  obtain ⟨er, her⟩ : ∃ x, x = (splitE s).2.2 := ⟨_, rfl⟩
  have hll : l.length ≤ 100000 ∧ ∀ x ∈ l, x.length ≤ 1000000 := by
    have h := splitE_out s
    rw [← hl] at h
    exact ⟨by omega, fun x hx => by have := sumL_mem l x hx; omega⟩
  unfold SplitQ at HS
  rw [← hl, ← hat, ← her] at HS
  rw [← hl, ← her]
  clear hl hat her
  by_cases he : er = 0
  · subst he
    by_cases h2 : l.length % 2 = 0
    · have hm : (((l.length : Nat) : Int) % 2 != 0) = false := by rw [bne_eq_false_iff_eq]; omega
      simp only [true_and, h2, if_true]
      go_enter Tryz.func93, Tryz.ntmps93
      go_wp2_with fail
      (with_reducible refine HS.out.mono ?_); rintro e w1 ⟨hb, v, rfl, hv⟩
      have HO := hid (of_fn hv hll.1 hll.2)
      obtain ⟨a, c, rfl⟩ := hv.shape
      have HB := hid hb
      clear hv hb hll
      go_wp2_with fail
      (with_reducible refine HO.out.mono ?_); rintro e w2 ⟨b, mb, kv, vv, rfl, hbk, hb2⟩
      have HBK := hid hbk
      have HB2 := hid hb2
      clear hbk hb2
      go_wp2
      go_ret2
      refine ⟨HB.out.trans (HB2.out.mono HB.out.size), b, mb, kv, vv, rfl, HBK.out.lower HB.out.size⟩
    · have hm : (((l.length : Nat) : Int) % 2 != 0) = true := by rw [bne_iff_ne]; omega
      simp only [true_and, h2, if_false]
      go_enter Tryz.func93, Tryz.ntmps93
      go_wp2_with fail
      (with_reducible refine HS.out.mono ?_); rintro e w1 ⟨hb, v, rfl, hv⟩
      obtain ⟨a, c, rfl⟩ := hv.shape
      have HB := hid hb
      clear hv hb hll
      go_wp2
      go_ret2
      exact ⟨HB.out, rfl⟩
  · have hne : (er != 0) = true := by rw [bne_iff_ne]; exact he
    simp only [he, false_and, if_false]
    go_enter Tryz.func93, Tryz.ntmps93
    go_wp2_with fail
    (with_reducible refine HS.out.mono ?_); rintro e w1 ⟨hb, v, rfl, hv⟩
    have hun : undef = .tuple #[] := rfl
    have HB := hid hb
    clear hv hb
    go_wp2
    go_ret2
    exact ⟨HB.out, rfl⟩
set_option maxRecDepth 100000 in
set_option maxHeartbeats 1000000 in
theorem dictPairs_fn (s : Str) (hs : s.length ≤ 100000) (w : World) : Calls Tryz.prog 62 #[.string ⟨s.toArray⟩] w fun e w' => Below w.heap.size w w' ∧ ∃ v, e = .returned (.tuple #[v, .int .i64 (pairsE s).2]) ∧ RowS w.heap.size w' v (pairsE s).1 := by
  have HS := hid (read_fn s hs w)
  unfold pairsE
  by_cases h : (splitE s).2.2 = 0 ∧ (splitE s).1.length % 2 = 0
  · simp only [if_pos h] at HS ⊢
    have hbl := bookOf_len (splitE s).1 [] []
    have hso := (splitE_out s).1
    have hkl : (bookOf [] [] (splitE s).1).1.length ≤ 1000000 := by simp at hbl; omega
    clear h hbl hso
    generalize (splitE s).1 = l at HS hkl ⊢
    go_enter Tryz.func62, Tryz.ntmps62
    go_wp2_with fail
    (with_reducible refine HS.out.mono ?_); rintro e w1 ⟨hb, b, mb, kv, vv, rfl, hbk⟩
    have HP := hid (pairs_fn hbk hkl)
    have HB := hid hb
    clear hbk hb
    go_wp2_with fail
    (with_reducible refine HP.out.mono ?_); rintro e w2 ⟨v, rfl, hr, hb2⟩
    obtain ⟨a, c, e2⟩ := hr.shape
    obtain ⟨n, hn⟩ : ∃ n, n = (flatP ((bookOf [] [] l).1.zip (bookOf [] [] l).2)).length := ⟨_, rfl⟩
    rw [← hn] at e2
    subst e2
    have HR := hid hr
    have HB2 := hid hb2
    clear hr hb2 hn
    go_wp2
    go_ret2
    exact ⟨HB.out.trans (HB2.out.mono HB.out.size), _, rfl, HR.out.mono HB.out.size⟩
  · simp only [if_neg h] at HS ⊢
    clear h
    go_enter Tryz.func62, Tryz.ntmps62
    go_wp2_with fail
    (with_reducible refine HS.out.mono ?_); rintro e w1 ⟨hb, rfl⟩
    have HB := hid hb
    clear hb
    go_wp2
    go_ret2
    exact ⟨HB.out, _, rfl, RowS.nil _ _⟩
end Go.Proofs.YtabhkoklcjhlpaaGreatDoor.Pz
