/-
  Part K4 of the proofs of this seat: contracts of functions and plain facts, merged from 13 texts.
-/
import Derived.BigQuiet
import Derived.Deep.QuietTactic
import Derived.Shelf.Strconv.Atoi
import Derived.Shelf.Strings.AsciiSet
import Derived.Ground.Names2Prog
import Derived.Ground.SlgnProg
import Derived.Shelf.LaysM
import Derived.Test.YtheiageokcgbhaaGreatDoorProg
import Derived.Shelf.Strings.Trim
import Derived.Shelf.Strings.SlTrimAscii
import Derived.Lib.AtoiErrMem
import Derived.Test.YtheiageokcgbhaaGreatDoorRows
import Derived.Deep.DeepHandedRow
import Derived.ProofKit
import Derived.OpenShut
import Derived.ChangeMaps5
import Derived.Carry
import Derived.SliceStrings
import Derived.Test.YtheiageokcgbhaaGreatDoorK0
import Derived.Test.YtheiageokcgbhaaGreatDoorK1
import Derived.Test.YtheiageokcgbhaaGreatDoorK2
import Derived.Test.YtheiageokcgbhaaGreatDoorK3
/-
  A region that draws its order: pure operations that nothing waits for may come late (U_pure); what is listed already is asked no more (U_take3).
-/
namespace Go.Proofs.YtheiageokcgbhaaGreatDoor.Pz
open Go.RowKit
section
variable {P : Program} {ops : Array Oper} {Q : Exit → Act → World → Prop} {md : Region.Mode} {S : World → Prop} {late : Nat → Bool}
theorem U_pureF {i f : Nat} {oi : Oper} {v : Value} (hi : ops[i]? = some oi) (hsel : ∀ (j : Nat) (o : Oper) cs b, ops[j]? = some o → o.op ≠ .select cs b)
    (hQ : ∀ c a w, Q (.panic c) (a.put oi.dst v) w → Q (.panic c) a w) (hli : late i = true) :
    ∀ (fuel : Nat) (listed : Array Bool) (a : Act) (w : World), Closed md ops listed →
      (∀ j oj, ops[j]? = some oj → j ≠ i → listed.getD j true = false → waitsN md ops f j i = false → oi.apart ops oj = true) →
      i ∈ Region.ready md ops listed → YieldsIf P ops (fun _ => True) oi v a →
      anyU P md ops Q late S fuel (listed.setIfInBounds i true) (a.put oi.dst v) w → anyU P md ops Q late S (fuel + 1) listed a w
  | 0, listed, a, w, _, _, hr, hy, H => by
    refine ⟨fun h => (by rw [h] at hr; cases hr), fun j hj => ?_⟩
    rcases Nat.decEq j i with hji | rfl
    · have hm := ready_mono hj hji
      rw [H.1] at hm; cases hm
    · exact hy.wpOp hi trivial ⟨.inl hli, H⟩
  | fuel + 1, listed, a, w, hcl, hfree, hr, hy, H => by
    refine ⟨fun h => (by rw [h] at hr; cases hr), fun j hj => ?_⟩
    rcases Nat.decEq j i with hji | rfl
    · obtain ⟨hjun, oj, hoj, hall⟩ := mem_ready.1 hj
      have hno : waitsN md ops f j i = false := by
        cases hw : waitsN md ops f j i with
        | false => rfl
        | true =>
          have h1 := waitsN_listed hw hcl hj
          rw [unlisted_of_ready hr] at h1; cases h1
      have h2 := wpOp_putIf hoj (hfree j oj hoj hji hjun hno) (fun cs b => hsel i oi cs b hi) (fun cs b => hsel j oj cs b hoj) hQ hy (H.2 j (ready_mono hj hji))
      refine wpOp_mono (fun b u k => ?_) h2
      refine ⟨k.2.1, U_pureF (f := f) hi hsel hQ hli fuel _ b u (hcl.add hj) ?_ (ready_mono hr (Ne.symm hji)) k.1 ?_⟩
      · intro l ol hol hli hun hw
        refine hfree l ol hol hli ?_ hw
        by_cases hjl : j = l
        · exact hjl ▸ hjun
        · rwa [getD_set_ne true hjl] at hun
      · rw [Array.setIfInBounds_comm _ _ hji]; exact k.2.2
    · exact hy.wpOp hi trivial ⟨.inl hli, H⟩
theorem U_pure (f : Nat) {i : Nat} {oi : Oper} {v : Value} {fuel : Nat} {listed : Array Bool} {a : Act} {w : World} (hi : ops[i]? = some oi)
    (hs : Region.noSelect ops = true) (hf : freeN md ops listed f i = true) (hr : (Region.ready md ops listed).contains i = true) (hl : late i = true) (hc : closedB md ops listed = true)
    (hQ : ∀ c a w, Q (.panic c) (a.put oi.dst v) w → Q (.panic c) a w) (hy : YieldsIf P ops (fun _ => True) oi v a)
    (h : anyU P md ops Q late S fuel (listed.setIfInBounds i true) (a.put oi.dst v) w) : anyU P md ops Q late S (fuel + 1) listed a w :=
  U_pureF hi (Region.noSelect_spec hs) hQ hl fuel listed a w (closedB_spec hc) (freeN_spec hi hf) (by simpa using hr) hy h
theorem U_first3 {i f : Nat} {oi : Oper} {v : Value} (hi : ops[i]? = some oi) (hsel : ∀ (j : Nat) (o : Oper) cs b, ops[j]? = some o → o.op ≠ .select cs b)
    (hQ : ∀ c a w, Q (.panic c) (a.put oi.dst v) w → Q (.panic c) a w) :
    ∀ (fuel : Nat) (listed : Array Bool) (a : Act) (w : World), Closed md ops listed →
      (∀ j, j < ops.size → late j = true → listed.getD j true = false → waitsN md ops f j i = true) →
      (∀ j oj, ops[j]? = some oj → j ≠ i → listed.getD j true = false → waitsN md ops f j i = false → oi.apart ops oj = true) →
      i ∈ Region.ready md ops listed → YieldsIf P ops S oi v a → S w →
      anyU P md ops Q late S fuel (listed.setIfInBounds i true) (a.put oi.dst v) w → anyU P md ops Q late S (fuel + 1) listed a w
  | 0, listed, a, w, _, _, _, hr, hy, hS, H => by
    refine ⟨fun h => (by rw [h] at hr; cases hr), fun j hj => ?_⟩
    rcases Nat.decEq j i with hji | rfl
    · have hm := ready_mono hj hji
      rw [H.1] at hm; cases hm
    · exact hy.wpOp hi hS ⟨.inr hS, H⟩
  | fuel + 1, listed, a, w, hcl, hlate, hfree, hr, hy, hS, H => by
    refine ⟨fun h => (by rw [h] at hr; cases hr), fun j hj => ?_⟩
    rcases Nat.decEq j i with hji | rfl
    · obtain ⟨hjun, oj, hoj, hall⟩ := mem_ready.1 hj
      have hno : waitsN md ops f j i = false := by
        cases hw : waitsN md ops f j i with
        | false => rfl
        | true =>
          have h1 := waitsN_listed hw hcl hj
          rw [unlisted_of_ready hr] at h1; cases h1
      have hnl : ¬ late j = true := fun hl => by
        rw [hlate j (Array.getElem?_eq_some_iff.1 hoj).1 hl hjun] at hno; cases hno
      have h2 := wpOp_putIf hoj (hfree j oj hoj hji hjun hno) (fun cs b => hsel i oi cs b hi) (fun cs b => hsel j oj cs b hoj) hQ hy (H.2 j (ready_mono hj hji))
      refine wpOp_mono (fun b u k => ?_) h2
      have hSu := k.2.1.resolve_left hnl
      have hunl : ∀ l, (listed.setIfInBounds j true).getD l true = false → listed.getD l true = false := fun l hun => by
        by_cases hjl : j = l
        · exact hjl ▸ hjun
        · rwa [getD_set_ne true hjl] at hun
      refine ⟨.inr hSu, U_first3 (f := f) hi hsel hQ fuel _ b u (hcl.add hj) (fun l h1 h2 h3 => hlate l h1 h2 (hunl l h3)) (fun l ol hol hli hun hw => hfree l ol hol hli (hunl l hun) hw) (ready_mono hr (Ne.symm hji)) k.1 hSu ?_⟩
      rw [Array.setIfInBounds_comm _ _ hji]; exact k.2.2
    · exact hy.wpOp hi hS ⟨.inr hS, H⟩
def lateL (md : Region.Mode) (ops : Array Oper) (late : Nat → Bool) (listed : Array Bool) (f i : Nat) : Bool := (List.range ops.size).all fun j => !late j || listed.getD j true || waitsN md ops f j i
theorem U_take3 (f : Nat) {i : Nat} {oi : Oper} {v : Value} {fuel : Nat} {listed : Array Bool} {a : Act} {w : World} (hi : ops[i]? = some oi)
    (hs : Region.noSelect ops = true) (hf : freeN md ops listed f i = true) (hr : (Region.ready md ops listed).contains i = true) (hl : lateL md ops late listed f i = true) (hc : closedB md ops listed = true)
    (hQ : ∀ c a w, Q (.panic c) (a.put oi.dst v) w → Q (.panic c) a w) (hy : YieldsIf P ops S oi v a) (hS : S w)
    (h : anyU P md ops Q late S fuel (listed.setIfInBounds i true) (a.put oi.dst v) w) : anyU P md ops Q late S (fuel + 1) listed a w :=
  U_first3 hi (Region.noSelect_spec hs) hQ fuel listed a w (closedB_spec hc) (fun j h1 h2 h3 => by
    have h4 := List.all_eq_true.1 hl j (List.mem_range.2 h1)
    rw [h2, h3] at h4
    simpa using h4) (freeN_spec hi hf) (by simpa using hr) hy hS h
end
end Go.Proofs.YtheiageokcgbhaaGreatDoor.Pz
/-
  Lists: slices.insertionSortCmpFunc of rows of texts, whatever compares.
-/
namespace Go.Proofs.YtheiageokcgbhaaGreatDoor.Pz
open Go.RowKit
/-- only some blocks of those that there were are written -/
structure Only (A : List Nat) (w w' : World) : Prop where
  os : w'.os = w.os
  tape : w'.tape = w.tape
  output : w'.output = w.output
  size : w.heap.size ≤ w'.heap.size
  block : ∀ k, k < w.heap.size → k ∉ A → w'.heap[k]? = w.heap[k]?
theorem Only.of {w w' : World} (h : Below w.heap.size w w') (A : List Nat) : Only A w w' := ⟨h.os, h.tape, h.output, h.size, fun k hk _ => h.block k hk⟩
theorem Only.refl (A : List Nat) (w : World) : Only A w w := .of (Below.refl _ _) A
theorem Only.trans {A : List Nat} {w1 w2 w3 : World} (h : Only A w1 w2) (k : Only A w2 w3) : Only A w1 w3 :=
  ⟨k.os.trans h.os, k.tape.trans h.tape, k.output.trans h.output, Nat.le_trans h.size k.size, fun b hb hA => (k.block b (Nat.lt_of_lt_of_le hb h.size) hA).trans (h.block b hb hA)⟩
theorem Only.low {A : List Nat} {w w' : World} (h : Only A w w') {B : Nat} (hB : B ≤ w.heap.size) (hA : ∀ k ∈ A, B ≤ k) : Below B w w' :=
  ⟨h.os, h.tape, h.output, h.size, fun k hk => h.block k (Nat.lt_of_lt_of_le hk hB) fun e => by have := hA k e; omega⟩
theorem Only.cells {A : List Nat} {w w' : World} (h : Only A w w') {k : Nat} {o : Obj} (hk : w.heap[k]? = some o) (hA : k ∉ A) : w'.heap[k]? = some o := (h.block k (Array.getElem?_eq_some_iff.1 hk).1 hA).trans hk
theorem Only.set {A : List Nat} {w : World} {a : Addr} (ha : a.block ∈ A) (v : Value) : Only A w (w.setCell a v) :=
  ⟨rfl, rfl, rfl, by simp [World.setCell], fun k _ hk => Below.heap_setCell _ _ _ _ fun e => hk (by rw [e]; exact ha)⟩
theorem RowS.stored {B : Nat} {w : World} {g n c : Nat} {l : List Str} (h : RowS B w (.slice (some ⟨g, 0, none⟩) n c) l) (i : Nat) (x : Str) :
    RowS B (w.setCell ⟨g, i, none⟩ (.string ⟨x.toArray⟩)) (.slice (some ⟨g, 0, none⟩) n c) (l.set i x) ∧ Only [g] w (w.setCell ⟨g, i, none⟩ (.string ⟨x.toArray⟩)) := by
  have hn : n = l.length := by
    obtain ⟨a', c', e⟩ := h.shape
    simp only [Value.slice.injEq] at e
    exact e.2.1
  have hr' := h
  unfold RowS at hr'
  rw [← hn] at hr'
  obtain ⟨s1, _⟩ := World.ownsRow.stored hr' i (.string ⟨x.toArray⟩)
  refine ⟨?_, Only.set (by simp) _⟩
  show World.ownsRow _ _ _ _ _ _ _
  rw [show strCells (l.set i x) = (strCells l).set i (.string ⟨x.toArray⟩) by simp [strCells, List.map_set], List.length_set, ← hn]
  exact s1
theorem RowS.frozen {B : Nat} {w : World} {g n c : Nat} {l : List Str} (h : RowS B w (.slice (some ⟨g, 0, none⟩) n c) l) (i : Nat) : w.frozen? ⟨g, i, none⟩ = false := by
  obtain ⟨a', c', e⟩ := h.shape
  simp only [Value.slice.injEq] at e
  have h' := h
  unfold RowS at h'
  rw [← e.2.1] at h'
  exact h'.frozenAt i
/-- what is compared, and that this is all that comparing does, while only the block g is written -/
def CmpOk (D : Str → Prop) (gid : FuncId) (cap : Array Value) (cf : Str → Str → Int) (g : Nat) (w : World) : Prop :=
  ∀ u, Only [g] w u → ∀ x y : Str, D x → D y → Calls Tryz.prog gid (#[.string ⟨x.toArray⟩, .string ⟨y.toArray⟩] ++ cap) u fun e u' => e = .returned (.int .i64 (cf x y)) ∧ Below u.heap.size u u'
theorem CmpOk.only {D : Str → Prop} {gid : FuncId} {cap : Array Value} {cf : Str → Str → Int} {g : Nat} {w u : World} (h : CmpOk D gid cap cf g w) (ho : Only [g] w u) : CmpOk D gid cap cf g u := fun v hv => h v (ho.trans hv)
def swp (l : List Str) (i j : Nat) : List Str := (l.set i (l.getD j [])).set j (l.getD i [])
theorem swp_len (l : List Str) (i j : Nat) : (swp l i j).length = l.length := by simp [swp]
/-- an element goes to its place, from place j down to place a -/
def insRow (cf : Str → Str → Int) (a : Nat) : Nat → List Str → List Str
  | 0, l => l
  | j + 1, l => if a ≤ j ∧ cf (l.getD (j + 1) []) (l.getD j []) < 0 then insRow cf a j (swp l (j + 1) j) else l
theorem insRow_len (cf : Str → Str → Int) (a : Nat) : ∀ (j : Nat) (l : List Str), (insRow cf a j l).length = l.length
  | 0, _ => rfl
  | j + 1, l => by
    rw [insRow]
    split
    · rw [insRow_len cf a j, swp_len]
    · rfl
theorem insRow_stop (cf : Str → Str → Int) {a j : Nat} (l : List Str) (h : j ≤ a) : insRow cf a j l = l := by
  cases j with
  | zero => rfl
  | succ j => rw [insRow, if_neg (by omega)]
/-- the first k elements behind place a, each at its place -/
def insTo (cf : Str → Str → Int) (a : Nat) (l : List Str) : Nat → List Str
  | 0 => l
  | k + 1 => insRow cf a (a + 1 + k) (insTo cf a l k)
theorem insTo_len (cf : Str → Str → Int) (a : Nat) (l : List Str) : ∀ k, (insTo cf a l k).length = l.length
  | 0 => rfl
  | k + 1 => by rw [insTo, insRow_len, insTo_len cf a l k]
theorem swp_mem {l : List Str} {i j : Nat} (hi : i < l.length) (hj : j < l.length) {D : Str → Prop} (h : ∀ x ∈ l, D x) : ∀ x ∈ swp l i j, D x := by
  intro x hx
  unfold swp at hx
  rcases List.mem_or_eq_of_mem_set hx with hx | rfl
  · rcases List.mem_or_eq_of_mem_set hx with hx | rfl
    · exact h x hx
    · rw [List.getD_eq_getElem?_getD, List.getElem?_eq_getElem hj]
      exact h _ (List.getElem_mem hj)
  · rw [List.getD_eq_getElem?_getD, List.getElem?_eq_getElem hi]
    exact h _ (List.getElem_mem hi)
theorem RowS.getD {B : Nat} {w : World} {g n c : Nat} {l : List Str} (h : RowS B w (.slice (some ⟨g, 0, none⟩) n c) l) {i : Nat} (hi : i < l.length) : w.cell? ⟨g, i, none⟩ = some (.string ⟨(l.getD i []).toArray⟩) := by
  obtain ⟨g', e, _, hc⟩ := h.at hi
  simp only [Option.some.injEq, Addr.mk.injEq, and_true] at e
  subst e
  rw [List.getD_eq_getElem?_getD, List.getElem?_eq_getElem hi]
  exact hc
set_option maxRecDepth 100000 in
set_option maxHeartbeats 1000000 in
theorem ins_fn {D : Str → Prop} {gid : FuncId} {cap : Array Value} {cf : Str → Str → Int} {B g n c : Nat} {w : World} {l : List Str} (hr : RowS B w (.slice (some ⟨g, 0, none⟩) n c) l) (hc : CmpOk D gid cap cf g w) (eg : ∀ args w, (callFunc gid args).run Tryz.prog w = .ok (.enter gid args) w)
    (a b : Nat) (hab : a ≤ b) (hb : b ≤ n) (hn : n ≤ 1000000) (hl : ∀ x ∈ l, D x) :
    Calls Tryz.prog 149 #[.slice (some ⟨g, 0, none⟩) n c, .int .i64 (a : Nat), .int .i64 (b : Nat), .func (.func gid) #[] cap] w fun e w' =>
      e = .returned (.tuple #[]) ∧ RowS B w' (.slice (some ⟨g, 0, none⟩) n c) (insTo cf a l (b - (a + 1))) ∧ Only [g] w w' ∧ ∀ x ∈ insTo cf a l (b - (a + 1)), D x := by
  have hnl : n = l.length := by
    obtain ⟨a', c', e⟩ := hr.shape
    simp only [Value.slice.injEq] at e
    exact e.2.1
  have HR := hid hr
  have HC := hid hc
  have HL := hid hl
  have HN := hid hnl
  have hmx : Tryz.prog.follows .mixedOrders = true := by kernel_rfl
  clear hr hc hl hnl
  go_enter Tryz.func149, Tryz.ntmps149
  go_wp2
  go_loopg [8] (b - a) (fun k iv wr => ∃ (i : Nat) (r : List Str), iv = .int .i64 (i : Nat) ∧ a + 1 ≤ i ∧ (i ≤ b ∨ i = a + 1) ∧ r = insTo cf a l (i - (a + 1)) ∧ RowS B wr (.slice (some ⟨g, 0, none⟩) n c) r ∧ Only [g] w wr ∧ (∀ x ∈ r, D x) ∧ k = b + 1 - i)
  case atStart => exact ⟨a + 1, l, by go_num, Nat.le_refl _, .inr rfl, by rw [Nat.sub_self]; rfl, HR.out, Only.refl _ _, HL.out, by omega⟩
  case round =>
    obtain ⟨i, r, rfl, hai, hib, hri, hrow, hon, hrl, rfl⟩ := hrel
    rcases Nat.lt_or_ge i b with hlt | hge
    · obtain ⟨T, hT⟩ : ∃ T, T = insTo cf a l (i + 1 - (a + 1)) := ⟨_, rfl⟩
      have hTr : insRow cf a i r = T := by
        rw [hT, hri, show i + 1 - (a + 1) = (i - (a + 1)) + 1 by omega, insTo, show a + 1 + (i - (a + 1)) = i by omega]
      have hrn : r.length = n := by rw [hri, insTo_len]; exact HN.out.symm
      have HT := hid hT
      have HTR := hid hTr
      have HROW := hid hrow
      have HON := hid hon
      have HRL := hid hrl
      have HRN := hid hrn
      have hlt2 : (i : Int) < (b : Int) := by omega
      clear hT hTr hrow hon hrl hri hrn
      go_wp2
      go_loopg [9] (i - a) (fun k2 jv wr2 => ∃ (j : Nat) (r2 : List Str), jv = .int .i64 (j : Nat) ∧ a ≤ j ∧ j ≤ i ∧ insRow cf a j r2 = T ∧ RowS B wr2 (.slice (some ⟨g, 0, none⟩) n c) r2 ∧ Only [g] w wr2 ∧ (∀ x ∈ r2, D x) ∧ r2.length = n ∧ k2 = j - a)
      case atStart => exact ⟨i, r, rfl, by omega, Nat.le_refl _, HTR.out, HROW.out, HON.out, HRL.out, HRN.out, rfl⟩
      case round =>
        obtain ⟨j, r2, rfl, haj, hji, hTr, hrow, hon, hrl, hrn, rfl⟩ := hrel
        rcases Nat.lt_or_ge a j with hja | hja
        · obtain ⟨p, hp⟩ : ∃ p, p = j := ⟨_, rfl⟩
          obtain ⟨j, rfl⟩ : ∃ j', j = j' + 1 := ⟨j - 1, by omega⟩
          have hc1 := hrow.getD (i := p) (by omega)
          have hc0 := hrow.getD (i := j) (by omega)
          have hx := hrl (r2.getD p []) (by rw [List.getD_eq_getElem?_getD, List.getElem?_eq_getElem (by omega)]; exact List.getElem_mem _)
          have hy := hrl (r2.getD j []) (by rw [List.getD_eq_getElem?_getD, List.getElem?_eq_getElem (by omega)]; exact List.getElem_mem _)
          obtain ⟨x, hx0⟩ : ∃ x, x = r2.getD p [] := ⟨_, rfl⟩
          obtain ⟨y, hy0⟩ : ∃ y, y = r2.getD j [] := ⟨_, rfl⟩
          rw [← hx0] at hc1 hx
          rw [← hy0] at hc0 hy
          have hTT : (if cf x y < 0 then insRow cf a j (swp r2 p j) else r2) = T := by
            rw [← hTr, insRow, ← hp, ← hx0, ← hy0]
            by_cases hn0 : cf x y < 0
            · rw [if_pos hn0, if_pos ⟨by omega, hn0⟩]
            · rw [if_neg hn0, if_neg (by omega)]
          have hsw : swp r2 p j = (r2.set p y).set j x := by rw [swp, ← hx0, ← hy0]
          have hswl : ∀ z ∈ swp r2 p j, D z := swp_mem (by omega) (by omega) hrl
          have HC1 := hid hc1
          have HC0 := hid hc0
          have HCM := hid (HC.out.only hon)
          have HTT := hid hTT
          have HSW := hid hsw
          have HSWL := hid hswl
          have HROW2 := hid hrow
          have HON2 := hid hon
          have HRL2 := hid hrl
          have HRN2 := hid hrn
          have HP := hid hp
          rw [← hp]
          have hgt : (p : Int) > (a : Int) := by omega
          have hgt2 : (a : Int) < (p : Int) := by omega
          have hp1 : (p : Int) - 1 = (j : Int) := by omega
          have hpi : (0 : Int) ≤ (p : Int) ∧ (p : Int) < (n : Int) := by omega
          have hpi2 : (p : Int) < (n : Int) := by omega
          have hjn : j < n := by omega
          have hpn : p < n := by omega
          clear hc1 hc0 hTr hTT hrow hon hrl hx0 hy0 hsw hswl hrn hp
          go_wp2
          refine U_begin (late := fun _ => false) (S := fun u : World => u.cell? ⟨g, p, none⟩ = some (.string ⟨x.toArray⟩) ∧ u.cell? ⟨g, j, none⟩ = some (.string ⟨y.toArray⟩)) hmx ?_
          have S0 : Hid ((fun u : World => u.cell? ⟨g, p, none⟩ = some (.string ⟨x.toArray⟩) ∧ u.cell? ⟨g, j, none⟩ = some (.string ⟨y.toArray⟩)) wr.drew) := hid ⟨HC1.out, HC0.out⟩
          refine U_take2 8 (i := 0) (v := .int .i64 (p : Nat)) rfl (by kernel_rfl) (by kernel_rfl) (by kernel_rfl) (by kernel_rfl) (by kernel_rfl) (fun _ _ _ h => h) (.inl ⟨rfl, fun u hu => (by go_simp)⟩) S0.out ?_
          refine U_take2 8 (i := 1) (v := .int .i64 (a : Nat)) rfl (by kernel_rfl) (by kernel_rfl) (by kernel_rfl) (by kernel_rfl) (by kernel_rfl) (fun _ _ _ h => h) (.inl ⟨rfl, fun u hu => (by go_simp)⟩) S0.out ?_
          refine U_take2 8 (i := 2) (v := .bool true) rfl (by kernel_rfl) (by kernel_rfl) (by kernel_rfl) (by kernel_rfl) (by kernel_rfl) (fun _ _ _ h => h) (.inl ⟨rfl, fun u hu => (by go_simp)⟩) S0.out ?_
          refine U_take2 8 (i := 3) (v := .bool true) rfl (by kernel_rfl) (by kernel_rfl) (by kernel_rfl) (by kernel_rfl) (by kernel_rfl) (fun _ _ _ h => h) (.inl ⟨rfl, fun u hu => (by go_simp)⟩) S0.out ?_
          refine U_take2 8 (i := 4) (v := .func (.func gid) #[] cap) rfl (by kernel_rfl) (by kernel_rfl) (by kernel_rfl) (by kernel_rfl) (by kernel_rfl) (fun _ _ _ h => h) (.inl ⟨by kernel_rfl, fun u hu => (by go_simp)⟩) S0.out ?_
          refine U_take2 8 (i := 5) (v := .slice (some ⟨g, 0, none⟩) n c) rfl (by kernel_rfl) (by kernel_rfl) (by kernel_rfl) (by kernel_rfl) (by kernel_rfl) (fun _ _ _ h => h) (.inl ⟨by kernel_rfl, fun u hu => (by go_simp)⟩) S0.out ?_
          refine U_take2 8 (i := 6) (v := .int .i64 (p : Nat)) rfl (by kernel_rfl) (by kernel_rfl) (by kernel_rfl) (by kernel_rfl) (by kernel_rfl) (fun _ _ _ h => h) (.inl ⟨by kernel_rfl, fun u hu => (by go_simp)⟩) S0.out ?_
          refine U_take2 8 (i := 7) (v := .pointer (some ⟨g, p, none⟩)) rfl (by kernel_rfl) (by kernel_rfl) (by kernel_rfl) (by kernel_rfl) (by kernel_rfl) (fun _ _ _ h => h) (.inl ⟨by kernel_rfl, fun u hu => (by go_simp)⟩) S0.out ?_
          refine U_take2 8 (i := 8) (v := .string ⟨x.toArray⟩) rfl (by kernel_rfl) (by kernel_rfl) (by kernel_rfl) (by kernel_rfl) (by kernel_rfl) (fun _ _ _ h => h) (.inl ⟨by kernel_rfl, fun u hu => (by obtain ⟨h1, h2⟩ := hu; go_simp)⟩) S0.out ?_
          refine U_take2 8 (i := 9) (v := .slice (some ⟨g, 0, none⟩) n c) rfl (by kernel_rfl) (by kernel_rfl) (by kernel_rfl) (by kernel_rfl) (by kernel_rfl) (fun _ _ _ h => h) (.inl ⟨by kernel_rfl, fun u hu => (by go_simp)⟩) S0.out ?_
          refine U_take2 8 (i := 10) (v := .int .i64 (p : Nat)) rfl (by kernel_rfl) (by kernel_rfl) (by kernel_rfl) (by kernel_rfl) (by kernel_rfl) (fun _ _ _ h => h) (.inl ⟨by kernel_rfl, fun u hu => (by go_simp)⟩) S0.out ?_
          refine U_take2 8 (i := 11) (v := .int .i64 (j : Nat)) rfl (by kernel_rfl) (by kernel_rfl) (by kernel_rfl) (by kernel_rfl) (by kernel_rfl) (fun _ _ _ h => h) (.inl ⟨by kernel_rfl, fun u hu => (by go_simp; exact IntWalk.i64_in _ (by omega))⟩) S0.out ?_
          refine U_take2 8 (i := 12) (v := .pointer (some ⟨g, j, none⟩)) rfl (by kernel_rfl) (by kernel_rfl) (by kernel_rfl) (by kernel_rfl) (by kernel_rfl) (fun _ _ _ h => h) (.inl ⟨by kernel_rfl, fun u hu => (by go_simp)⟩) S0.out ?_
          refine U_take2 8 (i := 13) (v := .string ⟨y.toArray⟩) rfl (by kernel_rfl) (by kernel_rfl) (by kernel_rfl) (by kernel_rfl) (by kernel_rfl) (fun _ _ _ h => h) (.inl ⟨by kernel_rfl, fun u hu => (by obtain ⟨h1, h2⟩ := hu; go_simp)⟩) S0.out ?_
          refine U_step (j := 14) (by kernel_rfl) rfl (fun K hK => ?_)
          go_simp
          refine (HCM.out wr.drew (Only.of (Below.refl _ _).drew _) x y hx hy).mono ?_
          rintro e w3 ⟨rfl, hb3⟩
          have HB3 := hid hb3
          have hgw : g < wr.drew.heap.size := (HROW2.out.lt g rfl).1
          have S3 : Hid ((fun u : World => u.cell? ⟨g, p, none⟩ = some (.string ⟨x.toArray⟩) ∧ u.cell? ⟨g, j, none⟩ = some (.string ⟨y.toArray⟩)) w3) := hid ⟨(hb3.cell (p := ⟨g, p, none⟩) hgw).trans HC1.out, (hb3.cell (p := ⟨g, j, none⟩) hgw).trans HC0.out⟩
          have hb4 : Below wr.heap.size wr w3 := (Below.refl _ _).drew.trans hb3
          have HR3 := hid (HROW2.out.on hb4)
          have HO3 := hid (HON2.out.trans (Only.of hb4 _))
          refine hK.out _ _ (.inr S3.out) ?_
          clear hK K hb3 hb4 hgw
          refine U_step (j := 15) (by kernel_rfl) rfl (fun K hK => ?_)
          go_simp
          refine hK.out _ _ (.inr S3.out) ?_
          clear hK K
          refine U_step (j := 16) (by kernel_rfl) rfl (fun K hK => ?_)
          go_simp
          refine hK.out _ _ (.inr S3.out) ?_
          clear hK K
          refine U_done (by kernel_rfl) ?_ _
          clear S0
          by_cases hneg : cf x y < 0
          · have HTT2 := hid (show insRow cf a j (swp r2 p j) = T by rw [← HTT.out, if_pos hneg])
            have HWR := hid (HR3.out.stored p y)
            have HWR2 := hid (HWR.out.1.stored j x)
            have hfz1 : w3.frozen? ⟨g, p, none⟩ = false := HR3.out.frozen p
            have hfz2 : (w3.setCell ⟨g, p, none⟩ (.string ⟨y.toArray⟩)).frozen? ⟨g, j, none⟩ = false := HWR.out.1.frozen j
            have hcp1 : w3.cell? ⟨g, p, none⟩ = some (.string ⟨x.toArray⟩) := S3.out.1
            have hcp2 : (w3.setCell ⟨g, p, none⟩ (.string ⟨y.toArray⟩)).cell? ⟨g, j, none⟩ = some (.string ⟨y.toArray⟩) := by
              have hne : (⟨g, p, none⟩ : Addr) ≠ ⟨g, j, none⟩ := fun e => by
                simp only [Addr.mk.injEq, true_and, and_true] at e
                have := HP.out
                omega
              exact (World.cell?_setCell_other (w := w3) (v := .string ⟨y.toArray⟩) (h := hne)).trans S3.out.2
            go_wp2
            refine U_begin (late := fun k => decide (15 ≤ k) || k == 2 || k == 3 || k == 4) (S := fun u : World => u.cell? ⟨g, p, none⟩ = some (.string ⟨x.toArray⟩) ∧ u.cell? ⟨g, j, none⟩ = some (.string ⟨y.toArray⟩)) hmx ?_
            have S4 : Hid ((fun u : World => u.cell? ⟨g, p, none⟩ = some (.string ⟨x.toArray⟩) ∧ u.cell? ⟨g, j, none⟩ = some (.string ⟨y.toArray⟩)) w3.drew) := hid S3.out
            refine U_pure 8 (i := 2) (v := .slice (some ⟨g, 0, none⟩) n c) rfl (by kernel_rfl) (by kernel_rfl) (by kernel_rfl) (by kernel_rfl) (by kernel_rfl) (fun _ _ _ h => h) (.inl ⟨rfl, fun u hu => (by go_simp)⟩) ?_
            refine U_pure 8 (i := 3) (v := .int .i64 (p : Nat)) rfl (by kernel_rfl) (by kernel_rfl) (by kernel_rfl) (by kernel_rfl) (by kernel_rfl) (fun _ _ _ h => h) (.inl ⟨rfl, fun u hu => (by go_simp)⟩) ?_
            refine U_pure 8 (i := 4) (v := .int .i64 (j : Nat)) rfl (by kernel_rfl) (by kernel_rfl) (by kernel_rfl) (by kernel_rfl) (by kernel_rfl) (fun _ _ _ h => h) (.inl ⟨rfl, fun u hu => (by go_simp; exact IntWalk.i64_in _ (by omega))⟩) ?_
            refine U_take3 8 (i := 0) (v := .slice (some ⟨g, 0, none⟩) n c) rfl (by kernel_rfl) (by kernel_rfl) (by kernel_rfl) (by kernel_rfl) (by kernel_rfl) (fun _ _ _ h => h) (.inl ⟨rfl, fun u hu => (by go_simp)⟩) S4.out ?_
            refine U_take3 8 (i := 1) (v := .int .i64 (p : Nat)) rfl (by kernel_rfl) (by kernel_rfl) (by kernel_rfl) (by kernel_rfl) (by kernel_rfl) (fun _ _ _ h => h) (.inl ⟨rfl, fun u hu => (by go_simp)⟩) S4.out ?_
            refine U_take3 8 (i := 5) (v := .slice (some ⟨g, 0, none⟩) n c) rfl (by kernel_rfl) (by kernel_rfl) (by kernel_rfl) (by kernel_rfl) (by kernel_rfl) (fun _ _ _ h => h) (.inl ⟨rfl, fun u hu => (by go_simp)⟩) S4.out ?_
            refine U_take3 8 (i := 6) (v := .int .i64 (p : Nat)) rfl (by kernel_rfl) (by kernel_rfl) (by kernel_rfl) (by kernel_rfl) (by kernel_rfl) (fun _ _ _ h => h) (.inl ⟨rfl, fun u hu => (by go_simp)⟩) S4.out ?_
            refine U_take3 8 (i := 7) (v := .int .i64 (j : Nat)) rfl (by kernel_rfl) (by kernel_rfl) (by kernel_rfl) (by kernel_rfl) (by kernel_rfl) (fun _ _ _ h => h) (.inl ⟨rfl, fun u hu => (by go_simp; exact IntWalk.i64_in _ (by omega))⟩) S4.out ?_
            refine U_take3 8 (i := 8) (v := .pointer (some ⟨g, j, none⟩)) rfl (by kernel_rfl) (by kernel_rfl) (by kernel_rfl) (by kernel_rfl) (by kernel_rfl) (fun _ _ _ h => h) (.inl ⟨rfl, fun u hu => (by go_simp)⟩) S4.out ?_
            refine U_take3 8 (i := 9) (v := .string ⟨y.toArray⟩) rfl (by kernel_rfl) (by kernel_rfl) (by kernel_rfl) (by kernel_rfl) (by kernel_rfl) (fun _ _ _ h => h) (.inl ⟨rfl, fun u hu => (by obtain ⟨h1, h2⟩ := hu; go_simp)⟩) S4.out ?_
            refine U_take3 8 (i := 10) (v := .slice (some ⟨g, 0, none⟩) n c) rfl (by kernel_rfl) (by kernel_rfl) (by kernel_rfl) (by kernel_rfl) (by kernel_rfl) (fun _ _ _ h => h) (.inl ⟨rfl, fun u hu => (by go_simp)⟩) S4.out ?_
            refine U_take3 8 (i := 11) (v := .int .i64 (p : Nat)) rfl (by kernel_rfl) (by kernel_rfl) (by kernel_rfl) (by kernel_rfl) (by kernel_rfl) (fun _ _ _ h => h) (.inl ⟨rfl, fun u hu => (by go_simp)⟩) S4.out ?_
            refine U_take3 8 (i := 12) (v := .pointer (some ⟨g, p, none⟩)) rfl (by kernel_rfl) (by kernel_rfl) (by kernel_rfl) (by kernel_rfl) (by kernel_rfl) (fun _ _ _ h => h) (.inl ⟨rfl, fun u hu => (by go_simp)⟩) S4.out ?_
            refine U_take3 8 (i := 13) (v := .string ⟨x.toArray⟩) rfl (by kernel_rfl) (by kernel_rfl) (by kernel_rfl) (by kernel_rfl) (by kernel_rfl) (fun _ _ _ h => h) (.inl ⟨rfl, fun u hu => (by obtain ⟨h1, h2⟩ := hu; go_simp)⟩) S4.out ?_
            refine U_take3 8 (i := 14) (v := .pointer (some ⟨g, p, none⟩)) rfl (by kernel_rfl) (by kernel_rfl) (by kernel_rfl) (by kernel_rfl) (by kernel_rfl) (fun _ _ _ h => h) (.inl ⟨rfl, fun u hu => (by go_simp)⟩) S4.out ?_
            refine U_step (j := 15) (by kernel_rfl) rfl (fun K hK => ?_)
            go_simp
            refine hK.out _ _ (.inl rfl) ?_
            clear hK K
            refine U_step (j := 16) (by kernel_rfl) rfl (fun K hK => ?_)
            go_simp
            refine hK.out _ _ (.inl rfl) ?_
            clear hK K
            refine U_step (j := 17) (by kernel_rfl) rfl (fun K hK => ?_)
            go_simp
            refine hK.out _ _ (.inl rfl) ?_
            clear hK K
            refine U_done (by kernel_rfl) ?_ _
            clear S3 S4 hfz1 hfz2 hcp1 hcp2
            go_wp2
            go_roundg (j - a)
            case measure => omega
            case rel => exact ⟨j, swp r2 p j, by go_num, by omega, by omega, HTT2.out, by rw [HSW.out]; exact HWR2.out.1.on (Below.refl _ _).drew, ((HO3.out.trans HWR.out.2).trans HWR2.out.2).trans (Only.of (Below.refl _ _).drew _), HSWL.out, by rw [swp_len]; exact HRN2.out, rfl⟩
          · have HTT2 := hid (show r2 = T by rw [← HTT.out, if_neg hneg])
            have hge0 : (0 : Int) ≤ cf x y := by omega
            have HIT := hid (show T = insTo cf a l (i + 1 - (a + 1)) from HT.out)
            go_wp2
            go_roundg (b + 1 - (i + 1))
            case measure => omega
            case rel => exact ⟨i + 1, r2, by go_num, by omega, by omega, HTT2.out.trans HIT.out, HR3.out, HO3.out, HRL2.out, rfl⟩
        · obtain rfl : j = a := by omega
          have hTT := insRow_stop cf r2 (Nat.le_refl j)
          rw [hTr] at hTT
          have HTT := hid hTT
          have HIT := hid (show T = insTo cf j l (i + 1 - (j + 1)) from HT.out)
          have HROW2 := hid hrow
          have HON2 := hid hon
          have HRL2 := hid hrl
          have hng : ¬ ((j : Int) > (j : Int)) := by omega
          clear hTr hTT hrow hon hrl hrn
          go_wp2
          go_quiet (fail)
          go_wp2
          go_roundg (b + 1 - (i + 1))
          case measure => omega
          case rel => exact ⟨i + 1, r2, by go_num, by omega, by omega, HTT.out.symm.trans HIT.out, HROW2.out.on (show Below wr.heap.size wr (wr.drewN nq) from ⟨rfl, rfl, rfl, Nat.le_refl _, fun _ _ => rfl⟩), HON2.out.trans (Only.of (show Below wr.heap.size wr (wr.drewN nq) from ⟨rfl, rfl, rfl, Nat.le_refl _, fun _ _ => rfl⟩) _), HRL2.out, rfl⟩
    · have hi : b - (a + 1) = i - (a + 1) := by omega
      have hib2 : ¬ ((i : Int) < (b : Int)) := by omega
      have HROW := hid hrow
      have HON := hid hon
      have HRL := hid hrl
      have HRI := hid hri
      clear hrow hon hrl hri
      go_wp2
      go_end0
      rw [← HRI.out]
      exact ⟨rfl, HROW.out, HON.out, HRL.out⟩
end Go.Proofs.YtheiageokcgbhaaGreatDoor.Pz
/-
  Lists: slices.SortStableFunc of fewer than 20 texts; cmp.Compare.
-/
namespace Go.Proofs.YtheiageokcgbhaaGreatDoor.Pz
open Go.RowKit
set_option maxRecDepth 100000 in
set_option maxHeartbeats 1000000 in
theorem stableS_fn {D : Str → Prop} {gid : FuncId} {cap : Array Value} {cf : Str → Str → Int} {B g n c : Nat} {w : World} {l : List Str} (hr : RowS B w (.slice (some ⟨g, 0, none⟩) n c) l) (hc : CmpOk D gid cap cf g w) (eg : ∀ args w, (callFunc gid args).run Tryz.prog w = .ok (.enter gid args) w)
    (hn : n < 20) (hl : ∀ x ∈ l, D x) :
    Calls Tryz.prog 109 #[.slice (some ⟨g, 0, none⟩) n c, .int .i64 (n : Nat), .func (.func gid) #[] cap] w fun e w' =>
      e = .returned (.tuple #[]) ∧ RowS B w' (.slice (some ⟨g, 0, none⟩) n c) (insTo cf 0 l (n - 1)) ∧ Only [g] w w' ∧ ∀ x ∈ insTo cf 0 l (n - 1), D x := by
  have HI := hid (ins_fn hr hc eg 0 n (Nat.zero_le _) (Nat.le_refl _) (by omega) hl)
  have h1 : ¬ ((20 : Int) ≤ (n : Int)) := by omega
  have h2 : ¬ ((20 : Int) < (n : Int)) := by omega
  clear hr hc hl
  go_enter Tryz.func109, Tryz.ntmps109
  go_wp2
  refine wp_loop_rounds 1 ?_
  rw [rounds_succ]
  go_wp2_with fail
  refine HI.out.mono ?_; rintro e w1 ⟨rfl, hr1, ho1, hl1⟩
  have HR := hid hr1
  have HO := hid ho1
  have HL := hid hl1
  clear hr1 ho1 hl1
  go_wp2_with fail
  refine wp_loop_rounds 1 ?_
  rw [rounds_succ]
  go_wp2
  go_end0
  exact ⟨rfl, HR.out, HO.out, HL.out⟩
set_option maxRecDepth 100000 in
theorem sortS_fn {D : Str → Prop} {gid : FuncId} {cap : Array Value} {cf : Str → Str → Int} {B g n c : Nat} {w : World} {l : List Str} (hr : RowS B w (.slice (some ⟨g, 0, none⟩) n c) l) (hc : CmpOk D gid cap cf g w) (eg : ∀ args w, (callFunc gid args).run Tryz.prog w = .ok (.enter gid args) w)
    (hn : n < 20) (hl : ∀ x ∈ l, D x) :
    Calls Tryz.prog 59 #[.slice (some ⟨g, 0, none⟩) n c, .func (.func gid) #[] cap] w fun e w' =>
      e = .returned (.tuple #[]) ∧ RowS B w' (.slice (some ⟨g, 0, none⟩) n c) (insTo cf 0 l (n - 1)) ∧ Only [g] w w' ∧ ∀ x ∈ insTo cf 0 l (n - 1), D x := by
  have HS := hid (stableS_fn hr hc eg hn hl)
  clear hr hc hl
  go_enter Tryz.func59, Tryz.ntmps59
  go_wp2_with fail
  (with_reducible refine HS.out.mono ?_); rintro e w1 ⟨rfl, hr1, ho1, hl1⟩
  have HR := hid hr1
  have HO := hid ho1
  have HL := hid hl1
  clear hr1 ho1 hl1
  go_wp2
  go_end0
  exact ⟨rfl, HR.out, HO.out, HL.out⟩
theorem isNaN_fn (x : Int) (w : World) : Calls Tryz.prog 145 #[.int .i64 x] w fun e w' => e = .returned (.bool false) ∧ w' = w := by
  go_enter Tryz.func145, Tryz.ntmps145
  go_wp2
  go_ret
  exact ⟨rfl, rfl⟩
def cmpI (x y : Int) : Int := if x < y then -1 else if x > y then 1 else 0
set_option maxRecDepth 100000 in
theorem compareI_fn (x y : Int) (w : World) : Calls Tryz.prog 104 #[.int .i64 x, .int .i64 y] w fun e w' => e = .returned (.int .i64 (cmpI x y)) ∧ w' = w := by
  have H1 := hid (isNaN_fn x w)
  have H2 := hid (isNaN_fn y w)
  unfold cmpI
  by_cases h1 : x < y
  · rw [if_pos h1]
    go_enter Tryz.func104, Tryz.ntmps104
    go_wp2_with fail
    (with_reducible refine H1.out.mono ?_); rintro e w1 ⟨rfl, hw⟩; subst hw
    go_wp2_with fail
    (with_reducible refine H2.out.mono ?_); rintro e w1 ⟨rfl, hw⟩; subst hw
    go_wp2
    go_ret
    exact ⟨rfl, rfl⟩
  · rw [if_neg h1]
    by_cases h2 : x > y
    · rw [if_pos h2]
      go_enter Tryz.func104, Tryz.ntmps104
      go_wp2_with fail
      (with_reducible refine H1.out.mono ?_); rintro e w1 ⟨rfl, hw⟩; subst hw
      go_wp2_with fail
      (with_reducible refine H2.out.mono ?_); rintro e w1 ⟨rfl, hw⟩; subst hw
      go_wp2
      go_ret
      exact ⟨rfl, rfl⟩
    · rw [if_neg h2]
      go_enter Tryz.func104, Tryz.ntmps104
      go_wp2_with fail
      (with_reducible refine H1.out.mono ?_); rintro e w1 ⟨rfl, hw⟩; subst hw
      go_wp2_with fail
      (with_reducible refine H2.out.mono ?_); rintro e w1 ⟨rfl, hw⟩; subst hw
      go_wp2
      go_ret
      exact ⟨rfl, rfl⟩
end Go.Proofs.YtheiageokcgbhaaGreatDoor.Pz
/-
  Contracts of the library, laid at this program by the kit's shelf tools.
-/
namespace Go.Proofs.YtheiageokcgbhaaGreatDoor.Pz
open Go.Shelf
def Tryz.lays227_ren : Go.Shelf.Ren := ⟨fun | 227 => 138 | n => n, fun | 9 => 9 | 116 => 135 | 4 => 4 | 0 => 0 | 3 => 3 | 5 => 5 | n => n, fun | n => n⟩
theorem Tryz.lays227 : Go.Proofs.Lays.n227 Tryz.prog Tryz.lays227_ren := {
  mixed := by kernel_rfl
  f227 := Tryz.func138.trans (congrArg some (by kernel_rfl))
  t0 := Tryz.underlying0
  a0 := Tryz.isAgg0
  z0 := Tryz.sizeOf0
  v0 := Tryz.zeroValue0
  t3 := Tryz.underlying3
  a3 := Tryz.isAgg3
  z3 := Tryz.sizeOf3
  v3 := Tryz.zeroValue3
  t4 := Tryz.underlying4
  a4 := Tryz.isAgg4
  z4 := Tryz.sizeOf4
  v4 := Tryz.zeroValue4
  t5 := Tryz.underlying5
  a5 := Tryz.isAgg5
  z5 := Tryz.sizeOf5
  v5 := Tryz.zeroValue5
  t9 := Tryz.underlying9
  a9 := Tryz.isAgg9
  z9 := Tryz.sizeOf9
  v9 := Tryz.zeroValue9
  t116 := Tryz.underlying135
  a116 := Tryz.isAgg135
  z116 := Tryz.sizeOf135 }
open Go.RowKit Go.Lib in
theorem Tryz.strings_makeASCIISet (hv116 : ∀ w, (zeroValue 135).run Tryz.prog w = .ok (.agg (Array.replicate 256 (.bool false))) w) (chars : ByteArray) (w : World) (hs : chars.size < 4294967281) (hascii : ∀ (j : Nat) b, chars.data.toList[j]? = some b → b.toNat < 128) :
    Calls Tryz.prog 138 #[.string chars] w fun e w' => e = .returned (.tuple #[.agg (Lib.setCells chars.data.toList), .bool true]) ∧ w' = w.alloc (.cells (Lib.setCells chars.data.toList) 135) := Any.strings_makeASCIISet Tryz.lays227 hv116 (by kernel_rfl) chars w hs hascii
def Tryz.lays228_ren : Go.Shelf.Ren := ⟨fun | 228 => 168 | n => n, fun | 124 => 139 | 5 => 5 | 4 => 4 | 0 => 0 | 116 => 135 | n => n, fun | n => n⟩
theorem Tryz.lays228 : Go.Proofs.Lays.n228 Tryz.prog Tryz.lays228_ren := {
  mixed := by kernel_rfl
  f228 := Tryz.func168.trans (congrArg some (by kernel_rfl))
  t0 := Tryz.underlying0
  a0 := Tryz.isAgg0
  z0 := Tryz.sizeOf0
  v0 := Tryz.zeroValue0
  t4 := Tryz.underlying4
  a4 := Tryz.isAgg4
  z4 := Tryz.sizeOf4
  v4 := Tryz.zeroValue4
  t5 := Tryz.underlying5
  a5 := Tryz.isAgg5
  z5 := Tryz.sizeOf5
  v5 := Tryz.zeroValue5
  t116 := Tryz.underlying135
  a116 := Tryz.isAgg135
  z116 := Tryz.sizeOf135
  t124 := Tryz.underlying139
  a124 := Tryz.isAgg139
  z124 := Tryz.sizeOf139
  v124 := Tryz.zeroValue139 }
open Go.RowKit Go.Lib in
theorem Tryz.asciiSet_contains (b : Nat) (x : UInt8) (v : Bool) (w : World) (hc : w.cell? ⟨b, x.toNat, none⟩ = some (.bool v)) :
    Calls Tryz.prog 168 #[.pointer (some ⟨b, 0, none⟩), .int .u8 x.toNat] w fun e w' => e = .returned (.bool v) ∧ w' = w := Any.asciiSet_contains Tryz.lays228 b x v w hc
def Tryz.lays172_ren : Go.Shelf.Ren := ⟨fun | 172 => 102 | 244 => 143 | 245 => 144 | 247 => 172 | 279 => 173 | 280 => 174 | 281 => 175 | 282 => 176 | 287 => 188 | 316 => 189 | 171 => 191 | 205 => 190 | 321 => 200 | 322 => 201 | 243 => 202 | 246 => 204 | 283 => 205 | 284 => 206 | 285 => 207 | 286 => 208 | 129 => 210 | 317 => 209 | 318 => 211 | 319 => 212 | 320 => 213 | 337 => 214 | 338 => 215 | n => n, fun | 9 => 9 | 3 => 3 | 75 => 77 | 76 => 80 | 4 => 4 | 5 => 5 | 167 => 159 | 37 => 73 | 0 => 0 | 85 => 160 | 2 => 2 | 168 => 162 | 53 => 153 | 175 => 173 | 46 => 124 | 210 => 176 | 127 => 123 | 145 => 187 | 143 => 185 | 21 => 21 | 171 => 190 | 173 => 193 | 212 => 196 | 51 => 150 | 20 => 20 | 213 => 197 | 232 => 200 | 233 => 201 | 80 => 79 | n => n, fun | 15 => 0 | 16 => 1 | 17 => 5 | 18 => 6 | 19 => 7 | n => n⟩
theorem Tryz.lays172 : Go.Proofs.Lays.n172 Tryz.prog Tryz.lays172_ren := {
  mixed := by kernel_rfl
  f129 := Tryz.func210.trans (congrArg some (by kernel_rfl))
  f171 := Tryz.func191.trans (congrArg some (by kernel_rfl))
  f172 := Tryz.func102.trans (congrArg some (by kernel_rfl))
  f205 := Tryz.func190.trans (congrArg some (by kernel_rfl))
  f243 := Tryz.func202.trans (congrArg some (by kernel_rfl))
  f244 := Tryz.func143.trans (congrArg some (by kernel_rfl))
  f245 := Tryz.func144.trans (congrArg some (by kernel_rfl))
  f246 := Tryz.func204.trans (congrArg some (by kernel_rfl))
  f247 := Tryz.func172.trans (congrArg some (by kernel_rfl))
  f279 := Tryz.func173.trans (congrArg some (by kernel_rfl))
  f280 := Tryz.func174.trans (congrArg some (by kernel_rfl))
  f281 := Tryz.func175.trans (congrArg some (by kernel_rfl))
  f282 := Tryz.func176.trans (congrArg some (by kernel_rfl))
  f283 := Tryz.func205.trans (congrArg some (by kernel_rfl))
  f284 := Tryz.func206.trans (congrArg some (by kernel_rfl))
  f285 := Tryz.func207.trans (congrArg some (by kernel_rfl))
  f286 := Tryz.func208.trans (congrArg some (by kernel_rfl))
  f287 := Tryz.func188.trans (congrArg some (by kernel_rfl))
  f316 := Tryz.func189.trans (congrArg some (by kernel_rfl))
  f317 := Tryz.func209.trans (congrArg some (by kernel_rfl))
  f318 := Tryz.func211.trans (congrArg some (by kernel_rfl))
  f319 := Tryz.func212.trans (congrArg some (by kernel_rfl))
  f320 := Tryz.func213.trans (congrArg some (by kernel_rfl))
  f321 := Tryz.func200.trans (congrArg some (by kernel_rfl))
  f322 := Tryz.func201.trans (congrArg some (by kernel_rfl))
  f337 := Tryz.func214.trans (congrArg some (by kernel_rfl))
  f338 := Tryz.func215.trans (congrArg some (by kernel_rfl))
  t0 := Tryz.underlying0
  a0 := Tryz.isAgg0
  z0 := Tryz.sizeOf0
  v0 := Tryz.zeroValue0
  t2 := Tryz.underlying2
  a2 := Tryz.isAgg2
  z2 := Tryz.sizeOf2
  v2 := Tryz.zeroValue2
  t3 := Tryz.underlying3
  a3 := Tryz.isAgg3
  z3 := Tryz.sizeOf3
  v3 := Tryz.zeroValue3
  t4 := Tryz.underlying4
  a4 := Tryz.isAgg4
  z4 := Tryz.sizeOf4
  v4 := Tryz.zeroValue4
  t5 := Tryz.underlying5
  a5 := Tryz.isAgg5
  z5 := Tryz.sizeOf5
  v5 := Tryz.zeroValue5
  t9 := Tryz.underlying9
  a9 := Tryz.isAgg9
  z9 := Tryz.sizeOf9
  v9 := Tryz.zeroValue9
  t20 := Tryz.underlying20
  a20 := Tryz.isAgg20
  z20 := Tryz.sizeOf20
  v20 := Tryz.zeroValue20
  t21 := Tryz.underlying21
  a21 := Tryz.isAgg21
  z21 := Tryz.sizeOf21
  v21 := Tryz.zeroValue21
  t37 := Tryz.underlying73
  a37 := Tryz.isAgg73
  z37 := Tryz.sizeOf73
  v37 := Tryz.zeroValue73
  t46 := Tryz.underlying124
  a46 := Tryz.isAgg124
  z46 := Tryz.sizeOf124
  v46 := Tryz.zeroValue124
  t51 := Tryz.underlying150
  a51 := Tryz.isAgg150
  z51 := Tryz.sizeOf150
  v51 := Tryz.zeroValue150
  t53 := Tryz.underlying153
  a53 := Tryz.isAgg153
  z53 := Tryz.sizeOf153
  v53 := Tryz.zeroValue153
  t75 := Tryz.underlying77
  a75 := Tryz.isAgg77
  z75 := Tryz.sizeOf77
  v75 := Tryz.zeroValue77
  t76 := Tryz.underlying80
  a76 := Tryz.isAgg80
  z76 := Tryz.sizeOf80
  v76 := Tryz.zeroValue80
  t85 := Tryz.underlying160
  a85 := Tryz.isAgg160
  z85 := Tryz.sizeOf160
  v85 := Tryz.zeroValue160
  t127 := Tryz.underlying123
  a127 := Tryz.isAgg123
  z127 := Tryz.sizeOf123
  v127 := Tryz.zeroValue123
  t143 := Tryz.underlying185
  a143 := Tryz.isAgg185
  z143 := Tryz.sizeOf185
  v143 := Tryz.zeroValue185
  t145 := Tryz.underlying187
  a145 := Tryz.isAgg187
  z145 := Tryz.sizeOf187
  v145 := Tryz.zeroValue187
  t167 := Tryz.underlying159
  a167 := Tryz.isAgg159
  z167 := Tryz.sizeOf159
  v167 := Tryz.zeroValue159
  t168 := Tryz.underlying162
  a168 := Tryz.isAgg162
  z168 := Tryz.sizeOf162
  v168 := Tryz.zeroValue162
  t171 := Tryz.underlying190
  a171 := Tryz.isAgg190
  z171 := Tryz.sizeOf190
  v171 := Tryz.zeroValue190
  t173 := Tryz.underlying193
  a173 := Tryz.isAgg193
  z173 := Tryz.sizeOf193
  v173 := Tryz.zeroValue193
  t175 := Tryz.underlying173
  a175 := Tryz.isAgg173
  z175 := Tryz.sizeOf173
  v175 := Tryz.zeroValue173
  t210 := Tryz.underlying176
  a210 := Tryz.isAgg176
  z210 := Tryz.sizeOf176
  v210 := Tryz.zeroValue176
  t212 := Tryz.underlying196
  a212 := Tryz.isAgg196
  z212 := Tryz.sizeOf196
  v212 := Tryz.zeroValue196
  t213 := Tryz.underlying197
  a213 := Tryz.isAgg197
  z213 := Tryz.sizeOf197
  t232 := Tryz.underlying200
  a232 := Tryz.isAgg200
  z232 := Tryz.sizeOf200
  v232 := Tryz.zeroValue200
  t233 := Tryz.underlying201
  a233 := Tryz.isAgg201
  z233 := Tryz.sizeOf201
  v233 := Tryz.zeroValue201
  g15 := by kernel_rfl
  g16 := by kernel_rfl
  g17 := by kernel_rfl
  g18 := by kernel_rfl
  g19 := by kernel_rfl }
open Go.RowKit in
theorem Tryz.strconv_Atoi (s : ByteArray) (n : Int) (hl : s.size ≤ 18) (h : Lib.atoi s.data.toList = some n) (w : World) :
    Calls Tryz.prog 102 #[.string s] w fun e w' => e = .returned (.tuple #[.int .i64 n, .nilIface]) ∧ ∃ t, w' = Lib.bytesWorld w 5 t := Any.strconv_Atoi Tryz.lays172 s n hl h w
end Go.Proofs.YtheiageokcgbhaaGreatDoor.Pz
/-
  Contracts of the library, laid at this program by the kit's shelf tools.
-/
namespace Go.Proofs.YtheiageokcgbhaaGreatDoor.Pz
open Go.Shelf
def Tryz.lays160_ren : Go.Shelf.Ren := ⟨fun | 160 => 101 | 232 => 137 | 231 => 136 | 227 => 138 | 234 => 140 | 233 => 139 | 236 => 142 | 235 => 141 | 228 => 168 | 271 => 171 | 151 => 170 | 197 => 169 | 120 => 187 | 152 => 186 | 260 => 185 | 137 => 117 | 119 => 199 | 224 => 196 | 225 => 195 | 217 => 158 | 266 => 181 | n => n, fun | 9 => 9 | 4 => 4 | 3 => 3 | 5 => 5 | 117 => 136 | 116 => 135 | 0 => 0 | 124 => 139 | 21 => 21 | 105 => 156 | 46 => 124 | 119 => 180 | 139 => 183 | 138 => 182 | n => n, fun | 3 => 3 | 4 => 4 | n => n⟩
theorem Tryz.lays160 : Go.Proofs.Lays.n160 Tryz.prog Tryz.lays160_ren := {
  mixed := by kernel_rfl
  f119 := Tryz.func199.trans (congrArg some (by kernel_rfl))
  f120 := Tryz.func187.trans (congrArg some (by kernel_rfl))
  f137 := Tryz.func117.trans (congrArg some (by kernel_rfl))
  f151 := Tryz.func170.trans (congrArg some (by kernel_rfl))
  f152 := Tryz.func186.trans (congrArg some (by kernel_rfl))
  f160 := Tryz.func101.trans (congrArg some (by kernel_rfl))
  f197 := Tryz.func169.trans (congrArg some (by kernel_rfl))
  f217 := Tryz.func158.trans (congrArg some (by kernel_rfl))
  f224 := Tryz.func196.trans (congrArg some (by kernel_rfl))
  f225 := Tryz.func195.trans (congrArg some (by kernel_rfl))
  f227 := Tryz.func138.trans (congrArg some (by kernel_rfl))
  f228 := Tryz.func168.trans (congrArg some (by kernel_rfl))
  f231 := Tryz.func136.trans (congrArg some (by kernel_rfl))
  f232 := Tryz.func137.trans (congrArg some (by kernel_rfl))
  f233 := Tryz.func139.trans (congrArg some (by kernel_rfl))
  f234 := Tryz.func140.trans (congrArg some (by kernel_rfl))
  f235 := Tryz.func141.trans (congrArg some (by kernel_rfl))
  f236 := Tryz.func142.trans (congrArg some (by kernel_rfl))
  f260 := Tryz.func185.trans (congrArg some (by kernel_rfl))
  f266 := Tryz.func181.trans (congrArg some (by kernel_rfl))
  f271 := Tryz.func171.trans (congrArg some (by kernel_rfl))
  t0 := Tryz.underlying0
  a0 := Tryz.isAgg0
  z0 := Tryz.sizeOf0
  v0 := Tryz.zeroValue0
  t3 := Tryz.underlying3
  a3 := Tryz.isAgg3
  z3 := Tryz.sizeOf3
  v3 := Tryz.zeroValue3
  t4 := Tryz.underlying4
  a4 := Tryz.isAgg4
  z4 := Tryz.sizeOf4
  v4 := Tryz.zeroValue4
  t5 := Tryz.underlying5
  a5 := Tryz.isAgg5
  z5 := Tryz.sizeOf5
  v5 := Tryz.zeroValue5
  t9 := Tryz.underlying9
  a9 := Tryz.isAgg9
  z9 := Tryz.sizeOf9
  v9 := Tryz.zeroValue9
  t21 := Tryz.underlying21
  a21 := Tryz.isAgg21
  z21 := Tryz.sizeOf21
  v21 := Tryz.zeroValue21
  t46 := Tryz.underlying124
  a46 := Tryz.isAgg124
  z46 := Tryz.sizeOf124
  v46 := Tryz.zeroValue124
  t105 := Tryz.underlying156
  a105 := Tryz.isAgg156
  z105 := Tryz.sizeOf156
  v105 := Tryz.zeroValue156
  t116 := Tryz.underlying135
  a116 := Tryz.isAgg135
  z116 := Tryz.sizeOf135
  t117 := Tryz.underlying136
  a117 := Tryz.isAgg136
  z117 := Tryz.sizeOf136
  v117 := Tryz.zeroValue136
  t119 := Tryz.underlying180
  a119 := Tryz.isAgg180
  z119 := Tryz.sizeOf180
  t124 := Tryz.underlying139
  a124 := Tryz.isAgg139
  z124 := Tryz.sizeOf139
  v124 := Tryz.zeroValue139
  t138 := Tryz.underlying182
  a138 := Tryz.isAgg182
  z138 := Tryz.sizeOf182
  v138 := Tryz.zeroValue182
  t139 := Tryz.underlying183
  a139 := Tryz.isAgg183
  z139 := Tryz.sizeOf183
  v139 := Tryz.zeroValue183
  g3 := by kernel_rfl
  g4 := by kernel_rfl }
open Go.RowKit in
theorem Tryz.strings_Trim_one (s : ByteArray) (c : UInt8) (hc : c.toNat < 128) (w : World) (hs : s.size ≤ 9223372036854775807) :
    Calls Tryz.prog 101 #[.string s, .string ⟨#[c]⟩] w fun e w' => e = .returned (.string ⟨(Lib.trimB s.data.toList c).toArray⟩) ∧ (w' = w ∨ w' = w.drew) := Any.strings_Trim_one Tryz.lays160 s c hc w hs
def Tryz.lays162_ren : Go.Shelf.Ren := ⟨fun | 162 => 122 | 232 => 137 | 227 => 138 | 234 => 140 | 236 => 142 | 228 => 168 | 271 => 171 | 151 => 170 | 120 => 187 | 197 => 169 | 152 => 186 | 260 => 185 | 137 => 117 | 119 => 199 | 224 => 196 | 225 => 195 | 217 => 158 | 266 => 181 | n => n, fun | 9 => 9 | 4 => 4 | 3 => 3 | 5 => 5 | 117 => 136 | 116 => 135 | 0 => 0 | 124 => 139 | 21 => 21 | 105 => 156 | 46 => 124 | 119 => 180 | 139 => 183 | 138 => 182 | n => n, fun | 3 => 3 | 4 => 4 | n => n⟩
theorem Tryz.lays162 : Go.Proofs.Lays.n162 Tryz.prog Tryz.lays162_ren := {
  mixed := by kernel_rfl
  f119 := Tryz.func199.trans (congrArg some (by kernel_rfl))
  f120 := Tryz.func187.trans (congrArg some (by kernel_rfl))
  f137 := Tryz.func117.trans (congrArg some (by kernel_rfl))
  f151 := Tryz.func170.trans (congrArg some (by kernel_rfl))
  f152 := Tryz.func186.trans (congrArg some (by kernel_rfl))
  f162 := Tryz.func122.trans (congrArg some (by kernel_rfl))
  f197 := Tryz.func169.trans (congrArg some (by kernel_rfl))
  f217 := Tryz.func158.trans (congrArg some (by kernel_rfl))
  f224 := Tryz.func196.trans (congrArg some (by kernel_rfl))
  f225 := Tryz.func195.trans (congrArg some (by kernel_rfl))
  f227 := Tryz.func138.trans (congrArg some (by kernel_rfl))
  f228 := Tryz.func168.trans (congrArg some (by kernel_rfl))
  f232 := Tryz.func137.trans (congrArg some (by kernel_rfl))
  f234 := Tryz.func140.trans (congrArg some (by kernel_rfl))
  f236 := Tryz.func142.trans (congrArg some (by kernel_rfl))
  f260 := Tryz.func185.trans (congrArg some (by kernel_rfl))
  f266 := Tryz.func181.trans (congrArg some (by kernel_rfl))
  f271 := Tryz.func171.trans (congrArg some (by kernel_rfl))
  t0 := Tryz.underlying0
  a0 := Tryz.isAgg0
  z0 := Tryz.sizeOf0
  v0 := Tryz.zeroValue0
  t3 := Tryz.underlying3
  a3 := Tryz.isAgg3
  z3 := Tryz.sizeOf3
  v3 := Tryz.zeroValue3
  t4 := Tryz.underlying4
  a4 := Tryz.isAgg4
  z4 := Tryz.sizeOf4
  v4 := Tryz.zeroValue4
  t5 := Tryz.underlying5
  a5 := Tryz.isAgg5
  z5 := Tryz.sizeOf5
  v5 := Tryz.zeroValue5
  t9 := Tryz.underlying9
  a9 := Tryz.isAgg9
  z9 := Tryz.sizeOf9
  v9 := Tryz.zeroValue9
  t21 := Tryz.underlying21
  a21 := Tryz.isAgg21
  z21 := Tryz.sizeOf21
  v21 := Tryz.zeroValue21
  t46 := Tryz.underlying124
  a46 := Tryz.isAgg124
  z46 := Tryz.sizeOf124
  v46 := Tryz.zeroValue124
  t105 := Tryz.underlying156
  a105 := Tryz.isAgg156
  z105 := Tryz.sizeOf156
  v105 := Tryz.zeroValue156
  t116 := Tryz.underlying135
  a116 := Tryz.isAgg135
  z116 := Tryz.sizeOf135
  t117 := Tryz.underlying136
  a117 := Tryz.isAgg136
  z117 := Tryz.sizeOf136
  v117 := Tryz.zeroValue136
  t119 := Tryz.underlying180
  a119 := Tryz.isAgg180
  z119 := Tryz.sizeOf180
  t124 := Tryz.underlying139
  a124 := Tryz.isAgg139
  z124 := Tryz.sizeOf139
  v124 := Tryz.zeroValue139
  t138 := Tryz.underlying182
  a138 := Tryz.isAgg182
  z138 := Tryz.sizeOf182
  v138 := Tryz.zeroValue182
  t139 := Tryz.underlying183
  a139 := Tryz.isAgg183
  z139 := Tryz.sizeOf183
  v139 := Tryz.zeroValue183
  g3 := by kernel_rfl
  g4 := by kernel_rfl }
open Go.RowKit in
theorem Tryz.strings_TrimRight_one (s : ByteArray) (c : UInt8) (hc : c.toNat < 128) (w : World) (hs : s.size ≤ 9223372036854775807) :
    Calls Tryz.prog 122 #[.string s, .string ⟨#[c]⟩] w fun e w' => e = .returned (.string ⟨(Lib.trimRightB s.data.toList c).toArray⟩) ∧ w' = w := Any.strings_TrimRight_one Tryz.lays162 s c hc w hs
end Go.Proofs.YtheiageokcgbhaaGreatDoor.Pz
/-
  Lists: strings.Trim by the ten digits; list.small of digits.
-/
namespace Go.Proofs.YtheiageokcgbhaaGreatDoor.Pz
open Go.RowKit
def tenD : Str := [48, 49, 50, 51, 52, 53, 54, 55, 56, 57]
theorem trimD_fn (s : Str) (w : World) (hl : s.length ≤ 1000000) :
    Calls Tryz.prog 101 #[.string ⟨s.toArray⟩, .string ⟨tenD.toArray⟩] w fun e w' => e = .returned (.string ⟨(Lib.trimS s tenD).toArray⟩) ∧ Below w.heap.size w w' :=
  Any.strings_Trim_laid Tryz.lays160 (by kernel_rfl) ⟨s.toArray⟩ ⟨tenD.toArray⟩ w (by rw [Lib.size_mk]; omega) (by decide) (ascii_of_all (by decide))
set_option maxRecDepth 100000 in
set_option maxHeartbeats 1000000 in
/-- digits alone, few: their number -/
theorem smallD_fn (s : Str) (n : Int) (w : World) (h1 : 1 ≤ s.length) (h18 : s.length ≤ 18) (ht : Lib.trimS s tenD = []) (ha : Lib.atoi s = some n) (hp : Lib.trimPrefix s [45] = s) :
    Calls Tryz.prog 56 #[.string ⟨s.toArray⟩] w fun e w' => e = .returned (.tuple #[.int .i64 n, .bool true]) ∧ Below w.heap.size w w' := by
  have HT := hid (trimD_fn s)
  rw [ht] at HT
  have hpp := Tryz.strings_TrimPrefix ⟨s.toArray⟩ ⟨#[45]⟩ w
  rw [show Lib.trimPrefix (⟨s.toArray⟩ : ByteArray).data.toList (⟨#[45]⟩ : ByteArray).data.toList = s from hp] at hpp
  have HP := hid hpp
  have HA := hid (fun u => Tryz.strconv_Atoi ⟨s.toArray⟩ n (by rw [Lib.size_mk]; exact h18) ha u)
  have hsz : (⟨s.toArray⟩ : ByteArray).size = s.length := Lib.size_mk _
  have g1 : ¬ ((s.length : Int) < 1) := by omega
  have g2 : ¬ ((s.length : Int) > 18) := by omega
  have HT2 := hid (HT.out w (by omega))
  clear ht ha hp hpp HT
  go_enter Tryz.func56, Tryz.ntmps56
  go_wp2_with fail
  (with_reducible refine HP.out.mono ?_); rintro e w1 ⟨rfl, hw⟩; subst hw
  go_wp2_with fail
  refine HT2.out.mono ?_; rintro e w2 ⟨rfl, hb⟩
  have HB := hid hb
  have HA2 := hid (HA.out w2)
  have hz := hb.size
  clear hb
  go_wp2_with fail
  (with_reducible refine HA2.out.mono ?_); rintro e w3 ⟨rfl, t, hw3⟩
  have HB3 := hid (show Below w1.heap.size w1 w3 by rw [hw3]; exact HB.out.trans ((Lib.bytesWorld_below w2 5 t).mono hz))
  clear hw3
  go_wp2
  go_ret2
  exact ⟨rfl, HB3.out⟩
end Go.Proofs.YtheiageokcgbhaaGreatDoor.Pz
/-
  Lists: the comparison by numbers; awake's Sort.
-/
namespace Go.Proofs.YtheiageokcgbhaaGreatDoor.Pz
open Go.RowKit
/-- one to 18 digits -/
def IsNum (s : Str) : Prop := 1 ≤ s.length ∧ s.length ≤ 18 ∧ Lib.trimS s tenD = [] ∧ (∃ n, Lib.atoi s = some n) ∧ Lib.trimPrefix s [45] = s
def numOf (s : Str) : Int := (Lib.atoi s).getD 0
theorem smallN_fn {s : Str} (h : IsNum s) (w : World) : Calls Tryz.prog 56 #[.string ⟨s.toArray⟩] w fun e w' => e = .returned (.tuple #[.int .i64 (numOf s), .bool true]) ∧ Below w.heap.size w w' := by
  obtain ⟨h1, h2, h3, ⟨n, h4⟩, h5⟩ := h
  have : numOf s = n := by rw [numOf, h4]; rfl
  rw [this]
  exact smallD_fn s n w h1 h2 h3 h4 h5
set_option maxRecDepth 100000 in
theorem cmpN_fn {x y : Str} (hx : IsNum x) (hy : IsNum y) (w : World) : Calls Tryz.prog 103 #[.string ⟨x.toArray⟩, .string ⟨y.toArray⟩] w fun e w' => e = .returned (.int .i64 (cmpI (numOf x) (numOf y))) ∧ Below w.heap.size w w' := by
  have HX := hid (smallN_fn hx w)
  have HY := hid (fun u => smallN_fn hy u)
  have HC := hid (fun u => compareI_fn (numOf x) (numOf y) u)
  generalize cmpI (numOf x) (numOf y) = r at HC ⊢
  generalize numOf x = nx at HX HC
  generalize numOf y = ny at HY HC
  clear hx hy
  go_enter Tryz.func103, Tryz.ntmps103
  go_wp2_with fail
  (with_reducible refine HX.out.mono ?_); rintro e w1 ⟨rfl, hb1⟩
  have HB1 := hid hb1
  have HY1 := hid (HY.out w1)
  have hz := hb1.size
  clear hb1
  go_wp2_with fail
  (with_reducible refine HY1.out.mono ?_); rintro e w2 ⟨rfl, hb2⟩
  have HB2 := hid (HB1.out.trans (hb2.mono hz))
  have HC2 := hid (HC.out w2)
  clear hb2
  go_wp2_with fail
  (with_reducible refine HC2.out.mono ?_); rintro e w3 ⟨rfl, hw⟩; subst hw
  go_wp2
  go_ret
  exact ⟨rfl, HB2.out⟩
theorem cmpOkN (g : Nat) (w : World) : CmpOk IsNum 103 #[] (fun x y => cmpI (numOf x) (numOf y)) g w := fun u _ _ _ hx hy => cmpN_fn hx hy u
end Go.Proofs.YtheiageokcgbhaaGreatDoor.Pz
/-
  Lists: Sort's closure for few numbers.
-/
namespace Go.Proofs.YtheiageokcgbhaaGreatDoor.Pz
open Go.RowKit
def numCf (x y : Str) : Int := cmpI (numOf x) (numOf y)
theorem comparison1_fn (w : World) : Calls Tryz.prog 57 #[.int .i64 1] w fun e w' => e = .returned (.func (.func 103) #[] #[]) ∧ w' = w := by
  go_enter Tryz.func57, Tryz.ntmps57
  go_wp2
  go_ret
  exact ⟨rfl, rfl⟩
set_option maxRecDepth 100000 in
set_option maxHeartbeats 1000000 in
theorem sort1_fn {B g n c b1 b2 b3 : Nat} {w : World} {l : List Str} (hr : RowS B w (.slice (some ⟨g, 0, none⟩) n c) l) (hl : ∀ x ∈ l, IsNum x) (hn : n < 20)
    (h1 : w.cell? ⟨b1, 0, none⟩ = some (.int .i64 1)) (h2 : w.cell? ⟨b2, 0, none⟩ = some (.bool false)) (h3 : w.cell? ⟨b3, 0, none⟩ = some (.bool false)) (hb : b1 < B ∧ b2 < B ∧ b3 < B) :
    Calls Tryz.prog 55 #[.slice (some ⟨g, 0, none⟩) n c, .pointer (some ⟨b1, 0, none⟩), .pointer (some ⟨b2, 0, none⟩), .pointer (some ⟨b3, 0, none⟩)] w fun e w' =>
      e = .returned (.tuple #[.slice (some ⟨g, 0, none⟩) n c, .int .i64 0]) ∧ RowS B w' (.slice (some ⟨g, 0, none⟩) n c) (insTo numCf 0 l (n - 1)) ∧ Only [g] w w' := by
  have hnl : n = l.length := by
    obtain ⟨a', c', e⟩ := hr.shape
    simp only [Value.slice.injEq] at e
    exact e.2.1
  have hgl := hr.lt g rfl
  have hBw : B ≤ w.heap.size := by omega
  have keep : ∀ (u : World), Below w.heap.size w u → u.cell? ⟨b1, 0, none⟩ = some (.int .i64 1) ∧ u.cell? ⟨b2, 0, none⟩ = some (.bool false) ∧ u.cell? ⟨b3, 0, none⟩ = some (.bool false) := fun u hu =>
    ⟨(hu.cell (p := ⟨b1, 0, none⟩) (by show b1 < _; omega)).trans h1, (hu.cell (p := ⟨b2, 0, none⟩) (by show b2 < _; omega)).trans h2, (hu.cell (p := ⟨b3, 0, none⟩) (by show b3 < _; omega)).trans h3⟩
  have KP := hid keep
  have HR := hid hr
  have HL := hid hl
  have HN := hid hnl
  clear hr hl hnl h1 h2 h3 keep
  go_enter Tryz.func55, Tryz.ntmps55
  go_wp2
  go_loopg [17] n (fun k iv wr => ∃ i : Nat, iv = .int .i64 (i : Nat) ∧ i ≤ n ∧ Below w.heap.size w wr ∧ k = n - i)
  case atStart => exact ⟨0, rfl, Nat.zero_le _, Below.refl _ _, by simp⟩
  case round =>
    obtain ⟨i, rfl, hi, hbl, rfl⟩ := hrel
    obtain ⟨k1, k2, k3⟩ := KP.out wr hbl
    have HBL := hid hbl
    have hrow := HR.out.on hbl
    rcases Nat.lt_or_ge i n with hlt | hge
    · have hlt' : i < l.length := by rw [← HN.out]; exact hlt
      have hc := hrow.getD hlt'
      have hx := HL.out (l.getD i []) (by rw [List.getD_eq_getElem?_getD, List.getElem?_eq_getElem hlt']; exact List.getElem_mem _)
      generalize l.getD i [] = x at hc hx
      have HS := hid (smallN_fn hx wr)
      generalize numOf x = nx at HS
      clear hrow hx k1 k2 k3 hbl
      go_wp2_with fail
      (with_reducible refine HS.out.mono ?_); rintro e w2 ⟨rfl, hb2⟩
      have hb3 := HBL.out.trans (hb2.mono HBL.out.size)
      obtain ⟨k1, k2, k3⟩ := KP.out w2 hb3
      have HB2 := hid hb3
      clear hb2 hb3 hc
      go_wp2
      go_roundg (n - (i + 1))
      case measure => omega
      case rel => exact ⟨i + 1, by go_num, by omega, HB2.out, rfl⟩
    · obtain rfl : i = n := by omega
      have HROW := hid hrow
      have HC1 := hid (comparison1_fn wr)
      have eg : ∀ args w, (callFunc 103 args).run Tryz.prog w = .ok (.enter 103 args) w := enters_of Tryz.func103 (by kernel_rfl) rfl
      have HS := hid (sortS_fn hrow (cmpOkN g wr) eg hn HL.out)
      clear hrow hbl
      go_wp2_with fail
      (with_reducible refine HC1.out.mono ?_); rintro e w2 ⟨rfl, hw⟩; subst hw
      go_wp2_with fail
      (with_reducible refine HS.out.mono ?_); rintro e w3 ⟨rfl, hr3, ho3, _⟩
      have hsz := HBL.out.size
      have k4 : w3.cell? ⟨b3, 0, none⟩ = some (.bool false) := by
        have hbk := ho3.block b3 (by omega) (by simp; omega)
        unfold World.cell? at k3 ⊢
        rw [hbk]
        exact k3
      have HR3 := hid hr3
      have HO3 := hid ((Only.of HBL.out _).trans ho3)
      clear hr3 ho3 k1 k2 k3
      go_wp2
      go_ret2
      exact ⟨rfl, HR3.out, HO3.out⟩
end Go.Proofs.YtheiageokcgbhaaGreatDoor.Pz
/-
  Lists: Sort of "10 9 1".
-/
namespace Go.Proofs.YtheiageokcgbhaaGreatDoor.Pz
open Go.RowKit
def t1091 : Str := [49, 48, 32, 57, 32, 49]
def l1091 : List Str := [[49, 48], [57], [49]]
theorem split1091 : splitE t1091 = (l1091, 0, 0) := by kernel_rfl
theorem nums1091 : ∀ x ∈ l1091, IsNum x := by
  intro x hx
  simp only [l1091, List.mem_cons, List.not_mem_nil, or_false] at hx
  rcases hx with rfl | rfl | rfl
  · exact ⟨by decide, by decide, by kernel_rfl, ⟨10, by kernel_rfl⟩, by kernel_rfl⟩
  · exact ⟨by decide, by decide, by kernel_rfl, ⟨9, by kernel_rfl⟩, by kernel_rfl⟩
  · exact ⟨by decide, by decide, by kernel_rfl, ⟨1, by kernel_rfl⟩, by kernel_rfl⟩
theorem sorted1091 : joinRes (insTo numCf 0 l1091 2) = ([49, 32, 57, 32, 49, 48], 0) := by kernel_rfl
set_option maxRecDepth 100000 in
theorem changedS_fn {b1 b2 b3 : Nat} (w : World) (hml : ML w) (h1 : w.cell? ⟨b1, 0, none⟩ = some (.int .i64 1)) (h2 : w.cell? ⟨b2, 0, none⟩ = some (.bool false)) (h3 : w.cell? ⟨b3, 0, none⟩ = some (.bool false)) (hb : b1 < w.heap.size ∧ b2 < w.heap.size ∧ b3 < w.heap.size) :
    Calls Tryz.prog 53 #[.string ⟨t1091.toArray⟩, .func (.func 55) #[] #[.pointer (some ⟨b1, 0, none⟩), .pointer (some ⟨b2, 0, none⟩), .pointer (some ⟨b3, 0, none⟩)]] w fun e w' =>
      e = .returned (.tuple #[.string ⟨#[49, 32, 57, 32, 49, 48]⟩, .int .i64 0]) ∧ Below w.heap.size w w' := by
  have hs := split_fn t1091 (by decide) w
  unfold SplitQ at hs
  rw [split1091] at hs
  have HS := hid hs
  have HM := hid hml
  have keep : ∀ (u : World), Below w.heap.size w u → u.cell? ⟨b1, 0, none⟩ = some (.int .i64 1) ∧ u.cell? ⟨b2, 0, none⟩ = some (.bool false) ∧ u.cell? ⟨b3, 0, none⟩ = some (.bool false) := fun u hu =>
    ⟨(hu.cell (p := ⟨b1, 0, none⟩) hb.1).trans h1, (hu.cell (p := ⟨b2, 0, none⟩) hb.2.1).trans h2, (hu.cell (p := ⟨b3, 0, none⟩) hb.2.2).trans h3⟩
  have KP := hid keep
  clear hs hml h1 h2 h3 keep
  go_enter Tryz.func53, Tryz.ntmps53
  go_wp2_with fail
  (with_reducible refine HS.out.mono ?_); rintro e w1 ⟨hb1, v, rfl, hr⟩
  obtain ⟨k1, k2, k3⟩ := KP.out w1 hb1
  have hv : ∃ g c, v = .slice (some ⟨g, 0, none⟩) 3 c := by
    obtain ⟨a, c, rfl⟩ := hr.shape
    obtain ⟨g, rfl, _, _⟩ := hr.at (i := 0) (by decide)
    exact ⟨g, c, rfl⟩
  obtain ⟨g, c, rfl⟩ := hv
  have HS1 := hid (sort1_fn hr nums1091 (by decide) k1 k2 k3 hb)
  have HB := hid hb1
  have hgl := (hr.lt g rfl).2
  clear hb1 hr k1 k2 k3
  go_wp2_with fail
  (with_reducible refine HS1.out.mono ?_); rintro e w2 ⟨rfl, hr2, ho2⟩
  have hb2 : Below w.heap.size w w2 := HB.out.trans (ho2.low HB.out.size (by simp; omega))
  have hj := joinA_fn _ _ w2 (HM.out.below hb2) hr2.strs (by rw [insTo_len]; decide)
  rw [show joinRes (insTo numCf 0 l1091 (3 - 1)) = ([49, 32, 57, 32, 49, 48], 0) from sorted1091] at hj
  have HJ := hid hj
  have HB2 := hid hb2
  have hz := hb2.size
  clear hj hb2 hr2 ho2
  go_wp2_with fail
  (with_reducible refine HJ.out.mono ?_); rintro e w3 ⟨rfl, hb3⟩
  have HB3 := hid (HB2.out.trans (hb3.mono hz))
  clear hb3
  go_wp2
  go_ret2
  exact ⟨rfl, HB3.out⟩
end Go.Proofs.YtheiageokcgbhaaGreatDoor.Pz
/-
  Lists: Sort at the example, awake.
-/
namespace Go.Proofs.YtheiageokcgbhaaGreatDoor.Pz
open Go.RowKit
set_option maxRecDepth 100000 in
theorem sort1091_fn (w : World) (hml : ML w) : Calls Tryz.prog 22 #[.string ⟨t1091.toArray⟩, .int .i64 1, .bool false, .bool false] w fun e w' =>
    e = .returned (.tuple #[.string ⟨#[49, 32, 57, 32, 49, 48]⟩, .int .i64 0]) ∧ Below w.heap.size w w' := by
  obtain ⟨W, hW⟩ : ∃ W, W = ((w.alloc (.cells #[.int .i64 1] 3)).alloc (.cells #[.bool false] 4)).alloc (.cells #[.bool false] 4) := ⟨_, rfl⟩
  have hb1 := belowA w (.cells #[.int .i64 1] 3)
  have hb2 := belowA (w.alloc (.cells #[.int .i64 1] 3)) (.cells #[.bool false] 4)
  have hb3 := belowA ((w.alloc (.cells #[.int .i64 1] 3)).alloc (.cells #[.bool false] 4)) (.cells #[.bool false] 4)
  have hb : Below w.heap.size w W := by
    rw [hW]
    exact (hb1.trans (hb2.mono (by simp))).trans (hb3.mono (by simp; omega))
  have hs : W.heap.size = w.heap.size + 1 + 1 + 1 := by rw [hW]; simp
  have h1 : W.heap[w.heap.size]? = some (.cells #[.int .i64 1] 3 (0, 0)) := by rw [hW, Below.heap_alloc _ _ _ (by simp <;> omega), Below.heap_alloc _ _ _ (by simp)]; exact heap_alloc_new _ _
  have h2 : W.heap[w.heap.size + 1]? = some (.cells #[.bool false] 4 (0, 0)) := by rw [hW, Below.heap_alloc _ _ _ (by simp)]; simpa using heap_alloc_new (w.alloc (.cells #[.int .i64 1] 3)) (.cells #[.bool false] 4)
  have h3 : W.heap[w.heap.size + 1 + 1]? = some (.cells #[.bool false] 4 (0, 0)) := by rw [hW]; simpa using heap_alloc_new ((w.alloc (.cells #[.int .i64 1] 3)).alloc (.cells #[.bool false] 4)) (.cells #[.bool false] 4)
  have HC := hid (changedS_fn (b1 := w.heap.size) (b2 := w.heap.size + 1) (b3 := w.heap.size + 1 + 1) W (hml.below hb) (by rw [Lib.cell_of_heap h1]; rfl) (by rw [Lib.cell_of_heap h2]; rfl) (by rw [Lib.cell_of_heap h3]; rfl) (by omega))
  have HB := hid hb
  have HW := hid hW
  have hz := hb.size
  clear hb1 hb2 hb3 hb h1 h2 h3 hs hW hml
  go_enter Tryz.func22, Tryz.ntmps22
  go_wp2_with fail
  rw [← HW.out]
  (with_reducible refine HC.out.mono ?_); rintro e w1 ⟨rfl, hb⟩
  have HB1 := hid (HB.out.trans (hb.mono hz))
  clear hb
  go_wp2
  go_ret2
  exact ⟨rfl, HB1.out⟩
end Go.Proofs.YtheiageokcgbhaaGreatDoor.Pz
/-
  Lists: awake.
-/
namespace Go.Proofs.YtheiageokcgbhaaGreatDoor.Pz
open Go.RowKit
def tAw : Str := [97, 32, 123, 98, 32, 99, 125, 32, 34, 100, 92, 116, 101, 34]
theorem splitAw : splitE tAw = ([[97], [98, 32, 99], [100, 9, 101]], 0, 0) := by kernel_rfl
theorem quoteAw1 : quote [97, 32, 98] = [123, 97, 32, 98, 125] := by kernel_rfl
theorem quoteAw2 : quote [97, 123] = [97, 92, 123] := by kernel_rfl
set_option maxRecDepth 100000 in
set_option maxHeartbeats 1000000 in
theorem awakeL_fn (w : World) (hml : ML w) : Calls Tryz.prog 10 #[] w fun e w' => e = .returned (.bool true) ∧ Below w.heap.size w w' := by
  have hs := split_fn tAw (by decide) w
  unfold SplitQ at hs
  rw [splitAw] at hs
  have HS := hid hs
  have HM := hid hml
  have HQ1 := hid (fun u (h : Below w.heap.size w u) => quote_fn [97, 32, 98] (by decide) u (HM.out.below h))
  have HQ2 := hid (fun u (h : Below w.heap.size w u) => quote_fn [97, 123] (by decide) u (HM.out.below h))
  rw [quoteAw1] at HQ1
  rw [quoteAw2] at HQ2
  clear hs hml
  go_enter Tryz.func10, Tryz.ntmps10
  go_wp2_with fail
  refine HS.out.mono ?_; rintro e w1 ⟨hb1, v, rfl, hr⟩
  obtain ⟨a, c, rfl⟩ := hr.shape
  have HB1 := hid hb1
  have HSO := hid (sort1091_fn w1 (HM.out.below hb1))
  have hz := hb1.size
  clear hb1 hr
  go_wp2_with fail
  refine HSO.out.mono ?_; rintro e w2 ⟨rfl, hb2⟩
  have hb3 := HB1.out.trans (hb2.mono hz)
  have HB2 := hid hb3
  have HQ := hid (HQ1.out w2 hb3)
  have hz2 := hb3.size
  clear hb2 hb3
  go_wp2_with fail
  refine HQ.out.mono ?_; rintro e w3 ⟨rfl, hb4⟩
  have hb5 := HB2.out.trans (hb4.mono hz2)
  have HB3 := hid hb5
  have HQQ := hid (HQ2.out w3 hb5)
  have hz3 := hb5.size
  clear hb4 hb5
  go_wp2_with fail
  refine HQQ.out.mono ?_; rintro e w4 ⟨rfl, hb6⟩
  have HB4 := hid (HB3.out.trans (hb6.mono hz3))
  clear hb6
  go_wp2
  go_ret
  exact ⟨rfl, HB4.out⟩
end Go.Proofs.YtheiageokcgbhaaGreatDoor.Pz
/-
  Lists: Long.
-/
namespace Go.Proofs.YtheiageokcgbhaaGreatDoor.Pz
open Go.RowKit
def sumS : List Str → Nat
  | [] => 0
  | a :: l => a.length + 1 + sumS l
theorem sumS_drop (l : List Str) (i : Nat) (h : i < l.length) : sumS (l.drop i) = l[i].length + 1 + sumS (l.drop (i + 1)) := by
  rw [List.drop_eq_getElem_cons h, sumS]
theorem sumS_len : ∀ (l : List Str), l.length ≤ sumS l
  | [] => Nat.le_refl _
  | a :: l => by
    have := sumS_len l
    rw [sumS, List.length_cons]
    omega
theorem sumS_mem : ∀ (l : List Str) (s : Str), s ∈ l → s.length + 1 ≤ sumS l
  | x :: l, s, h => by
    rw [sumS]
    rcases List.mem_cons.1 h with rfl | h
    · omega
    · have := sumS_mem l s h
      omega
def longB (l : List Str) : Bool := decide (1500 < sumS l)
set_option maxRecDepth 100000 in
set_option maxHeartbeats 1000000 in
theorem long_fn {w : World} {v : Value} {l : List Str} (hv : StrsAt w v l) (hb : sumS l ≤ 10000000) : Calls Tryz.prog 9 #[v] w fun e w' => e = .returned (.bool (longB l)) ∧ w' = w := by
  obtain ⟨a, cap, rfl, hcap, hcell⟩ := hv
  obtain ⟨n, hn⟩ : ∃ n, n = l.length := ⟨_, rfl⟩
  have hnb : n ≤ 10000000 := by have := sumS_len l; omega
  have HN := hid hn
  have HV := hid hcell
  have HD := hid (sumS_drop l)
  have HS := hid hb
  obtain ⟨ans, hans⟩ : ∃ x, x = longB l := ⟨_, rfl⟩
  have HA := hid hans
  rw [← hans, ← hn]
  clear hcell hn hb hans hcap
  go_enter Tryz.func9, Tryz.ntmps9
  go_wp2
  go_loopg [3, 8] n (fun k mv iv wr => ∃ (m i : Nat), mv = .int .i64 (m : Nat) ∧ iv = .int .i64 (i : Nat) ∧ i ≤ n ∧ m + sumS (l.drop i) = sumS l ∧ wr = w ∧ k = n - i)
  case atStart => exact ⟨0, 0, rfl, rfl, Nat.zero_le _, by simp, rfl, by simp⟩
  case round =>
    obtain ⟨m, i, rfl, rfl, hi, hms, hw, rfl⟩ := hrel
    replace hw := hw.symm
    subst hw
    rcases Nat.lt_or_ge i n with hlt | hge
    · have hlt' : i < l.length := by rw [← HN.out]; exact hlt
      obtain ⟨p, rfl, hbb, hcw⟩ := HV.out i hlt'
      have hd := HD.out i hlt'
      have hbm := HS.out
      generalize l[i] = x at hcw hd
      have hsz : (⟨x.toArray⟩ : ByteArray).size = x.length := Lib.size_mk _
      have hms2 : m + (x.length + 1) + sumS (l.drop (i + 1)) = sumS l := by omega
      have hbnd : m + (x.length + 1) ≤ 10000000 := by omega
      have HMS := hid hms2
      clear hd hms hms2 hbm
      by_cases h0 : i = 0
      · subst h0
        replace hcw : w.cell? p = some (.string ⟨x.toArray⟩) := hcw
        go_wp2
        go_roundg (n - (0 + 1))
        case measure => omega
        case rel => exact ⟨m + (x.length + 1), 0 + 1, by go_num, by go_num, by omega, HMS.out, rfl, rfl⟩
      · go_wp2
        go_roundg (n - (i + 1))
        case measure => omega
        case rel => exact ⟨m + (x.length + 1), i + 1, by go_num, by go_num, by omega, HMS.out, rfl, rfl⟩
    · obtain rfl : i = n := by omega
      have hm : m = sumS l := by
        rw [List.drop_eq_nil_of_le (by rw [← HN.out]; exact Nat.le_refl _), sumS] at hms
        omega
      have ha : ans = decide (1500 < m) := by rw [hm]; exact HA.out
      have HA2 := hid ha
      clear hm hms ha HA
      go_wp2
      go_ret
      refine ⟨?_, rfl⟩
      rw [HA2.out]
      simp <;> omega
end Go.Proofs.YtheiageokcgbhaaGreatDoor.Pz
/-
  Arguments opened: rows of texts, rows of bytes.
-/
namespace Go.Proofs.YtheiageokcgbhaaGreatDoor.Opn
open Go.ChangeMaps Go.ChangeShapes Go.WideShapes Go.ChangeAt Go.RowKit
section
variable {P : Program} {H : Type} {enc : TypeId × Value → H} {W : World}
theorem getD_data (ss : List ByteArray) (n i : Nat) (h : i < ((ss.take n).map (fun x : ByteArray => x.data.toList)).length) : (.string (ss.getD i ByteArray.empty) : Value) = .string ⟨(((ss.take n).map (fun x : ByteArray => x.data.toList))[i]).toArray⟩ := by
  simp only [List.length_map, List.length_take] at h
  have h1 : i < ss.length := by omega
  rw [List.getElem_map, List.getElem_take, List.getD_eq_getElem?_getD, List.getElem?_eq_getElem h1]
  cases ss[i]
  simp
theorem bulk_strs (ss : List ByteArray) : Rows.uptoBulkAll (strs (H := H) ss) = Pz.sumS (ss.map (·.data.toList)) := by
  induction ss with
  | nil => rfl
  | cons a ss ih =>
    show a.data.toList.length + 1 + Rows.uptoBulkAll (strs (H := H) ss) = a.data.toList.length + 1 + Pz.sumS (ss.map (·.data.toList))
    rw [ih]
theorem blk_lt {a : Addr} {n : Nat} {v : Value} (hlt : ∀ x ∈ MemPlace.row a n, x.block < W.heap.size) (h0 : 0 < n) (hc : W.cell? (a.add 0) = some v) : a.block < W.heap.size := by
  obtain ⟨b, off, spot⟩ := a
  have hspot : spot = none := by simpa [Addr.add] using World.cell?_spot hc
  subst hspot
  exact hlt (.cell b off) (MemPlace.mem_row.2 ⟨0, h0, by simp⟩)
theorem opened_strs {t e : TypeId} (ht : P.underlying t = some (.slice e)) (he : P.underlying e = some .string) (hce : P.cellsOf e = 1) {r : Reach} {b0 : Nat} {v : Value} {d : DataW H} {p : List MemPlace} (hv : Value.okWide P W r b0 t v) (h : DataW.Trod enc P W 0 (fun _ => true) true t v d p) (hlt : ∀ x ∈ p, x.block < W.heap.size) :
    ∃ l, Pz.StrsAt W v l ∧ Pz.sumS l ≤ Rows.uptoBulk d ∧ l.length ≤ maxLen := by
  obtain ⟨a1, n1, c1, rfl⟩ := okWide_slice ht hv
  obtain ⟨fuel, hf⟩ := h
  rcases open_strings ht he hce hf with ⟨hcs, hx⟩ | ⟨a, len', cap', ss, hcs, _, hl, hm, hz, hx, hcell, hws⟩
  · simp [Value.cells] at hcs
    obtain ⟨rfl, rfl, rfl⟩ := hcs
    exact ⟨[], ⟨none, 0, rfl, Nat.le_refl _, fun i hi => absurd hi (Nat.not_lt_zero _)⟩, (by simp [Pz.sumS]), (by simp)⟩
  · simp [Value.cells] at hcs
    obtain ⟨rfl, rfl, rfl⟩ := hcs
    simp only [Prod.mk.injEq] at hx
    obtain ⟨rfl, rfl⟩ := hx
    simp only [if_true] at hz
    have hln : ((ss.take n1).map (·.data.toList)).length = n1 := by rw [List.length_map, List.length_take]; omega
    refine ⟨(ss.take n1).map (·.data.toList), ⟨some a, c1, by rw [hln], by rw [hln]; exact hl, fun i hi => ⟨a, rfl, ?_, ?_⟩⟩, ?_, by rw [hln]; omega⟩
    · rw [hln] at hi
      exact blk_lt hlt (by omega) (hcell 0 (by omega))
    · rw [hcell i (by rw [hln] at hi; omega), getD_data ss n1 i hi]
    · simp only [Rows.uptoBulk]
      rw [bulk_strs, bulk_strs]
      omega
theorem bulk_lits (k : IntKind) (zs : List Int) : Rows.uptoBulkAll (lits (H := H) k zs) = zs.length := by
  induction zs with
  | nil => rfl
  | cons a zs ih =>
    show 1 + Rows.uptoBulkAll (lits (H := H) k zs) = _
    rw [ih]
    simp
    omega
end
end Go.Proofs.YtheiageokcgbhaaGreatDoor.Opn
