/-
  Part K14 of the proofs of this seat: contracts of functions and plain facts, merged from 3 texts.
-/
import Derived.Deep.Cut
import Derived.WalkMore
import Derived.Test.YtkgpmkkodpjdfaaGreatDoorK0
import Derived.Test.YtkgpmkkodpjdfaaGreatDoorK1
import Derived.Test.YtkgpmkkodpjdfaaGreatDoorK2
import Derived.Test.YtkgpmkkodpjdfaaGreatDoorK3
import Derived.Test.YtkgpmkkodpjdfaaGreatDoorK4
import Derived.Test.YtkgpmkkodpjdfaaGreatDoorK5
import Derived.Test.YtkgpmkkodpjdfaaGreatDoorK6
import Derived.Test.YtkgpmkkodpjdfaaGreatDoorK7
import Derived.Test.YtkgpmkkodpjdfaaGreatDoorK8
import Derived.Test.YtkgpmkkodpjdfaaGreatDoorK9
import Derived.Test.YtkgpmkkodpjdfaaGreatDoorK10
import Derived.Test.YtkgpmkkodpjdfaaGreatDoorK11
import Derived.Test.YtkgpmkkodpjdfaaGreatDoorK12
import Derived.Test.YtkgpmkkodpjdfaaGreatDoorK13
/-
  The reference 06: a script: what its walk shares.
-/
namespace Go.Proofs.YtkgpmkkodpjdfaaGreatDoor.Pz
open Go.RowKit
/-- what holds at a command's beginning -/
structure KInv (wi : Bool) (d : Nat) (s l : Str) (rb N : Nat) (w wr : World) (l' : Str) (i' : Nat) (v : Value) (cs : List Cmd) : Prop where
  rd : RrAt wr rb s d all3
  here : At s l' i'
  flt : wr.heap[N]? = some (.cells #[.int .i64 0, .int .i64 0, .bool false] 63 (0, 0))
  row : CmdsIs 33 49 47 s.length wr (New (N + 1)) v cs
  but : But rb N w wr
  res : accW cs (commands wi d l') = commands wi d l
  small : cs.length + l'.length ≤ l.length
theorem KInv.ltN {wi : Bool} {d : Nat} {s l : Str} {rb N : Nat} {w wr : World} {l' : Str} {i' : Nat} {v : Value} {cs : List Cmd} (h : KInv wi d s l rb N w wr l' i' v cs) : N < wr.heap.size := (Array.getElem?_eq_some_iff.1 h.flt).1
theorem KInv.go {wi : Bool} {d : Nat} {s l : Str} {rb N : Nat} {w wr W : World} {l' l2 : Str} {i' i2 : Nat} {v : Value} {cs : List Cmd} (h : KInv wi d s l rb N w wr l' i' v cs) (hb : Below wr.heap.size wr W) (hat : At s l2 i2)
    (hres : commands wi d l2 = commands wi d l') (hl : l2.length ≤ l'.length) : KInv wi d s l rb N w W l2 i2 v cs := by
  have hk : ∀ {T : TypeId} (g : Nat) (cur : Array Value), New (N + 1) g → wr.heap[g]? = some (.cells cur T (0, 0)) → W.heap[g]? = some (.cells cur T (0, 0)) := fun g cur _ hc => (hb.block g (Array.getElem?_eq_some_iff.1 hc).1).trans hc
  exact ⟨h.rd.below hb, hat, (hb.block N h.ltN).trans h.flt, h.row.keep2 (fun _ h _ => h) hk hk hk, h.but.trans (but_of_below (hb.mono (Nat.le_of_lt h.ltN)) rb), by rw [hres]; exact h.res, by have := h.small; omega⟩
/-- one command more -/
theorem KInv.next {wi : Bool} {d : Nat} {s l : Str} {rb N : Nat} {w W0 W1 W3 : World} {l' : Str} {i' i2 : Nat} {v : Value} {cs : List Cmd} {css : List (List Value)} {ws : List Wd} {r : Str} {wv : Value} {g cap' : Nat} (hI : KInv wi d s l rb N w W0 l' i' v cs) (hrb : rb < N)
    (hat : At s r i2) (hres : commands wi d l' = (commands wi d r).cons ⟨l'.length, ws⟩) (hrl : r.length < l'.length) (hrd1 : RrAt W1 rb s d all3)
    (htk : WdsIs 33 49 W1 (New W0.heap.size) wv ws) (hbut : But rb W0.heap.size W0 W1)
    (hrow : W0.ownsRow 0 47 2 v cs.length css.flatten) (hvb : ∀ g, v.ownBlock = some g → New (N + 1) g) (hcl : css.length = cs.length) (hel : ∀ i (h1 : i < css.length) (h2 : i < cs.length), CmdIs 33 49 s.length W0 (New (N + 1)) css[i] cs[i] ∧ css[i].length = 2)
    (hrow3 : W3.ownsRow 0 47 2 (.slice (some ⟨g, 0, none⟩) (cs.length + 1) cap') (cs.length + 1) (css.flatten ++ [.int .i64 (i' : Nat), wv])) (hg3 : (W1.alloc (.cells #[.int .i64 (i' : Nat), wv] 47)).grownBy W3 v.ownBlock) (hgc : v.ownBlock = some g ∨ g = W1.heap.size + 1) :
    KInv wi d s l rb N w W3 r i2 (.slice (some ⟨g, 0, none⟩) (cs.length + 1) cap') (cs ++ [⟨l'.length, ws⟩]) := by
  have hsz1 : W0.heap.size ≤ W1.heap.size := hbut.size
  have hNW := hI.ltN
  have hown1 : ∀ q, v.ownBlock = some q → ∃ cur, W1.heap[q]? = some (.cells cur 47 (0, 0)) := fun q hq => by
    obtain ⟨cur, hc⟩ := (ownsRow_lt hrow q hq).2
    have h1 : N + 1 ≤ q := hvb q hq
    exact ⟨cur, hbut.heap (Array.getElem?_eq_some_iff.1 hc).1 (by omega) hc⟩
  have hne : ∀ q cur T, W1.heap[q]? = some (.cells cur T (0, 0)) → T ≠ 47 → some q ≠ v.ownBlock := by
    intro q cur T hq hT e
    obtain ⟨cur', hc⟩ := hown1 q e.symm
    exact cells_ne hq hc hT rfl
  have hfar : ∀ k, k < W1.heap.size → some k ≠ v.ownBlock → W3.heap[k]? = W1.heap[k]? := by
    intro k h1 h3
    rw [hg3.block k (by simp; omega) h3, ((Below.refl W1.heap.size W1).alloc (Nat.le_refl _) _).block k h1]
  have hsz3 : W1.heap.size < W3.heap.size := by have := hg3.size; simp at this; omega
  have hgN : N + 1 ≤ g := by
    rcases hgc with h | h
    · exact hvb g h
    · omega
  have hlen := hI.here.len
  refine ⟨(hfar rb hrd1.lt (fun e => by have : N + 1 ≤ rb := hvb rb e.symm; omega)).trans hrd1, hat, ?_, ?_, ?_, ?_, ?_⟩
  · rw [hfar N (by omega) (fun e => by have : N + 1 ≤ N := hvb N e.symm; omega)]
    exact hbut.heap hNW (by omega) hI.flt
  · refine RowIs.snoc (css := css) (cs := [.int .i64 (i' : Nat), wv]) hrow3 (fun q hq => ?_) hcl (fun j h1 h2 => ⟨(hel j h1 h2).1.keep2 (fun _ h _ => h) (fun q cur hq hc => ?_) (fun q cur hq hc => ?_), (hel j h1 h2).2⟩) ⟨wv, ?_, htk.keep2 (fun q hq _ => ?_) (fun q cur _ hc => ?_) (fun q cur _ hc => ?_)⟩ rfl
    · have e : g = q := Option.some.inj hq
      show N + 1 ≤ q
      omega
    · have hq' : N + 1 ≤ q := hq
      have h1 := hbut.heap (Array.getElem?_eq_some_iff.1 hc).1 (by omega) hc
      rw [hfar q (Array.getElem?_eq_some_iff.1 h1).1 (hne _ _ _ h1 (by decide))]
      exact h1
    · have hq' : N + 1 ≤ q := hq
      have h1 := hbut.heap (Array.getElem?_eq_some_iff.1 hc).1 (by omega) hc
      rw [hfar q (Array.getElem?_eq_some_iff.1 h1).1 (hne _ _ _ h1 (by decide))]
      exact h1
    · have e : ((s.length : Int) - (l'.length : Int)) = ((i' : Nat) : Int) := by omega
      show _ = [Value.int .i64 ((s.length : Int) - (l'.length : Int)), wv]
      rw [e]
    · have hq' : W0.heap.size ≤ q := hq
      show N + 1 ≤ q
      omega
    · rw [hfar q (Array.getElem?_eq_some_iff.1 hc).1 (hne _ _ _ hc (by decide))]
      exact hc
    · rw [hfar q (Array.getElem?_eq_some_iff.1 hc).1 (hne _ _ _ hc (by decide))]
      exact hc
  · refine hI.but.trans ⟨hg3.os.trans hbut.os, hg3.tape.trans hbut.tape, hg3.output.trans hbut.output, by omega, fun k h1 h2 => ?_⟩
    rw [hfar k (by omega) (fun e => by have : N + 1 ≤ k := hvb k e.symm; omega)]
    exact hbut.block k (by omega) h2
  · rw [← hI.res, hres, accW_cons]
  · have := hI.small
    simp
    omega
/-- what holds at a word's beginning; q is the command's block -/
structure JInv (wi : Bool) (d : Nat) (s l0 : Str) (rb q : Nat) (W0 wr : World) (l' : Str) (i' i0 : Nat) (v : Value) (ws : List Wd) : Prop where
  rd : RrAt wr rb s d all3
  here : At s l' i'
  blk : wr.heap[q]? = some (.cells #[.int .i64 (i0 : Nat), v] 47 (0, 0))
  row : WdsIs 33 49 wr (New (q + 1)) v ws
  low : But rb q W0 wr
  res : accW ws (command wi d (blanks l')) = command wi d l0
  small : ws.length + l'.length ≤ l0.length
theorem JInv.ltq {wi : Bool} {d : Nat} {s l0 : Str} {rb q : Nat} {W0 wr : World} {l' : Str} {i' i0 : Nat} {v : Value} {ws : List Wd} (h : JInv wi d s l0 rb q W0 wr l' i' i0 v ws) : q < wr.heap.size := (Array.getElem?_eq_some_iff.1 h.blk).1
theorem JInv.call {wi : Bool} {d : Nat} {s l0 : Str} {rb q : Nat} {W0 wr W : World} {l' l2 : Str} {i' i2 i0 : Nat} {v : Value} {ws : List Wd} (h : JInv wi d s l0 rb q W0 wr l' i' i0 v ws) (hrb : rb < q) (hb : But rb wr.heap.size wr W) (hrd : RrAt W rb s d all3) (hat : At s l2 i2)
    (hbl : blanks l2 = blanks l') (hl : l2.length ≤ l'.length) : JInv wi d s l0 rb q W0 W l2 i2 i0 v ws := by
  have hk : ∀ {T : TypeId} (g : Nat) (cur : Array Value), New (q + 1) g → wr.heap[g]? = some (.cells cur T (0, 0)) → W.heap[g]? = some (.cells cur T (0, 0)) := fun g cur hg hc => hb.heap (Array.getElem?_eq_some_iff.1 hc).1 (by have : q + 1 ≤ g := hg; omega) hc
  exact ⟨hrd, hat, hb.heap h.ltq (by omega) h.blk, h.row.keep2 (fun _ h _ => h) hk hk, h.low.trans (hb.mono (Nat.le_of_lt h.ltq)), by rw [hbl]; exact h.res, by have := h.small; omega⟩
theorem JInv.next {wi : Bool} {d : Nat} {s l0 : Str} {rb q : Nat} {W0 W1 W3 : World} {l' : Str} {i' i0 : Nat} {v : Value} {ws : List Wd} {css : List (List Value)} {x : Wd} {r : Str} {wv : Value} {g cap' : Nat} (hI : JInv wi d s l0 rb q W0 W1 l' i' i0 v ws) (hrb : rb < q)
    (hpl : parted wi (blanks l') = false) (hwr : word wi d (blanks l') = .ok x r) (htk : ToksIs 33 W1 (New (q + 1)) wv x.toks)
    (hrow : W1.ownsRow 0 49 2 v ws.length css.flatten) (hvb : ∀ g, v.ownBlock = some g → New (q + 1) g) (hcl : css.length = ws.length) (hel : ∀ i (h1 : i < css.length) (h2 : i < ws.length), WdIs 33 W1 (New (q + 1)) css[i] ws[i] ∧ css[i].length = 2)
    (hrow3 : W3.ownsRow 0 49 2 (.slice (some ⟨g, 0, none⟩) (ws.length + 1) cap') (ws.length + 1) (css.flatten ++ [.bool x.spread, wv])) (hg3 : (W1.alloc (.cells #[.bool x.spread, wv] 49)).grownBy W3 v.ownBlock) (hgc : v.ownBlock = some g ∨ g = W1.heap.size + 1) :
    JInv wi d s l0 rb q W0 (W3.setCell ⟨q, 1, none⟩ (.slice (some ⟨g, 0, none⟩) (ws.length + 1) cap')) r (s.length - r.length) i0 (.slice (some ⟨g, 0, none⟩) (ws.length + 1) cap') (ws ++ [x]) := by
  obtain ⟨W4, hW4⟩ : ∃ W4, W4 = W3.setCell ⟨q, 1, none⟩ (.slice (some ⟨g, 0, none⟩) (ws.length + 1) cap') := ⟨_, rfl⟩
  have hlt := hI.ltq
  have hne : ∀ k cur T, W1.heap[k]? = some (.cells cur T (0, 0)) → T ≠ 49 → some k ≠ v.ownBlock := by
    intro k cur T hk hT e
    obtain ⟨cur', hc⟩ := (ownsRow_lt hrow k e.symm).2
    exact cells_ne hk hc hT rfl
  have hfar : ∀ k, k < W1.heap.size → k ≠ q → some k ≠ v.ownBlock → W4.heap[k]? = W1.heap[k]? := by
    intro k h1 h2 h3
    rw [hW4, Below.heap_setCell _ _ _ _ (fun e => h2 e), hg3.block k (by simp; omega) h3, ((Below.refl W1.heap.size W1).alloc (Nat.le_refl _) _).block k h1]
  have hsz3 : W1.heap.size < W3.heap.size := by have := hg3.size; simp at this; omega
  have hblk4 : W4.heap[q]? = some (.cells #[.int .i64 (i0 : Nat), .slice (some ⟨g, 0, none⟩) (ws.length + 1) cap'] 47 (0, 0)) := by
    have h3 : W3.heap[q]? = some (.cells #[.int .i64 (i0 : Nat), v] 47 (0, 0)) := by
      rw [hg3.block q (by simp; omega) (hne _ _ _ hI.blk (by decide)), ((Below.refl W1.heap.size W1).alloc (Nat.le_refl _) _).block q (by omega)]
      exact hI.blk
    rw [hW4]
    exact set2_1 h3 _
  have hgN : q + 1 ≤ g := by
    rcases hgc with h | h
    · exact hvb g h
    · omega
  have hgne : g ≠ q := by omega
  have hwok := word_ok wi d (blanks l') (blanks_stop l' wi hpl) x r hwr
  have hbl := suf_len (blanks_suf l')
  rw [← hW4]
  refine ⟨(hfar rb hI.rd.lt (by omega) (fun e => by have : q + 1 ≤ rb := hvb rb e.symm; omega)).trans hI.rd, hI.here.suf (hwok.1.trans (blanks_suf l')), hblk4, ?_, ?_, ?_, ?_⟩
  · refine wds_add (w := W1) (css := css) (cs := [.bool x.spread, wv]) hcl hel ⟨wv, rfl, htk⟩ rfl ?_ (fun k hk => ?_) (fun k cur hk hc => ?_)
    · refine ownsRow_heap2 hrow3 fun k cur hk hc => ?_
      have e := Option.some.inj hk
      rw [hW4, Below.heap_setCell _ _ _ _ (fun e' => hgne (e.trans e'))]
      exact hc
    · have e : g = k := Option.some.inj hk
      show q + 1 ≤ k
      omega
    · rw [hfar k (Array.getElem?_eq_some_iff.1 hc).1 (by omega) (hne _ _ _ hc (by decide))]
      exact hc
  · refine hI.low.trans ⟨?_, ?_, ?_, ?_, fun k h1 h2 => ?_⟩
    · rw [hW4]; exact hg3.os
    · rw [hW4]; exact hg3.tape
    · rw [hW4]; exact hg3.output
    · rw [hW4]; simp only [World.setCell, Array.size_modify]; omega
    · exact hfar k (by omega) (by omega) (fun e => by have : q + 1 ≤ k := hvb k e.symm; omega)
  · rw [← hI.res, command_cons hpl (blanks_stop l' wi hpl), hwr]
    dsimp only
    rw [accW_cons]
  · have := hI.small
    have := hwok.2.1
    simp
    omega
theorem JInv.done {wi : Bool} {d : Nat} {s l0 : Str} {rb q : Nat} {W0 wr : World} {l' : Str} {i' i0 : Nat} {v : Value} {ws : List Wd} (h : JInv wi d s l0 rb q W0 wr l' i' i0 v ws) (hp : parted wi (blanks l') = true) : command wi d l0 = .ok ws (blanks l') := by
  rw [← h.res, command_end hp]
  show Res.ok (ws ++ []) _ = _
  simp
theorem JInv.halts {wi : Bool} {d : Nat} {s l0 : Str} {rb q : Nat} {W0 wr : World} {l' : Str} {i' i0 : Nat} {v : Value} {ws : List Wd} {hh : Halt} (h : JInv wi d s l0 rb q W0 wr l' i' i0 v ws) (hp : parted wi (blanks l') = false) (hw : word wi d (blanks l') = .halt hh) : command wi d l0 = .halt hh := by
  rw [← h.res, command_cons hp (blanks_stop l' wi hp), hw]
  rfl
section
variable {w : World} {N : Nat} {x y z : Value}
theorem set_cmds {n : Nat} {v : Value} {cs : List Cmd} (h : CmdsIs 33 49 47 n w (New (N + 1)) v cs) : CmdsIs 33 49 47 n (((w.setCell ⟨N, 0, none⟩ x).setCell ⟨N, 1, none⟩ y).setCell ⟨N, 2, none⟩ z) (New N) v cs :=
  h.keep (fun g hg => show N ≤ g by have : N + 1 ≤ g := hg; omega) (fun g hg => set_ne (by have : N + 1 ≤ g := hg; omega))
end
theorem comment_any (o : Bool) (t : Str) : comment o (35 :: t) = comment false t := by
  rw [comment_cons, if_neg (by decide), if_neg (by simp)]
theorem comment_lf : ∀ (l : Str) (o : Bool), comment o l = [] ∨ ∃ t, comment o l = 10 :: t
  | [], _ => .inl rfl
  | c :: t, o => by
    rw [comment_cons]
    split
    · exact comment_lf t _
    · split
      · rename_i h
        simp only [Bool.and_eq_true, beq_iff_eq] at h
        exact .inr ⟨t, by rw [h.1]⟩
      · exact comment_lf t _
end Go.Proofs.YtkgpmkkodpjdfaaGreatDoor.Pz
/-
  The reference 06: a script within brackets.
-/
namespace Go.Proofs.YtkgpmkkodpjdfaaGreatDoor.Pz
open Go.RowKit
set_option maxRecDepth 100000 in
set_option maxHeartbeats 16000000 in
theorem scriptR_true {d : Nat} {l : Str} (ih : ∀ l', l'.length ≤ l.length → WordRC true d l') : CmdsRC true d l := by
  intro w rb s i hs hd h ha
  obtain ⟨i0, hi0, hz0, hz1, hz2⟩ := info_parts Tryz.infoCmd
  obtain ⟨j0i, hj0, hy0, hy1, hy2⟩ := info_parts Tryz.infoWord
  have hsz : (⟨s.toArray⟩ : ByteArray).size = s.length := Lib.size_mk _
  have hrb := h.lt
  obtain ⟨N, hN⟩ : ∃ N, N = w.heap.size := ⟨_, rfl⟩
  obtain ⟨R, hR⟩ : ∃ R, R = commands true d l := ⟨_, rfl⟩
  rw [← hR]
  obtain ⟨Wb, hWb⟩ : ∃ Wb, Wb = w.alloc (.cells #[.int .i64 0, .int .i64 0, .bool false] 63) := ⟨_, rfl⟩
  have hI0 : KInv true d s l rb N w Wb l i (.slice none 0 0) [] := by
    have hb := below1 w (.cells #[.int .i64 0, .int .i64 0, .bool false] 63)
    rw [hWb, hN]
    exact ⟨h.below hb, ha, heap_alloc_new _ _, RowIs.nil, but_of_below hb rb, accW_nil _, by simp⟩
  have hll := ha.len
  rw [← hN] at hrb
  have HI0 := hid hI0
  have HN := hid hN
  have HR := hid hR
  have HWB := hid hWb
  have IH := hid ih
  clear hI0 hN hR hWb ih h ha
  go_enter Tryz.func76, Tryz.ntmps76
  go_wp2_with fail
  rw [← HWB.out, ← HN.out]
  go_loopg [1, 9] (l.length + 1) (fun n iv ov wr => ∃ (l' : Str) (i' : Nat) (cs : List Cmd), iv = .int .i64 (i' : Nat) ∧ n = l'.length + 1 ∧ KInv true d s l rb N w wr l' i' ov cs)
  case atStart => exact ⟨l, i, [], rfl, rfl, HI0.out⟩
  case round =>
    obtain ⟨l', i', cs, rfl, rfl, hI⟩ := hrel
    clear HI0 HWB
    have hbk := hid (blanksR_fn hI.rd hI.here hs)
    have HI := hid hI
    clear hI
    go_wp2_with fail
    (with_reducible refine hbk.out.mono ?_); rintro e W0 ⟨rfl, hb0⟩
    have hbs := blanks_suf l'
    have hat0 : At s (blanks l') (s.length - (blanks l').length) := HI.out.here.suf hbs
    have hst0 := blanks_stop l' true
    have hle := suf_len hbs
    have hcq := commands_eq true d (blanks l')
    have hcq1 := commands_eq true d l'
    rw [blanks_twice] at hcq
    have hI := HI.out.go hb0 hat0 (hcq.trans hcq1.symm) hle
    obtain ⟨b, hb⟩ : ∃ b, b = blanks l' := ⟨_, rfl⟩
    obtain ⟨i2, hi2⟩ : ∃ i2, i2 = s.length - (blanks l').length := ⟨_, rfl⟩
    have hbc : blanks b = b := by rw [hb]; exact blanks_twice l'
    rw [← hi2] at hI hat0
    rw [← hi2]
    rw [← hb] at hI hst0 hat0 hcq hle
    clear hi2 hb hbs hcq1 HI hbk hb0
    have HI := hid hI
    have HCQ := hid hcq
    have HST0 := hid hst0
    obtain ⟨c0, c1, c2, c3, c4⟩ := hI.rd.cells
    clear hI hcq hst0
    cases b with
    | nil =>
      have hge : s.length ≤ i2 := hat0.nil_iff.1 rfl
      clear hat0
      have hRR : R = .ok cs [] := by
        have h := HI.out.res
        rw [HCQ.out, ← HR.out] at h
        rw [← h]
        show Res.ok (cs ++ []) _ = _
        simp
      have HRR := hid hRR
      have hfn := hid (fine_fn W0)
      clear hRR HCQ
      go_wp2_with fail
      (with_reducible refine hfn.out.mono ?_); rintro e W1 ⟨rfl, hW1⟩
      have hI1 : KInv true d s l rb N w W1 [] i2 u9 cs := by rw [hW1]; exact HI.out.go (below1 _ _) HI.out.here rfl (Nat.le_refl _)
      obtain ⟨x0, x1, x2⟩ := flt_cells hI1.flt
      have y0 := Lib.frozen_of_heap hI1.flt 0
      have y1 := Lib.frozen_of_heap hI1.flt 1
      have y2 := Lib.frozen_of_heap hI1.flt 2
      have HI1 := hid hI1
      clear hW1 hI1
      go_wp2
      have hfin := set3 HI1.out.flt (.int .i64 0) (.int .i64 0) (.bool false)
      refine bodyPost_ret (results_ttc rfl _ rfl hfin Tryz.underlying63 rfl Tryz.infoF) rfl ?_
      rw [HRR.out]
      unfold CmdsRP
      dsimp only
      rw [← HN.out]
      exact ⟨_, ret_vif (rfl), set_rd hrb HI1.out.rd, set_cmds HI1.out.row, set_but HI1.out.but⟩
    | cons c t =>
      have hlt2 := hat0.lt
      have hx := hat0.byte
      have hdl : decide (s.length ≤ i2) = false := by rw [decide_eq_false]; omega
      clear hat0
      by_cases h10 : c = 10
      · subst h10
        have hrs : commands true d (10 :: t) = commands true d t := by rw [HCQ.out]; simp [parted]
        have HRS := hid hrs
        clear hrs HCQ
        go_wp2
        go_roundg (t.length + 1)
        case measure => simp at hle ⊢; omega
        case rel => exact ⟨t, i2 + 1, cs, by go_num, rfl, HI.out.go (Below.refl _ _) HI.out.here.tail HRS.out.symm (by simp)⟩
      · by_cases h59 : c = 59
        · subst h59
          have hrs : commands true d (59 :: t) = commands true d t := by rw [HCQ.out]; simp [parted]
          have HRS := hid hrs
          clear hrs HCQ
          go_wp2
          go_roundg (t.length + 1)
          case measure => simp at hle ⊢; omega
          case rel => exact ⟨t, i2 + 1, cs, by go_num, rfl, HI.out.go (Below.refl _ _) HI.out.here.tail HRS.out.symm (by simp)⟩
        · have n10 := byte_ne 10 h10 rfl
          have n59 := byte_ne 59 h59 rfl
          by_cases h93 : c = 93
          · subst h93
            have hcq : commands true d (93 :: t) = .ok [] (93 :: t) := by rw [HCQ.out]; simp
            replace HCQ := hid hcq
            clear hcq
            have hRR : R = .ok cs (93 :: t) := by
              have h := HI.out.res
              rw [HCQ.out, ← HR.out] at h
              rw [← h]
              show Res.ok (cs ++ []) _ = _
              simp
            have HRR := hid hRR
            have hfn := hid (fine_fn W0)
            clear hRR HCQ
            go_wp2_with fail
            (with_reducible refine hfn.out.mono ?_); rintro e W1 ⟨rfl, hW1⟩
            have hI1 : KInv true d s l rb N w W1 (93 :: t) i2 u9 cs := by rw [hW1]; exact HI.out.go (below1 _ _) HI.out.here rfl (Nat.le_refl _)
            obtain ⟨x0, x1, x2⟩ := flt_cells hI1.flt
            have y0 := Lib.frozen_of_heap hI1.flt 0
            have y1 := Lib.frozen_of_heap hI1.flt 1
            have y2 := Lib.frozen_of_heap hI1.flt 2
            have HI1 := hid hI1
            clear hW1 hI1
            go_wp2
            have hfin := set3 HI1.out.flt (.int .i64 0) (.int .i64 0) (.bool false)
            refine bodyPost_ret (results_ttc rfl _ rfl hfin Tryz.underlying63 rfl Tryz.infoF) rfl ?_
            rw [HRR.out]
            unfold CmdsRP
            dsimp only
            rw [← HN.out]
            exact ⟨_, ret_vif (by show (i2 : Int) = ((s.length - (t.length + 1) : Nat) : Int); have := HI.out.here.len; simp only [List.length_cons] at this; omega), set_rd hrb HI1.out.rd, set_cmds HI1.out.row, set_but HI1.out.but⟩
          · have n93 := byte_ne 93 h93 rfl
            by_cases h35 : c = 35
            · subst h35
              have hcf : Calls Tryz.prog 98 #[.pointer (some ⟨rb, 0, none⟩), .int .i64 (i2 : Nat)] W0 _ := commentR_fn HI.out.rd HI.out.here hs
              rw [comment_any] at hcf
              have HCF := hid hcf
              obtain ⟨B, hB⟩ : ∃ B, B = comment false t := ⟨_, rfl⟩
              have hcq := HCQ.out
              have hsf := comment_suf t false
              have hlf := comment_lf t false
              rw [← hB] at hsf hlf
              have hrs : commands true d (35 :: t) = commands true d B := by
                rw [hcq]
                dsimp only
                rw [if_neg (by simp), if_neg (by simp [parted]), if_pos (by decide), comment_hash, hB]
              rw [← hB] at hcf
              have HCF := hid hcf
              have HRS := hid hrs
              have HLF := hid hlf
              have hatB := HI.out.here.suf (hsf.trans (List.suffix_cons 35 t))
              have HATB := hid hatB
              have hlB := suf_len hsf
              clear hcf hcq hrs hlf hatB hsf hB HCQ
              go_wp2_with fail
              (with_reducible refine HCF.out.mono ?_); rintro e W1 ⟨rfl, hw1⟩; subst W1
              go_wp2
              have hBB : ∃ l2, l2.length ≤ B.length ∧ commands true d l2 = commands true d B ∧ At s l2 (pastC s.length B) := by
                rcases HLF.out with h | ⟨t2, h⟩
                · exact ⟨[], by simp, by rw [h], by have := HATB.out; rw [h] at this; rw [h]; exact this⟩
                · refine ⟨t2, by rw [h]; simp, ?_, ?_⟩
                  · rw [h, commands_eq true d (10 :: t2)]
                    have hb : blanks (10 :: t2) = 10 :: t2 := by rw [blanks_cons1 (by cases t2 <;> rfl)]; rfl
                    rw [hb]
                    dsimp only
                    rw [if_neg (by simp), if_pos (by simp [parted])]
                  · have h2 := HATB.out
                    rw [h] at h2
                    rw [h]
                    exact h2.tail
              obtain ⟨l2, hl2, hc2, ha2⟩ := hBB
              go_roundg (l2.length + 1)
              case measure => simp at hle ⊢; omega
              case rel => exact ⟨l2, _, cs, rfl, rfl, HI.out.go (Below.refl _ _) ha2 (hc2.trans HRS.out.symm) (by simp; omega)⟩
            · have n35 := byte_ne 35 h35 rfl
              have hpn : parted true (c :: t) = false := by simp [parted, h10, h59, h93]
              have hcq := HCQ.out
              dsimp only at hcq
              rw [if_neg (by simp [h93]), if_neg (by rw [hpn]; simp), if_neg (by simpa using h35)] at hcq
              have hst := HST0.out hpn
              have HCQ := hid hcq
              have HPL := hid hpn
              have HST := hid hst
              clear hcq hpn hst
              have hI0 := HI.out
              obtain ⟨q, hq⟩ : ∃ q, q = W0.heap.size := ⟨_, rfl⟩
              obtain ⟨Wq, hWq⟩ : ∃ Wq, Wq = W0.alloc (.cells #[.int .i64 (i2 : Nat), .slice none 0 0] 47) := ⟨_, rfl⟩
              have hJ0 : JInv true d s (c :: t) rb q W0 Wq (c :: t) i2 i2 (.slice none 0 0) [] := by
                have hb := below1 W0 (.cells #[.int .i64 (i2 : Nat), .slice none 0 0] 47)
                rw [hWq, hq]
                exact ⟨hI0.rd.below hb, hI0.here, heap_alloc_new _ _, RowIs.nil, but_of_below hb rb, by rw [hbc]; exact accW_nil _, by simp⟩
              have HJ0 := hid hJ0
              have HQ := hid hq
              have HWQ := hid hWq
              have hrbq : rb < q := by rw [hq]; exact hI0.rd.lt
              have hltN0 := hI0.ltN
              clear hJ0 hI0 hq hWq
              go_wp2_with fail
              rw [← HWQ.out, ← HQ.out]
              clear c0 c1 c2 c3 c4
              go_loopg [1] ((c :: t).length + 1) (fun n iv wx => ∃ (l2 : Str) (i3 : Nat) (v : Value) (ws : List Wd), iv = .int .i64 (i3 : Nat) ∧ n = l2.length + 1 ∧ JInv true d s (c :: t) rb q W0 wx l2 i3 i2 v ws)
              case atStart => exact ⟨c :: t, i2, .slice none 0 0, [], rfl, rfl, HJ0.out⟩
              case round =>
                obtain ⟨l2, i3, v, v1s, rfl, rfl, hJ⟩ := hrel
                clear HJ0 HWQ
                have hbk := hid (blanksR_fn hJ.rd hJ.here hs)
                have HJ := hid hJ
                clear hJ
                go_wp2_with fail
                (with_reducible refine hbk.out.mono ?_); rintro e W ⟨rfl, hbw⟩
                obtain ⟨b2, hb2⟩ : ∃ b2, b2 = blanks l2 := ⟨_, rfl⟩
                have hsuf := blanks_suf l2
                have hatb : At s (blanks l2) (s.length - (blanks l2).length) := HJ.out.here.suf hsuf
                have hJ := HJ.out.call hrbq (but_of_below hbw rb) (HJ.out.rd.below hbw) hatb (blanks_twice l2) (suf_len hsuf)
                have hbl2 := suf_len hsuf
                obtain ⟨i4, hi4⟩ : ∃ i4, i4 = s.length - (blanks l2).length := ⟨_, rfl⟩
                rw [← hi4] at hJ hatb
                rw [← hi4]
                rw [← hb2] at hJ hatb hbl2
                have hbb : blanks b2 = b2 := by rw [hb2]; exact blanks_twice l2
                obtain ⟨va, vc, rfl⟩ : ∃ a cap, v = .slice a v1s.length cap := by
                  obtain ⟨a, cap, hv, _⟩ := RowIs.cell hJ.row
                  exact ⟨a, cap, hv⟩
                have hl2s : l2.length ≤ (c :: t).length := by have := HJ.out.small; omega
                clear HJ hi4 hb2 hsuf hbk hbw
                have HJ := hid hJ
                obtain ⟨c0, c1, c2', c3, c4⟩ := hJ.rd.cells
                clear hJ
                cases b2 with
                | nil =>
                  have hge : s.length ≤ i4 := hatb.nil_iff.1 rfl
                  have hpl : parted true (blanks []) = true := rfl
                  clear hatb
                  have hco := HJ.out.done hpl
                  have HCO := hid hco
                  have hcok := cmd_ok true d (c :: t) (fun _ => HST.out) v1s ([] : Str) (by rw [← hbb]; exact hco)
                  have hrl := (hcok.2.2 HPL.out).1
                  have hcq := HCQ.out
                  rw [hco] at hcq
                  dsimp only at hcq
                  rw [hbb] at hcq
                  have hlow := HJ.out.low
                  have hws := HJ.out.row
                  obtain ⟨css, hrow, hrbk, hcl, hel⟩ := HI.out.row
                  have hltW : q < W.heap.size := HJ.out.ltq
                  have k0 : W.cell? ⟨q, 0, none⟩ = some (.int .i64 (i2 : Nat)) := by rw [Lib.cell_of_heap HJ.out.blk]; rfl
                  have k1 : W.cell? ⟨q, 1, none⟩ = some (.slice va v1s.length vc) := by rw [Lib.cell_of_heap HJ.out.blk]; rfl
                  obtain ⟨oa, oc, rfl⟩ : ∃ a cap, u9 = .slice a cs.length cap := by
                    obtain ⟨a, cap, hv, _⟩ := RowIs.cell HI.out.row
                    exact ⟨a, cap, hv⟩
                  have b2w : Below W.heap.size W (W.alloc (.cells #[.int .i64 (i2 : Nat), .slice va v1s.length vc] 47)) := below1 _ _
                  have hr2 : (W.alloc (.cells #[.int .i64 (i2 : Nat), .slice va v1s.length vc] 47)).ownsRow 0 47 2 (.slice oa cs.length oc) cs.length css.flatten := by
                    refine ownsRow_heap2 hrow fun k cur hk hc => ?_
                    have h1 : N + 1 ≤ k := hrbk k hk
                    have h2 := hlow.heap (by have := (Array.getElem?_eq_some_iff.1 hc).1; rw [HQ.out]; exact this) (by omega) hc
                    exact (b2w.block k (Array.getElem?_eq_some_iff.1 h2).1).trans h2
                  have hnew := new1 W (.cells #[.int .i64 (i2 : Nat), .slice va v1s.length vc] 47)
                  have hsz2 : (W.alloc (.cells #[.int .i64 (i2 : Nat), .slice va v1s.length vc] 47)).heap.size = W.heap.size + 1 := by simp
                  have hsm := HI.out.small
                  have hll1 := HI.out.here.len
                  have fin : ∀ g cap' W4, World.ownsRow W4 0 47 2 (.slice (some ⟨g, 0, none⟩) (cs.length + 1) cap') (cs.length + 1) (css.flatten ++ [.int .i64 (i2 : Nat), .slice va v1s.length vc]) → World.grownBy (W.alloc (.cells #[.int .i64 (i2 : Nat), .slice va v1s.length vc] 47)) W4 (Value.slice oa cs.length oc).ownBlock → ((Value.slice oa cs.length oc).ownBlock = some g ∨ g = W.heap.size + 1) → KInv true d s l rb N w W4 ([] : Str) i4 (.slice (some ⟨g, 0, none⟩) (cs.length + 1) cap') (cs ++ [⟨(c :: t).length, v1s⟩]) := fun g cap' W4 h1 h2 h3 =>
                    HI.out.next hrb HJ.out.here hcq hrl HJ.out.rd (hws.keep2 (fun k hk _ => show W0.heap.size ≤ k by have : q + 1 ≤ k := hk; have := HQ.out; omega) (fun _ _ _ h => h) (fun _ _ _ h => h)) (by rw [HQ.out] at hlow; exact hlow) hrow hrbk hcl hel h1 h2 h3
                  have HF := hid fin
                  have HR2 := hid hr2
                  clear fin hr2 hrow hrbk hcl hel hcq hco HCO hcok hlow hws b2w
                  go_wp2_with (at_builtin; refine wpList_append_lies _ rfl (.tmp 132) (.tmp 134) 37 rfl 0 47 i0 (.agg #[.int .i64 0, .slice none 0 0]) 2 32 Tryz.underlying37 hi0 hz0 hz1 hz2 rfl (by decide) _ cs.length css.flatten (by rfl) HR2.out ⟨W.heap.size, 0, none⟩ 1 1 [.int .i64 (i2 : Nat), .slice va v1s.length vc] (by rfl) rfl (World.news_of_block hnew) (by intro u hu; simp at hu; rcases hu with rfl | rfl <;> rfl) (by decide) (by unfold maxLen; omega) (by omega) (Nat.zero_le _) (W.heap.size + 1) hsz2 ?_)
                  intro g cap' W4 h1 h2 h3 _
                  have hX := hid (HF.out g cap' W4 h1 h2 h3)
                  clear h1 h2 h3 HF HR2 hnew hsz2 k0 k1
                  go_wp2
                  go_roundg (([] : Str).length + 1)
                  case measure => simp at hle hrl ⊢; omega
                  case rel => exact ⟨([] : Str), i4, _, rfl, rfl, hX.out⟩
                | cons c2 t2 =>
                  have hlt4 := hatb.lt
                  have hx4 := hatb.byte
                  have hdl4 : decide (s.length ≤ i4) = false := by rw [decide_eq_false]; omega
                  by_cases h10' : c2 = 10
                  · subst h10'
                    have hpl : parted true (blanks (10 :: t2)) = true := by rw [hbb]; rfl
                    clear hatb
                    have hco := HJ.out.done hpl
                    have HCO := hid hco
                    have hcok := cmd_ok true d (c :: t) (fun _ => HST.out) v1s (10 :: t2) (by rw [← hbb]; exact hco)
                    have hrl := (hcok.2.2 HPL.out).1
                    have hcq := HCQ.out
                    rw [hco] at hcq
                    dsimp only at hcq
                    rw [hbb] at hcq
                    have hlow := HJ.out.low
                    have hws := HJ.out.row
                    obtain ⟨css, hrow, hrbk, hcl, hel⟩ := HI.out.row
                    have hltW : q < W.heap.size := HJ.out.ltq
                    have k0 : W.cell? ⟨q, 0, none⟩ = some (.int .i64 (i2 : Nat)) := by rw [Lib.cell_of_heap HJ.out.blk]; rfl
                    have k1 : W.cell? ⟨q, 1, none⟩ = some (.slice va v1s.length vc) := by rw [Lib.cell_of_heap HJ.out.blk]; rfl
                    obtain ⟨oa, oc, rfl⟩ : ∃ a cap, u9 = .slice a cs.length cap := by
                      obtain ⟨a, cap, hv, _⟩ := RowIs.cell HI.out.row
                      exact ⟨a, cap, hv⟩
                    have b2w : Below W.heap.size W (W.alloc (.cells #[.int .i64 (i2 : Nat), .slice va v1s.length vc] 47)) := below1 _ _
                    have hr2 : (W.alloc (.cells #[.int .i64 (i2 : Nat), .slice va v1s.length vc] 47)).ownsRow 0 47 2 (.slice oa cs.length oc) cs.length css.flatten := by
                      refine ownsRow_heap2 hrow fun k cur hk hc => ?_
                      have h1 : N + 1 ≤ k := hrbk k hk
                      have h2 := hlow.heap (by have := (Array.getElem?_eq_some_iff.1 hc).1; rw [HQ.out]; exact this) (by omega) hc
                      exact (b2w.block k (Array.getElem?_eq_some_iff.1 h2).1).trans h2
                    have hnew := new1 W (.cells #[.int .i64 (i2 : Nat), .slice va v1s.length vc] 47)
                    have hsz2 : (W.alloc (.cells #[.int .i64 (i2 : Nat), .slice va v1s.length vc] 47)).heap.size = W.heap.size + 1 := by simp
                    have hsm := HI.out.small
                    have hll1 := HI.out.here.len
                    have fin : ∀ g cap' W4, World.ownsRow W4 0 47 2 (.slice (some ⟨g, 0, none⟩) (cs.length + 1) cap') (cs.length + 1) (css.flatten ++ [.int .i64 (i2 : Nat), .slice va v1s.length vc]) → World.grownBy (W.alloc (.cells #[.int .i64 (i2 : Nat), .slice va v1s.length vc] 47)) W4 (Value.slice oa cs.length oc).ownBlock → ((Value.slice oa cs.length oc).ownBlock = some g ∨ g = W.heap.size + 1) → KInv true d s l rb N w W4 (10 :: t2) i4 (.slice (some ⟨g, 0, none⟩) (cs.length + 1) cap') (cs ++ [⟨(c :: t).length, v1s⟩]) := fun g cap' W4 h1 h2 h3 =>
                      HI.out.next hrb HJ.out.here hcq hrl HJ.out.rd (hws.keep2 (fun k hk _ => show W0.heap.size ≤ k by have : q + 1 ≤ k := hk; have := HQ.out; omega) (fun _ _ _ h => h) (fun _ _ _ h => h)) (by rw [HQ.out] at hlow; exact hlow) hrow hrbk hcl hel h1 h2 h3
                    have HF := hid fin
                    have HR2 := hid hr2
                    clear fin hr2 hrow hrbk hcl hel hcq hco HCO hcok hlow hws b2w
                    go_wp2_with (at_builtin; refine wpList_append_lies _ rfl (.tmp 132) (.tmp 134) 37 rfl 0 47 i0 (.agg #[.int .i64 0, .slice none 0 0]) 2 32 Tryz.underlying37 hi0 hz0 hz1 hz2 rfl (by decide) _ cs.length css.flatten (by rfl) HR2.out ⟨W.heap.size, 0, none⟩ 1 1 [.int .i64 (i2 : Nat), .slice va v1s.length vc] (by rfl) rfl (World.news_of_block hnew) (by intro u hu; simp at hu; rcases hu with rfl | rfl <;> rfl) (by decide) (by unfold maxLen; omega) (by omega) (Nat.zero_le _) (W.heap.size + 1) hsz2 ?_)
                    intro g cap' W4 h1 h2 h3 _
                    have hX := hid (HF.out g cap' W4 h1 h2 h3)
                    clear h1 h2 h3 HF HR2 hnew hsz2 k0 k1
                    go_wp2
                    go_roundg ((10 :: t2).length + 1)
                    case measure => simp at hle hrl ⊢; omega
                    case rel => exact ⟨(10 :: t2), i4, _, rfl, rfl, hX.out⟩
                  · by_cases h59' : c2 = 59
                    · subst h59'
                      have hpl : parted true (blanks (59 :: t2)) = true := by rw [hbb]; rfl
                      clear hatb
                      have hco := HJ.out.done hpl
                      have HCO := hid hco
                      have hcok := cmd_ok true d (c :: t) (fun _ => HST.out) v1s (59 :: t2) (by rw [← hbb]; exact hco)
                      have hrl := (hcok.2.2 HPL.out).1
                      have hcq := HCQ.out
                      rw [hco] at hcq
                      dsimp only at hcq
                      rw [hbb] at hcq
                      have hlow := HJ.out.low
                      have hws := HJ.out.row
                      obtain ⟨css, hrow, hrbk, hcl, hel⟩ := HI.out.row
                      have hltW : q < W.heap.size := HJ.out.ltq
                      have k0 : W.cell? ⟨q, 0, none⟩ = some (.int .i64 (i2 : Nat)) := by rw [Lib.cell_of_heap HJ.out.blk]; rfl
                      have k1 : W.cell? ⟨q, 1, none⟩ = some (.slice va v1s.length vc) := by rw [Lib.cell_of_heap HJ.out.blk]; rfl
                      obtain ⟨oa, oc, rfl⟩ : ∃ a cap, u9 = .slice a cs.length cap := by
                        obtain ⟨a, cap, hv, _⟩ := RowIs.cell HI.out.row
                        exact ⟨a, cap, hv⟩
                      have b2w : Below W.heap.size W (W.alloc (.cells #[.int .i64 (i2 : Nat), .slice va v1s.length vc] 47)) := below1 _ _
                      have hr2 : (W.alloc (.cells #[.int .i64 (i2 : Nat), .slice va v1s.length vc] 47)).ownsRow 0 47 2 (.slice oa cs.length oc) cs.length css.flatten := by
                        refine ownsRow_heap2 hrow fun k cur hk hc => ?_
                        have h1 : N + 1 ≤ k := hrbk k hk
                        have h2 := hlow.heap (by have := (Array.getElem?_eq_some_iff.1 hc).1; rw [HQ.out]; exact this) (by omega) hc
                        exact (b2w.block k (Array.getElem?_eq_some_iff.1 h2).1).trans h2
                      have hnew := new1 W (.cells #[.int .i64 (i2 : Nat), .slice va v1s.length vc] 47)
                      have hsz2 : (W.alloc (.cells #[.int .i64 (i2 : Nat), .slice va v1s.length vc] 47)).heap.size = W.heap.size + 1 := by simp
                      have hsm := HI.out.small
                      have hll1 := HI.out.here.len
                      have fin : ∀ g cap' W4, World.ownsRow W4 0 47 2 (.slice (some ⟨g, 0, none⟩) (cs.length + 1) cap') (cs.length + 1) (css.flatten ++ [.int .i64 (i2 : Nat), .slice va v1s.length vc]) → World.grownBy (W.alloc (.cells #[.int .i64 (i2 : Nat), .slice va v1s.length vc] 47)) W4 (Value.slice oa cs.length oc).ownBlock → ((Value.slice oa cs.length oc).ownBlock = some g ∨ g = W.heap.size + 1) → KInv true d s l rb N w W4 (59 :: t2) i4 (.slice (some ⟨g, 0, none⟩) (cs.length + 1) cap') (cs ++ [⟨(c :: t).length, v1s⟩]) := fun g cap' W4 h1 h2 h3 =>
                        HI.out.next hrb HJ.out.here hcq hrl HJ.out.rd (hws.keep2 (fun k hk _ => show W0.heap.size ≤ k by have : q + 1 ≤ k := hk; have := HQ.out; omega) (fun _ _ _ h => h) (fun _ _ _ h => h)) (by rw [HQ.out] at hlow; exact hlow) hrow hrbk hcl hel h1 h2 h3
                      have HF := hid fin
                      have HR2 := hid hr2
                      clear fin hr2 hrow hrbk hcl hel hcq hco HCO hcok hlow hws b2w
                      go_wp2_with (at_builtin; refine wpList_append_lies _ rfl (.tmp 132) (.tmp 134) 37 rfl 0 47 i0 (.agg #[.int .i64 0, .slice none 0 0]) 2 32 Tryz.underlying37 hi0 hz0 hz1 hz2 rfl (by decide) _ cs.length css.flatten (by rfl) HR2.out ⟨W.heap.size, 0, none⟩ 1 1 [.int .i64 (i2 : Nat), .slice va v1s.length vc] (by rfl) rfl (World.news_of_block hnew) (by intro u hu; simp at hu; rcases hu with rfl | rfl <;> rfl) (by decide) (by unfold maxLen; omega) (by omega) (Nat.zero_le _) (W.heap.size + 1) hsz2 ?_)
                      intro g cap' W4 h1 h2 h3 _
                      have hX := hid (HF.out g cap' W4 h1 h2 h3)
                      clear h1 h2 h3 HF HR2 hnew hsz2 k0 k1
                      go_wp2
                      go_roundg ((59 :: t2).length + 1)
                      case measure => simp at hle hrl ⊢; omega
                      case rel => exact ⟨(59 :: t2), i4, _, rfl, rfl, hX.out⟩
                    · have n10' := byte_ne 10 h10' rfl
                      have n59' := byte_ne 59 h59' rfl
                      by_cases h93' : c2 = 93
                      · subst h93'
                        have hpl : parted true (blanks (93 :: t2)) = true := by rw [hbb]; rfl
                        clear hatb
                        have hco := HJ.out.done hpl
                        have HCO := hid hco
                        have hcok := cmd_ok true d (c :: t) (fun _ => HST.out) v1s (93 :: t2) (by rw [← hbb]; exact hco)
                        have hrl := (hcok.2.2 HPL.out).1
                        have hcq := HCQ.out
                        rw [hco] at hcq
                        dsimp only at hcq
                        rw [hbb] at hcq
                        have hlow := HJ.out.low
                        have hws := HJ.out.row
                        obtain ⟨css, hrow, hrbk, hcl, hel⟩ := HI.out.row
                        have hltW : q < W.heap.size := HJ.out.ltq
                        have k0 : W.cell? ⟨q, 0, none⟩ = some (.int .i64 (i2 : Nat)) := by rw [Lib.cell_of_heap HJ.out.blk]; rfl
                        have k1 : W.cell? ⟨q, 1, none⟩ = some (.slice va v1s.length vc) := by rw [Lib.cell_of_heap HJ.out.blk]; rfl
                        obtain ⟨oa, oc, rfl⟩ : ∃ a cap, u9 = .slice a cs.length cap := by
                          obtain ⟨a, cap, hv, _⟩ := RowIs.cell HI.out.row
                          exact ⟨a, cap, hv⟩
                        have b2w : Below W.heap.size W (W.alloc (.cells #[.int .i64 (i2 : Nat), .slice va v1s.length vc] 47)) := below1 _ _
                        have hr2 : (W.alloc (.cells #[.int .i64 (i2 : Nat), .slice va v1s.length vc] 47)).ownsRow 0 47 2 (.slice oa cs.length oc) cs.length css.flatten := by
                          refine ownsRow_heap2 hrow fun k cur hk hc => ?_
                          have h1 : N + 1 ≤ k := hrbk k hk
                          have h2 := hlow.heap (by have := (Array.getElem?_eq_some_iff.1 hc).1; rw [HQ.out]; exact this) (by omega) hc
                          exact (b2w.block k (Array.getElem?_eq_some_iff.1 h2).1).trans h2
                        have hnew := new1 W (.cells #[.int .i64 (i2 : Nat), .slice va v1s.length vc] 47)
                        have hsz2 : (W.alloc (.cells #[.int .i64 (i2 : Nat), .slice va v1s.length vc] 47)).heap.size = W.heap.size + 1 := by simp
                        have hsm := HI.out.small
                        have hll1 := HI.out.here.len
                        have fin : ∀ g cap' W4, World.ownsRow W4 0 47 2 (.slice (some ⟨g, 0, none⟩) (cs.length + 1) cap') (cs.length + 1) (css.flatten ++ [.int .i64 (i2 : Nat), .slice va v1s.length vc]) → World.grownBy (W.alloc (.cells #[.int .i64 (i2 : Nat), .slice va v1s.length vc] 47)) W4 (Value.slice oa cs.length oc).ownBlock → ((Value.slice oa cs.length oc).ownBlock = some g ∨ g = W.heap.size + 1) → KInv true d s l rb N w W4 (93 :: t2) i4 (.slice (some ⟨g, 0, none⟩) (cs.length + 1) cap') (cs ++ [⟨(c :: t).length, v1s⟩]) := fun g cap' W4 h1 h2 h3 =>
                          HI.out.next hrb HJ.out.here hcq hrl HJ.out.rd (hws.keep2 (fun k hk _ => show W0.heap.size ≤ k by have : q + 1 ≤ k := hk; have := HQ.out; omega) (fun _ _ _ h => h) (fun _ _ _ h => h)) (by rw [HQ.out] at hlow; exact hlow) hrow hrbk hcl hel h1 h2 h3
                        have HF := hid fin
                        have HR2 := hid hr2
                        clear fin hr2 hrow hrbk hcl hel hcq hco HCO hcok hlow hws b2w
                        go_wp2_with (at_builtin; refine wpList_append_lies _ rfl (.tmp 132) (.tmp 134) 37 rfl 0 47 i0 (.agg #[.int .i64 0, .slice none 0 0]) 2 32 Tryz.underlying37 hi0 hz0 hz1 hz2 rfl (by decide) _ cs.length css.flatten (by rfl) HR2.out ⟨W.heap.size, 0, none⟩ 1 1 [.int .i64 (i2 : Nat), .slice va v1s.length vc] (by rfl) rfl (World.news_of_block hnew) (by intro u hu; simp at hu; rcases hu with rfl | rfl <;> rfl) (by decide) (by unfold maxLen; omega) (by omega) (Nat.zero_le _) (W.heap.size + 1) hsz2 ?_)
                        intro g cap' W4 h1 h2 h3 _
                        have hX := hid (HF.out g cap' W4 h1 h2 h3)
                        clear h1 h2 h3 HF HR2 hnew hsz2 k0 k1
                        go_wp2
                        go_roundg ((93 :: t2).length + 1)
                        case measure => simp at hle hrl ⊢; omega
                        case rel => exact ⟨(93 :: t2), i4, _, rfl, rfl, hX.out⟩
                      · have n93' := byte_ne 93 h93' rfl
                        have hpl : parted true (c2 :: t2) = false := by simp [parted, h10', h59', h93']
                        have hwc : Calls Tryz.prog 99 #[.pointer (some ⟨rb, 0, none⟩), .int .i64 (i4 : Nat), .bool true] W _ := IH.out (c2 :: t2) (by have := HI.out.small; omega) W rb s i4 hs hd HJ.out.rd hatb (by simp)
                        have HWC := hid hwc
                        clear hwc hatb
                        cases hwo : word true d (c2 :: t2) with
                        | halt hh =>
                          have hRR : R = .halt hh := by
                            have h := HI.out.res
                            have h2 := HCQ.out
                            rw [HJ.out.halts (by rw [hbb]; exact hpl) (by rw [hbb]; exact hwo)] at h2
                            dsimp only at h2
                            rw [h2, ← HR.out] at h
                            rw [← h]
                            rfl
                          have HRR := hid hRR
                          obtain ⟨E, A, O, hfc, hE0, hE8, hE1⟩ := faultC_shape s hh
                          go_wp2_with fail
                          (with_reducible refine HWC.out.mono ?_); intro e W2 h2
                          rw [hwo] at h2
                          obtain ⟨rfl, hrh, hbut⟩ := (show e = .returned (.tuple #[.agg #[.bool false, .slice none 0 0], .int .i64 0, .agg (faultC s hh)]) ∧ RrHalt W2 rb s d all3 ∧ But rb W.heap.size W W2 from h2)
                          rw [hfc]
                          have hlt2 := hbut.size
                          have hltN := HI.out.ltN
                          have hflt2 : W2.heap[N]? = some (.cells #[.int .i64 0, .int .i64 0, .bool false] 63 (0, 0)) := hbut.heap (by have := HJ.out.ltq; have := HQ.out; omega) (by omega) (HJ.out.low.heap (by have := HQ.out; omega) (by omega) HI.out.flt)
                          have hbut2 : But rb N w W2 := HI.out.but.trans ((HJ.out.low.mono (by have := HQ.out; omega)).trans (hbut.mono (by have := HJ.out.ltq; have := HQ.out; omega)))
                          have HH2 := hid (show W2.heap[N]? = some (.cells #[.int .i64 0, .int .i64 0, .bool false] 63 (0, 0)) ∧ But rb N w W2 ∧ RrHalt W2 rb s d all3 from ⟨hflt2, hbut2, hrh⟩)
                          have hltN2 : N < W2.heap.size := (Array.getElem?_eq_some_iff.1 hflt2).1
                          clear hRR h2 hbut hrh hflt2 hbut2 hwo hltN
                          go_upto_region 16 with fail
                          refine at_world fun W3 hW3 => ?_
                          have hb3 : Below W2.heap.size W2 W3 := by rw [hW3]; exact below2 _ _ _
                          have hf3 : W3.heap[W2.heap.size + 1]? = some (.cells #[.int .i64 E, .int .i64 A, .bool O] 63 (0, 0)) := by rw [hW3]; exact (new2 _ _ _).2
                          obtain ⟨k0, k1, k2⟩ := flt_cells hf3
                          have hfl3 := (hb3.block N hltN2).trans HH2.out.1
                          have HH3 := hid (show W3.heap[N]? = some (.cells #[.int .i64 0, .int .i64 0, .bool false] 63 (0, 0)) ∧ But rb N w W3 ∧ RrHalt W3 rb s d all3 from ⟨hfl3, HH2.out.2.1.trans (but_of_below (hb3.mono (by omega)) rb), HH2.out.2.2.below hb3⟩)
                          obtain ⟨x0, x1, x2⟩ := flt_cells hfl3
                          have y0 := Lib.frozen_of_heap hfl3 0
                          have y1 := Lib.frozen_of_heap hfl3 1
                          have y2 := Lib.frozen_of_heap hfl3 2
                          clear hW3 hb3 hf3 hfl3 HH2
                          go_region
                          go_wp2
                          have hfin := drew_heap (set3 HH3.out.1 (.int .i64 E) (.int .i64 A) (.bool O))
                          refine bodyPost_ret (results_ttc rfl _ rfl hfin Tryz.underlying63 rfl Tryz.infoF) rfl ?_
                          rw [HRR.out]
                          unfold CmdsRP
                          dsimp only
                          rw [hfc]
                          have hh3 := set_halt (x := .int .i64 E) (y := .int .i64 A) (z := .bool O) hrb HH3.out.2.2
                          have hb3 := set_but (x := .int .i64 E) (y := .int .i64 A) (z := .bool O) HH3.out.2.1
                          refine ⟨rfl, RrHalt.drewN hh3 1, ?_⟩
                          rw [← HN.out]
                          exact hb3.drew
                        | ok x r =>
                          go_wp2_with fail
                          (with_reducible refine HWC.out.mono ?_); intro e W2 h2
                          rw [hwo] at h2
                          obtain ⟨wv, rfl, hrd2, htk2, hbut⟩ := h2
                          obtain ⟨wa, wn, wc, rfl⟩ : ∃ a n c, wv = .slice a n c := by
                            obtain ⟨a, cap, hv, _⟩ := RowIs.cell htk2
                            exact ⟨a, _, cap, hv⟩
                          have hwok := word_ok true d (c2 :: t2) (by have := blanks_stop (c2 :: t2) true (by rw [hbb]; exact hpl); rw [hbb] at this; exact this) x r hwo
                          have hJ2 := HJ.out.call hrbq hbut hrd2 HJ.out.here rfl (Nat.le_refl _)
                          have HJ2 := hid hJ2
                          have hlq2 := hJ2.ltq
                          have HTK2 := hid (show ToksIs 33 W2 (New (q + 1)) (.slice wa wn wc) x.toks from htk2.keep (fun g hg => show q + 1 ≤ g by have hg2 : W.heap.size ≤ g := hg; have := HJ.out.ltq; omega) (fun _ _ => rfl))
                          clear hbut hrd2 htk2 hJ2
                          go_upto_region 17 with fail
                          refine at_world fun W3 hW3 => ?_
                          have hb3 : Below W2.heap.size W2 W3 := by rw [hW3]; exact below2 _ _ _
                          have hJ3 := HJ2.out.call hrbq (but_of_below hb3 rb) (HJ2.out.rd.below hb3) HJ2.out.here rfl (Nat.le_refl _)
                          have htk3 := HTK2.out.fwd hb3
                          have hw3 : W3.heap[W2.heap.size]? = some (.cells #[.bool x.spread, .slice wa wn wc] 49 (0, 0)) := by rw [hW3]; exact (new2 _ _ _).1
                          obtain ⟨z2, hz2'⟩ : ∃ z2, z2 = W2.heap.size := ⟨_, rfl⟩
                          rw [← hz2'] at hw3
                          rw [← hz2']
                          clear hW3 hb3 hz2' HJ2 HTK2 hlq2
                          have k0 : W3.cell? ⟨q, 0, none⟩ = some (.int .i64 (i2 : Nat)) := by rw [Lib.cell_of_heap hJ3.blk]; rfl
                          have k1 : W3.cell? ⟨q, 1, none⟩ = some (.slice va v1s.length vc) := by rw [Lib.cell_of_heap hJ3.blk]; rfl
                          have j0 : W3.cell? ⟨z2, 0, none⟩ = some (.bool x.spread) := by rw [Lib.cell_of_heap hw3]; rfl
                          have j1 : W3.cell? ⟨z2, 1, none⟩ = some (.slice wa wn wc) := by rw [Lib.cell_of_heap hw3]; rfl
                          obtain ⟨css, hrow, hrbk, hcl, hel⟩ := hJ3.row
                          have hlq3 := hJ3.ltq
                          have hblk3 := hJ3.blk
                          have b2w : Below W3.heap.size W3 (W3.alloc (.cells #[.bool x.spread, .slice wa wn wc] 49)) := below1 _ _
                          have hr2 : (W3.alloc (.cells #[.bool x.spread, .slice wa wn wc] 49)).ownsRow 0 49 2 (.slice va v1s.length vc) v1s.length css.flatten := hrow.alloc _
                          have hblk4 := (b2w.block q hlq3).trans hblk3
                          have hown : (Value.slice va v1s.length vc).ownBlock ≠ some q := by
                            intro e
                            obtain ⟨cur, hc⟩ := (ownsRow_lt hr2 _ e).2
                            exact cells_ne hc hblk4 (by decide) rfl
                          have hnew := new1 W3 (.cells #[.bool x.spread, .slice wa wn wc] 49)
                          have hsz2 : (W3.alloc (.cells #[.bool x.spread, .slice wa wn wc] 49)).heap.size = W3.heap.size + 1 := by simp
                          have hsm := HJ.out.small
                          have hll1 := HI.out.here.len
                          have fin : ∀ g cap' W4, World.ownsRow W4 0 49 2 (.slice (some ⟨g, 0, none⟩) (v1s.length + 1) cap') (v1s.length + 1) (css.flatten ++ [.bool x.spread, .slice wa wn wc]) → World.grownBy (W3.alloc (.cells #[.bool x.spread, .slice wa wn wc] 49)) W4 (Value.slice va v1s.length vc).ownBlock → ((Value.slice va v1s.length vc).ownBlock = some g ∨ g = W3.heap.size + 1) →
                              JInv true d s (c :: t) rb q W0 (W4.setCell ⟨q, 1, none⟩ (.slice (some ⟨g, 0, none⟩) (v1s.length + 1) cap')) r (s.length - r.length) i2 (.slice (some ⟨g, 0, none⟩) (v1s.length + 1) cap') (v1s ++ [x]) ∧ W4.frozen? ⟨q, 1, none⟩ = false ∧ W4.cell? ⟨q, 1, none⟩ = some (.slice va v1s.length vc) := fun g cap' W4 h1 h2 h3 => by
                            have hb4 := (h2.block q (Array.getElem?_eq_some_iff.1 hblk4).1 (fun e => hown e.symm)).trans hblk4
                            exact ⟨hJ3.next hrbq (by rw [hbb]; exact hpl) (by rw [hbb]; exact hwo) htk3 hrow hrbk hcl hel h1 h2 h3, Lib.frozen_of_heap hb4 1, by rw [Lib.cell_of_heap hb4]; rfl⟩
                          have HF := hid fin
                          have HR2 := hid hr2
                          have hrl := hwok.2.1
                          clear fin hr2 hrow hrbk hcl hel b2w hJ3 htk3 hown hblk3 hblk4 hw3 hwok HCQ
                          go_wp2_with (at_builtin; refine wpList_append_lies _ rfl (.tmp 126) (.tmp 128) 45 rfl 0 49 j0i (.agg #[.bool false, .slice none 0 0]) 2 32 Tryz.underlying45 hj0 hy0 hy1 hy2 rfl (by decide) _ v1s.length css.flatten (by rfl) HR2.out ⟨W3.heap.size, 0, none⟩ 1 1 [.bool x.spread, .slice wa wn wc] (by rfl) rfl (World.news_of_block hnew) (by intro u hu; simp at hu; rcases hu with rfl | rfl <;> rfl) (by decide) (by unfold maxLen; omega) (by omega) (Nat.zero_le _) (W3.heap.size + 1) hsz2 ?_)
                          intro g cap' W4 h1 h2 h3 _
                          obtain ⟨hX, s2, s1⟩ := HF.out g cap' W4 h1 h2 h3
                          have HX := hid hX
                          clear h1 h2 h3 HF HR2 hnew hsz2 k0 k1 j0 j1 hX
                          go_wp2
                          go_roundg (r.length + 1)
                          case measure => simp; omega
                          case rel => exact ⟨r, s.length - r.length, _, _, rfl, rfl, HX.out⟩
end Go.Proofs.YtkgpmkkodpjdfaaGreatDoor.Pz
/-
  The reference 06: a script.
-/
namespace Go.Proofs.YtkgpmkkodpjdfaaGreatDoor.Pz
open Go.RowKit
set_option maxRecDepth 100000 in
set_option maxHeartbeats 16000000 in
theorem scriptR_false {d : Nat} {l : Str} (ih : ∀ l', l'.length ≤ l.length → WordRC false d l') : CmdsRC false d l := by
  intro w rb s i hs hd h ha
  obtain ⟨i0, hi0, hz0, hz1, hz2⟩ := info_parts Tryz.infoCmd
  obtain ⟨j0i, hj0, hy0, hy1, hy2⟩ := info_parts Tryz.infoWord
  have hsz : (⟨s.toArray⟩ : ByteArray).size = s.length := Lib.size_mk _
  have hrb := h.lt
  obtain ⟨N, hN⟩ : ∃ N, N = w.heap.size := ⟨_, rfl⟩
  obtain ⟨R, hR⟩ : ∃ R, R = commands false d l := ⟨_, rfl⟩
  rw [← hR]
  obtain ⟨Wb, hWb⟩ : ∃ Wb, Wb = w.alloc (.cells #[.int .i64 0, .int .i64 0, .bool false] 63) := ⟨_, rfl⟩
  have hI0 : KInv false d s l rb N w Wb l i (.slice none 0 0) [] := by
    have hb := below1 w (.cells #[.int .i64 0, .int .i64 0, .bool false] 63)
    rw [hWb, hN]
    exact ⟨h.below hb, ha, heap_alloc_new _ _, RowIs.nil, but_of_below hb rb, accW_nil _, by simp⟩
  have hll := ha.len
  rw [← hN] at hrb
  have HI0 := hid hI0
  have HN := hid hN
  have HR := hid hR
  have HWB := hid hWb
  have IH := hid ih
  clear hI0 hN hR hWb ih h ha
  go_enter Tryz.func76, Tryz.ntmps76
  go_wp2_with fail
  rw [← HWB.out, ← HN.out]
  go_loopg [1, 9] (l.length + 1) (fun n iv ov wr => ∃ (l' : Str) (i' : Nat) (cs : List Cmd), iv = .int .i64 (i' : Nat) ∧ n = l'.length + 1 ∧ KInv false d s l rb N w wr l' i' ov cs)
  case atStart => exact ⟨l, i, [], rfl, rfl, HI0.out⟩
  case round =>
    obtain ⟨l', i', cs, rfl, rfl, hI⟩ := hrel
    clear HI0 HWB
    have hbk := hid (blanksR_fn hI.rd hI.here hs)
    have HI := hid hI
    clear hI
    go_wp2_with fail
    (with_reducible refine hbk.out.mono ?_); rintro e W0 ⟨rfl, hb0⟩
    have hbs := blanks_suf l'
    have hat0 : At s (blanks l') (s.length - (blanks l').length) := HI.out.here.suf hbs
    have hst0 := blanks_stop l' false
    have hle := suf_len hbs
    have hcq := commands_eq false d (blanks l')
    have hcq1 := commands_eq false d l'
    rw [blanks_twice] at hcq
    have hI := HI.out.go hb0 hat0 (hcq.trans hcq1.symm) hle
    obtain ⟨b, hb⟩ : ∃ b, b = blanks l' := ⟨_, rfl⟩
    obtain ⟨i2, hi2⟩ : ∃ i2, i2 = s.length - (blanks l').length := ⟨_, rfl⟩
    have hbc : blanks b = b := by rw [hb]; exact blanks_twice l'
    rw [← hi2] at hI hat0
    rw [← hi2]
    rw [← hb] at hI hst0 hat0 hcq hle
    clear hi2 hb hbs hcq1 HI hbk hb0
    have HI := hid hI
    have HCQ := hid hcq
    have HST0 := hid hst0
    obtain ⟨c0, c1, c2, c3, c4⟩ := hI.rd.cells
    clear hI hcq hst0
    cases b with
    | nil =>
      have hge : s.length ≤ i2 := hat0.nil_iff.1 rfl
      clear hat0
      have hRR : R = .ok cs [] := by
        have h := HI.out.res
        rw [HCQ.out, ← HR.out] at h
        rw [← h]
        show Res.ok (cs ++ []) _ = _
        simp
      have HRR := hid hRR
      have hfn := hid (fine_fn W0)
      clear hRR HCQ
      go_wp2_with fail
      (with_reducible refine hfn.out.mono ?_); rintro e W1 ⟨rfl, hW1⟩
      have hI1 : KInv false d s l rb N w W1 [] i2 u9 cs := by rw [hW1]; exact HI.out.go (below1 _ _) HI.out.here rfl (Nat.le_refl _)
      obtain ⟨x0, x1, x2⟩ := flt_cells hI1.flt
      have y0 := Lib.frozen_of_heap hI1.flt 0
      have y1 := Lib.frozen_of_heap hI1.flt 1
      have y2 := Lib.frozen_of_heap hI1.flt 2
      have HI1 := hid hI1
      clear hW1 hI1
      go_wp2
      have hfin := set3 HI1.out.flt (.int .i64 0) (.int .i64 0) (.bool false)
      refine bodyPost_ret (results_ttc rfl _ rfl hfin Tryz.underlying63 rfl Tryz.infoF) rfl ?_
      rw [HRR.out]
      unfold CmdsRP
      dsimp only
      rw [← HN.out]
      exact ⟨_, ret_vif (rfl), set_rd hrb HI1.out.rd, set_cmds HI1.out.row, set_but HI1.out.but⟩
    | cons c t =>
      have hlt2 := hat0.lt
      have hx := hat0.byte
      have hdl : decide (s.length ≤ i2) = false := by rw [decide_eq_false]; omega
      clear hat0
      by_cases h10 : c = 10
      · subst h10
        have hrs : commands false d (10 :: t) = commands false d t := by rw [HCQ.out]; simp [parted]
        have HRS := hid hrs
        clear hrs HCQ
        go_wp2
        go_roundg (t.length + 1)
        case measure => simp at hle ⊢; omega
        case rel => exact ⟨t, i2 + 1, cs, by go_num, rfl, HI.out.go (Below.refl _ _) HI.out.here.tail HRS.out.symm (by simp)⟩
      · by_cases h59 : c = 59
        · subst h59
          have hrs : commands false d (59 :: t) = commands false d t := by rw [HCQ.out]; simp [parted]
          have HRS := hid hrs
          clear hrs HCQ
          go_wp2
          go_roundg (t.length + 1)
          case measure => simp at hle ⊢; omega
          case rel => exact ⟨t, i2 + 1, cs, by go_num, rfl, HI.out.go (Below.refl _ _) HI.out.here.tail HRS.out.symm (by simp)⟩
        · have n10 := byte_ne 10 h10 rfl
          have n59 := byte_ne 59 h59 rfl
          by_cases h35 : c = 35
          · subst h35
            have hcf : Calls Tryz.prog 98 #[.pointer (some ⟨rb, 0, none⟩), .int .i64 (i2 : Nat)] W0 _ := commentR_fn HI.out.rd HI.out.here hs
            rw [comment_any] at hcf
            have HCF := hid hcf
            obtain ⟨B, hB⟩ : ∃ B, B = comment false t := ⟨_, rfl⟩
            have hcq := HCQ.out
            have hsf := comment_suf t false
            have hlf := comment_lf t false
            rw [← hB] at hsf hlf
            have hrs : commands false d (35 :: t) = commands false d B := by
              rw [hcq]
              dsimp only
              rw [if_neg (by simp), if_neg (by simp [parted]), if_pos (by decide), comment_hash, hB]
            rw [← hB] at hcf
            have HCF := hid hcf
            have HRS := hid hrs
            have HLF := hid hlf
            have hatB := HI.out.here.suf (hsf.trans (List.suffix_cons 35 t))
            have HATB := hid hatB
            have hlB := suf_len hsf
            clear hcf hcq hrs hlf hatB hsf hB HCQ
            go_wp2_with fail
            (with_reducible refine HCF.out.mono ?_); rintro e W1 ⟨rfl, hw1⟩; subst W1
            go_wp2
            have hBB : ∃ l2, l2.length ≤ B.length ∧ commands false d l2 = commands false d B ∧ At s l2 (pastC s.length B) := by
              rcases HLF.out with h | ⟨t2, h⟩
              · exact ⟨[], by simp, by rw [h], by have := HATB.out; rw [h] at this; rw [h]; exact this⟩
              · refine ⟨t2, by rw [h]; simp, ?_, ?_⟩
                · rw [h, commands_eq false d (10 :: t2)]
                  have hb : blanks (10 :: t2) = 10 :: t2 := by rw [blanks_cons1 (by cases t2 <;> rfl)]; rfl
                  rw [hb]
                  dsimp only
                  rw [if_neg (by simp), if_pos (by simp [parted])]
                · have h2 := HATB.out
                  rw [h] at h2
                  rw [h]
                  exact h2.tail
            obtain ⟨l2, hl2, hc2, ha2⟩ := hBB
            go_roundg (l2.length + 1)
            case measure => simp at hle ⊢; omega
            case rel => exact ⟨l2, _, cs, rfl, rfl, HI.out.go (Below.refl _ _) ha2 (hc2.trans HRS.out.symm) (by simp; omega)⟩
          · have n35 := byte_ne 35 h35 rfl
            have hpn : parted false (c :: t) = false := by simp [parted, h10, h59]
            have hcq := HCQ.out
            dsimp only at hcq
            rw [if_neg (by simp), if_neg (by rw [hpn]; simp), if_neg (by simpa using h35)] at hcq
            have hst := HST0.out hpn
            have HCQ := hid hcq
            have HPL := hid hpn
            have HST := hid hst
            clear hcq hpn hst
            have hI0 := HI.out
            obtain ⟨q, hq⟩ : ∃ q, q = W0.heap.size := ⟨_, rfl⟩
            obtain ⟨Wq, hWq⟩ : ∃ Wq, Wq = W0.alloc (.cells #[.int .i64 (i2 : Nat), .slice none 0 0] 47) := ⟨_, rfl⟩
            have hJ0 : JInv false d s (c :: t) rb q W0 Wq (c :: t) i2 i2 (.slice none 0 0) [] := by
              have hb := below1 W0 (.cells #[.int .i64 (i2 : Nat), .slice none 0 0] 47)
              rw [hWq, hq]
              exact ⟨hI0.rd.below hb, hI0.here, heap_alloc_new _ _, RowIs.nil, but_of_below hb rb, by rw [hbc]; exact accW_nil _, by simp⟩
            have HJ0 := hid hJ0
            have HQ := hid hq
            have HWQ := hid hWq
            have hrbq : rb < q := by rw [hq]; exact hI0.rd.lt
            have hltN0 := hI0.ltN
            clear hJ0 hI0 hq hWq
            go_wp2_with fail
            rw [← HWQ.out, ← HQ.out]
            clear c0 c1 c2 c3 c4
            go_loopg [1] ((c :: t).length + 1) (fun n iv wx => ∃ (l2 : Str) (i3 : Nat) (v : Value) (ws : List Wd), iv = .int .i64 (i3 : Nat) ∧ n = l2.length + 1 ∧ JInv false d s (c :: t) rb q W0 wx l2 i3 i2 v ws)
            case atStart => exact ⟨c :: t, i2, .slice none 0 0, [], rfl, rfl, HJ0.out⟩
            case round =>
              obtain ⟨l2, i3, v, v1s, rfl, rfl, hJ⟩ := hrel
              clear HJ0 HWQ
              have hbk := hid (blanksR_fn hJ.rd hJ.here hs)
              have HJ := hid hJ
              clear hJ
              go_wp2_with fail
              (with_reducible refine hbk.out.mono ?_); rintro e W ⟨rfl, hbw⟩
              obtain ⟨b2, hb2⟩ : ∃ b2, b2 = blanks l2 := ⟨_, rfl⟩
              have hsuf := blanks_suf l2
              have hatb : At s (blanks l2) (s.length - (blanks l2).length) := HJ.out.here.suf hsuf
              have hJ := HJ.out.call hrbq (but_of_below hbw rb) (HJ.out.rd.below hbw) hatb (blanks_twice l2) (suf_len hsuf)
              have hbl2 := suf_len hsuf
              obtain ⟨i4, hi4⟩ : ∃ i4, i4 = s.length - (blanks l2).length := ⟨_, rfl⟩
              rw [← hi4] at hJ hatb
              rw [← hi4]
              rw [← hb2] at hJ hatb hbl2
              have hbb : blanks b2 = b2 := by rw [hb2]; exact blanks_twice l2
              obtain ⟨va, vc, rfl⟩ : ∃ a cap, v = .slice a v1s.length cap := by
                obtain ⟨a, cap, hv, _⟩ := RowIs.cell hJ.row
                exact ⟨a, cap, hv⟩
              have hl2s : l2.length ≤ (c :: t).length := by have := HJ.out.small; omega
              clear HJ hi4 hb2 hsuf hbk hbw
              have HJ := hid hJ
              obtain ⟨c0, c1, c2', c3, c4⟩ := hJ.rd.cells
              clear hJ
              cases b2 with
              | nil =>
                have hge : s.length ≤ i4 := hatb.nil_iff.1 rfl
                have hpl : parted false (blanks []) = true := rfl
                clear hatb
                have hco := HJ.out.done hpl
                have HCO := hid hco
                have hcok := cmd_ok false d (c :: t) (fun _ => HST.out) v1s ([] : Str) (by rw [← hbb]; exact hco)
                have hrl := (hcok.2.2 HPL.out).1
                have hcq := HCQ.out
                rw [hco] at hcq
                dsimp only at hcq
                rw [hbb] at hcq
                have hlow := HJ.out.low
                have hws := HJ.out.row
                obtain ⟨css, hrow, hrbk, hcl, hel⟩ := HI.out.row
                have hltW : q < W.heap.size := HJ.out.ltq
                have k0 : W.cell? ⟨q, 0, none⟩ = some (.int .i64 (i2 : Nat)) := by rw [Lib.cell_of_heap HJ.out.blk]; rfl
                have k1 : W.cell? ⟨q, 1, none⟩ = some (.slice va v1s.length vc) := by rw [Lib.cell_of_heap HJ.out.blk]; rfl
                obtain ⟨oa, oc, rfl⟩ : ∃ a cap, u9 = .slice a cs.length cap := by
                  obtain ⟨a, cap, hv, _⟩ := RowIs.cell HI.out.row
                  exact ⟨a, cap, hv⟩
                have b2w : Below W.heap.size W (W.alloc (.cells #[.int .i64 (i2 : Nat), .slice va v1s.length vc] 47)) := below1 _ _
                have hr2 : (W.alloc (.cells #[.int .i64 (i2 : Nat), .slice va v1s.length vc] 47)).ownsRow 0 47 2 (.slice oa cs.length oc) cs.length css.flatten := by
                  refine ownsRow_heap2 hrow fun k cur hk hc => ?_
                  have h1 : N + 1 ≤ k := hrbk k hk
                  have h2 := hlow.heap (by have := (Array.getElem?_eq_some_iff.1 hc).1; rw [HQ.out]; exact this) (by omega) hc
                  exact (b2w.block k (Array.getElem?_eq_some_iff.1 h2).1).trans h2
                have hnew := new1 W (.cells #[.int .i64 (i2 : Nat), .slice va v1s.length vc] 47)
                have hsz2 : (W.alloc (.cells #[.int .i64 (i2 : Nat), .slice va v1s.length vc] 47)).heap.size = W.heap.size + 1 := by simp
                have hsm := HI.out.small
                have hll1 := HI.out.here.len
                have fin : ∀ g cap' W4, World.ownsRow W4 0 47 2 (.slice (some ⟨g, 0, none⟩) (cs.length + 1) cap') (cs.length + 1) (css.flatten ++ [.int .i64 (i2 : Nat), .slice va v1s.length vc]) → World.grownBy (W.alloc (.cells #[.int .i64 (i2 : Nat), .slice va v1s.length vc] 47)) W4 (Value.slice oa cs.length oc).ownBlock → ((Value.slice oa cs.length oc).ownBlock = some g ∨ g = W.heap.size + 1) → KInv false d s l rb N w W4 ([] : Str) i4 (.slice (some ⟨g, 0, none⟩) (cs.length + 1) cap') (cs ++ [⟨(c :: t).length, v1s⟩]) := fun g cap' W4 h1 h2 h3 =>
                  HI.out.next hrb HJ.out.here hcq hrl HJ.out.rd (hws.keep2 (fun k hk _ => show W0.heap.size ≤ k by have : q + 1 ≤ k := hk; have := HQ.out; omega) (fun _ _ _ h => h) (fun _ _ _ h => h)) (by rw [HQ.out] at hlow; exact hlow) hrow hrbk hcl hel h1 h2 h3
                have HF := hid fin
                have HR2 := hid hr2
                clear fin hr2 hrow hrbk hcl hel hcq hco HCO hcok hlow hws b2w
                go_wp2_with (at_builtin; refine wpList_append_lies _ rfl (.tmp 132) (.tmp 134) 37 rfl 0 47 i0 (.agg #[.int .i64 0, .slice none 0 0]) 2 32 Tryz.underlying37 hi0 hz0 hz1 hz2 rfl (by decide) _ cs.length css.flatten (by rfl) HR2.out ⟨W.heap.size, 0, none⟩ 1 1 [.int .i64 (i2 : Nat), .slice va v1s.length vc] (by rfl) rfl (World.news_of_block hnew) (by intro u hu; simp at hu; rcases hu with rfl | rfl <;> rfl) (by decide) (by unfold maxLen; omega) (by omega) (Nat.zero_le _) (W.heap.size + 1) hsz2 ?_)
                intro g cap' W4 h1 h2 h3 _
                have hX := hid (HF.out g cap' W4 h1 h2 h3)
                clear h1 h2 h3 HF HR2 hnew hsz2 k0 k1
                go_wp2
                go_roundg (([] : Str).length + 1)
                case measure => simp at hle hrl ⊢; omega
                case rel => exact ⟨([] : Str), i4, _, rfl, rfl, hX.out⟩
              | cons c2 t2 =>
                have hlt4 := hatb.lt
                have hx4 := hatb.byte
                have hdl4 : decide (s.length ≤ i4) = false := by rw [decide_eq_false]; omega
                by_cases h10' : c2 = 10
                · subst h10'
                  have hpl : parted false (blanks (10 :: t2)) = true := by rw [hbb]; rfl
                  clear hatb
                  have hco := HJ.out.done hpl
                  have HCO := hid hco
                  have hcok := cmd_ok false d (c :: t) (fun _ => HST.out) v1s (10 :: t2) (by rw [← hbb]; exact hco)
                  have hrl := (hcok.2.2 HPL.out).1
                  have hcq := HCQ.out
                  rw [hco] at hcq
                  dsimp only at hcq
                  rw [hbb] at hcq
                  have hlow := HJ.out.low
                  have hws := HJ.out.row
                  obtain ⟨css, hrow, hrbk, hcl, hel⟩ := HI.out.row
                  have hltW : q < W.heap.size := HJ.out.ltq
                  have k0 : W.cell? ⟨q, 0, none⟩ = some (.int .i64 (i2 : Nat)) := by rw [Lib.cell_of_heap HJ.out.blk]; rfl
                  have k1 : W.cell? ⟨q, 1, none⟩ = some (.slice va v1s.length vc) := by rw [Lib.cell_of_heap HJ.out.blk]; rfl
                  obtain ⟨oa, oc, rfl⟩ : ∃ a cap, u9 = .slice a cs.length cap := by
                    obtain ⟨a, cap, hv, _⟩ := RowIs.cell HI.out.row
                    exact ⟨a, cap, hv⟩
                  have b2w : Below W.heap.size W (W.alloc (.cells #[.int .i64 (i2 : Nat), .slice va v1s.length vc] 47)) := below1 _ _
                  have hr2 : (W.alloc (.cells #[.int .i64 (i2 : Nat), .slice va v1s.length vc] 47)).ownsRow 0 47 2 (.slice oa cs.length oc) cs.length css.flatten := by
                    refine ownsRow_heap2 hrow fun k cur hk hc => ?_
                    have h1 : N + 1 ≤ k := hrbk k hk
                    have h2 := hlow.heap (by have := (Array.getElem?_eq_some_iff.1 hc).1; rw [HQ.out]; exact this) (by omega) hc
                    exact (b2w.block k (Array.getElem?_eq_some_iff.1 h2).1).trans h2
                  have hnew := new1 W (.cells #[.int .i64 (i2 : Nat), .slice va v1s.length vc] 47)
                  have hsz2 : (W.alloc (.cells #[.int .i64 (i2 : Nat), .slice va v1s.length vc] 47)).heap.size = W.heap.size + 1 := by simp
                  have hsm := HI.out.small
                  have hll1 := HI.out.here.len
                  have fin : ∀ g cap' W4, World.ownsRow W4 0 47 2 (.slice (some ⟨g, 0, none⟩) (cs.length + 1) cap') (cs.length + 1) (css.flatten ++ [.int .i64 (i2 : Nat), .slice va v1s.length vc]) → World.grownBy (W.alloc (.cells #[.int .i64 (i2 : Nat), .slice va v1s.length vc] 47)) W4 (Value.slice oa cs.length oc).ownBlock → ((Value.slice oa cs.length oc).ownBlock = some g ∨ g = W.heap.size + 1) → KInv false d s l rb N w W4 (10 :: t2) i4 (.slice (some ⟨g, 0, none⟩) (cs.length + 1) cap') (cs ++ [⟨(c :: t).length, v1s⟩]) := fun g cap' W4 h1 h2 h3 =>
                    HI.out.next hrb HJ.out.here hcq hrl HJ.out.rd (hws.keep2 (fun k hk _ => show W0.heap.size ≤ k by have : q + 1 ≤ k := hk; have := HQ.out; omega) (fun _ _ _ h => h) (fun _ _ _ h => h)) (by rw [HQ.out] at hlow; exact hlow) hrow hrbk hcl hel h1 h2 h3
                  have HF := hid fin
                  have HR2 := hid hr2
                  clear fin hr2 hrow hrbk hcl hel hcq hco HCO hcok hlow hws b2w
                  go_wp2_with (at_builtin; refine wpList_append_lies _ rfl (.tmp 132) (.tmp 134) 37 rfl 0 47 i0 (.agg #[.int .i64 0, .slice none 0 0]) 2 32 Tryz.underlying37 hi0 hz0 hz1 hz2 rfl (by decide) _ cs.length css.flatten (by rfl) HR2.out ⟨W.heap.size, 0, none⟩ 1 1 [.int .i64 (i2 : Nat), .slice va v1s.length vc] (by rfl) rfl (World.news_of_block hnew) (by intro u hu; simp at hu; rcases hu with rfl | rfl <;> rfl) (by decide) (by unfold maxLen; omega) (by omega) (Nat.zero_le _) (W.heap.size + 1) hsz2 ?_)
                  intro g cap' W4 h1 h2 h3 _
                  have hX := hid (HF.out g cap' W4 h1 h2 h3)
                  clear h1 h2 h3 HF HR2 hnew hsz2 k0 k1
                  go_wp2
                  go_roundg ((10 :: t2).length + 1)
                  case measure => simp at hle hrl ⊢; omega
                  case rel => exact ⟨(10 :: t2), i4, _, rfl, rfl, hX.out⟩
                · by_cases h59' : c2 = 59
                  · subst h59'
                    have hpl : parted false (blanks (59 :: t2)) = true := by rw [hbb]; rfl
                    clear hatb
                    have hco := HJ.out.done hpl
                    have HCO := hid hco
                    have hcok := cmd_ok false d (c :: t) (fun _ => HST.out) v1s (59 :: t2) (by rw [← hbb]; exact hco)
                    have hrl := (hcok.2.2 HPL.out).1
                    have hcq := HCQ.out
                    rw [hco] at hcq
                    dsimp only at hcq
                    rw [hbb] at hcq
                    have hlow := HJ.out.low
                    have hws := HJ.out.row
                    obtain ⟨css, hrow, hrbk, hcl, hel⟩ := HI.out.row
                    have hltW : q < W.heap.size := HJ.out.ltq
                    have k0 : W.cell? ⟨q, 0, none⟩ = some (.int .i64 (i2 : Nat)) := by rw [Lib.cell_of_heap HJ.out.blk]; rfl
                    have k1 : W.cell? ⟨q, 1, none⟩ = some (.slice va v1s.length vc) := by rw [Lib.cell_of_heap HJ.out.blk]; rfl
                    obtain ⟨oa, oc, rfl⟩ : ∃ a cap, u9 = .slice a cs.length cap := by
                      obtain ⟨a, cap, hv, _⟩ := RowIs.cell HI.out.row
                      exact ⟨a, cap, hv⟩
                    have b2w : Below W.heap.size W (W.alloc (.cells #[.int .i64 (i2 : Nat), .slice va v1s.length vc] 47)) := below1 _ _
                    have hr2 : (W.alloc (.cells #[.int .i64 (i2 : Nat), .slice va v1s.length vc] 47)).ownsRow 0 47 2 (.slice oa cs.length oc) cs.length css.flatten := by
                      refine ownsRow_heap2 hrow fun k cur hk hc => ?_
                      have h1 : N + 1 ≤ k := hrbk k hk
                      have h2 := hlow.heap (by have := (Array.getElem?_eq_some_iff.1 hc).1; rw [HQ.out]; exact this) (by omega) hc
                      exact (b2w.block k (Array.getElem?_eq_some_iff.1 h2).1).trans h2
                    have hnew := new1 W (.cells #[.int .i64 (i2 : Nat), .slice va v1s.length vc] 47)
                    have hsz2 : (W.alloc (.cells #[.int .i64 (i2 : Nat), .slice va v1s.length vc] 47)).heap.size = W.heap.size + 1 := by simp
                    have hsm := HI.out.small
                    have hll1 := HI.out.here.len
                    have fin : ∀ g cap' W4, World.ownsRow W4 0 47 2 (.slice (some ⟨g, 0, none⟩) (cs.length + 1) cap') (cs.length + 1) (css.flatten ++ [.int .i64 (i2 : Nat), .slice va v1s.length vc]) → World.grownBy (W.alloc (.cells #[.int .i64 (i2 : Nat), .slice va v1s.length vc] 47)) W4 (Value.slice oa cs.length oc).ownBlock → ((Value.slice oa cs.length oc).ownBlock = some g ∨ g = W.heap.size + 1) → KInv false d s l rb N w W4 (59 :: t2) i4 (.slice (some ⟨g, 0, none⟩) (cs.length + 1) cap') (cs ++ [⟨(c :: t).length, v1s⟩]) := fun g cap' W4 h1 h2 h3 =>
                      HI.out.next hrb HJ.out.here hcq hrl HJ.out.rd (hws.keep2 (fun k hk _ => show W0.heap.size ≤ k by have : q + 1 ≤ k := hk; have := HQ.out; omega) (fun _ _ _ h => h) (fun _ _ _ h => h)) (by rw [HQ.out] at hlow; exact hlow) hrow hrbk hcl hel h1 h2 h3
                    have HF := hid fin
                    have HR2 := hid hr2
                    clear fin hr2 hrow hrbk hcl hel hcq hco HCO hcok hlow hws b2w
                    go_wp2_with (at_builtin; refine wpList_append_lies _ rfl (.tmp 132) (.tmp 134) 37 rfl 0 47 i0 (.agg #[.int .i64 0, .slice none 0 0]) 2 32 Tryz.underlying37 hi0 hz0 hz1 hz2 rfl (by decide) _ cs.length css.flatten (by rfl) HR2.out ⟨W.heap.size, 0, none⟩ 1 1 [.int .i64 (i2 : Nat), .slice va v1s.length vc] (by rfl) rfl (World.news_of_block hnew) (by intro u hu; simp at hu; rcases hu with rfl | rfl <;> rfl) (by decide) (by unfold maxLen; omega) (by omega) (Nat.zero_le _) (W.heap.size + 1) hsz2 ?_)
                    intro g cap' W4 h1 h2 h3 _
                    have hX := hid (HF.out g cap' W4 h1 h2 h3)
                    clear h1 h2 h3 HF HR2 hnew hsz2 k0 k1
                    go_wp2
                    go_roundg ((59 :: t2).length + 1)
                    case measure => simp at hle hrl ⊢; omega
                    case rel => exact ⟨(59 :: t2), i4, _, rfl, rfl, hX.out⟩
                  · have n10' := byte_ne 10 h10' rfl
                    have n59' := byte_ne 59 h59' rfl
                    have hpl : parted false (c2 :: t2) = false := by simp [parted, h10', h59']
                    have hwc : Calls Tryz.prog 99 #[.pointer (some ⟨rb, 0, none⟩), .int .i64 (i4 : Nat), .bool false] W _ := IH.out (c2 :: t2) (by have := HI.out.small; omega) W rb s i4 hs hd HJ.out.rd hatb (by simp)
                    have HWC := hid hwc
                    clear hwc hatb
                    cases hwo : word false d (c2 :: t2) with
                    | halt hh =>
                      have hRR : R = .halt hh := by
                        have h := HI.out.res
                        have h2 := HCQ.out
                        rw [HJ.out.halts (by rw [hbb]; exact hpl) (by rw [hbb]; exact hwo)] at h2
                        dsimp only at h2
                        rw [h2, ← HR.out] at h
                        rw [← h]
                        rfl
                      have HRR := hid hRR
                      obtain ⟨E, A, O, hfc, hE0, hE8, hE1⟩ := faultC_shape s hh
                      go_wp2_with fail
                      (with_reducible refine HWC.out.mono ?_); intro e W2 h2
                      rw [hwo] at h2
                      obtain ⟨rfl, hrh, hbut⟩ := (show e = .returned (.tuple #[.agg #[.bool false, .slice none 0 0], .int .i64 0, .agg (faultC s hh)]) ∧ RrHalt W2 rb s d all3 ∧ But rb W.heap.size W W2 from h2)
                      rw [hfc]
                      have hlt2 := hbut.size
                      have hltN := HI.out.ltN
                      have hflt2 : W2.heap[N]? = some (.cells #[.int .i64 0, .int .i64 0, .bool false] 63 (0, 0)) := hbut.heap (by have := HJ.out.ltq; have := HQ.out; omega) (by omega) (HJ.out.low.heap (by have := HQ.out; omega) (by omega) HI.out.flt)
                      have hbut2 : But rb N w W2 := HI.out.but.trans ((HJ.out.low.mono (by have := HQ.out; omega)).trans (hbut.mono (by have := HJ.out.ltq; have := HQ.out; omega)))
                      have HH2 := hid (show W2.heap[N]? = some (.cells #[.int .i64 0, .int .i64 0, .bool false] 63 (0, 0)) ∧ But rb N w W2 ∧ RrHalt W2 rb s d all3 from ⟨hflt2, hbut2, hrh⟩)
                      have hltN2 : N < W2.heap.size := (Array.getElem?_eq_some_iff.1 hflt2).1
                      clear hRR h2 hbut hrh hflt2 hbut2 hwo hltN
                      go_upto_region 16 with fail
                      refine at_world fun W3 hW3 => ?_
                      have hb3 : Below W2.heap.size W2 W3 := by rw [hW3]; exact below2 _ _ _
                      have hf3 : W3.heap[W2.heap.size + 1]? = some (.cells #[.int .i64 E, .int .i64 A, .bool O] 63 (0, 0)) := by rw [hW3]; exact (new2 _ _ _).2
                      obtain ⟨k0, k1, k2⟩ := flt_cells hf3
                      have hfl3 := (hb3.block N hltN2).trans HH2.out.1
                      have HH3 := hid (show W3.heap[N]? = some (.cells #[.int .i64 0, .int .i64 0, .bool false] 63 (0, 0)) ∧ But rb N w W3 ∧ RrHalt W3 rb s d all3 from ⟨hfl3, HH2.out.2.1.trans (but_of_below (hb3.mono (by omega)) rb), HH2.out.2.2.below hb3⟩)
                      obtain ⟨x0, x1, x2⟩ := flt_cells hfl3
                      have y0 := Lib.frozen_of_heap hfl3 0
                      have y1 := Lib.frozen_of_heap hfl3 1
                      have y2 := Lib.frozen_of_heap hfl3 2
                      clear hW3 hb3 hf3 hfl3 HH2
                      go_region
                      go_wp2
                      have hfin := drew_heap (set3 HH3.out.1 (.int .i64 E) (.int .i64 A) (.bool O))
                      refine bodyPost_ret (results_ttc rfl _ rfl hfin Tryz.underlying63 rfl Tryz.infoF) rfl ?_
                      rw [HRR.out]
                      unfold CmdsRP
                      dsimp only
                      rw [hfc]
                      have hh3 := set_halt (x := .int .i64 E) (y := .int .i64 A) (z := .bool O) hrb HH3.out.2.2
                      have hb3 := set_but (x := .int .i64 E) (y := .int .i64 A) (z := .bool O) HH3.out.2.1
                      refine ⟨rfl, RrHalt.drewN hh3 1, ?_⟩
                      rw [← HN.out]
                      exact hb3.drew
                    | ok x r =>
                      go_wp2_with fail
                      (with_reducible refine HWC.out.mono ?_); intro e W2 h2
                      rw [hwo] at h2
                      obtain ⟨wv, rfl, hrd2, htk2, hbut⟩ := h2
                      obtain ⟨wa, wn, wc, rfl⟩ : ∃ a n c, wv = .slice a n c := by
                        obtain ⟨a, cap, hv, _⟩ := RowIs.cell htk2
                        exact ⟨a, _, cap, hv⟩
                      have hwok := word_ok false d (c2 :: t2) (by have := blanks_stop (c2 :: t2) false (by rw [hbb]; exact hpl); rw [hbb] at this; exact this) x r hwo
                      have hJ2 := HJ.out.call hrbq hbut hrd2 HJ.out.here rfl (Nat.le_refl _)
                      have HJ2 := hid hJ2
                      have hlq2 := hJ2.ltq
                      have HTK2 := hid (show ToksIs 33 W2 (New (q + 1)) (.slice wa wn wc) x.toks from htk2.keep (fun g hg => show q + 1 ≤ g by have hg2 : W.heap.size ≤ g := hg; have := HJ.out.ltq; omega) (fun _ _ => rfl))
                      clear hbut hrd2 htk2 hJ2
                      go_upto_region 17 with fail
                      refine at_world fun W3 hW3 => ?_
                      have hb3 : Below W2.heap.size W2 W3 := by rw [hW3]; exact below2 _ _ _
                      have hJ3 := HJ2.out.call hrbq (but_of_below hb3 rb) (HJ2.out.rd.below hb3) HJ2.out.here rfl (Nat.le_refl _)
                      have htk3 := HTK2.out.fwd hb3
                      have hw3 : W3.heap[W2.heap.size]? = some (.cells #[.bool x.spread, .slice wa wn wc] 49 (0, 0)) := by rw [hW3]; exact (new2 _ _ _).1
                      obtain ⟨z2, hz2'⟩ : ∃ z2, z2 = W2.heap.size := ⟨_, rfl⟩
                      rw [← hz2'] at hw3
                      rw [← hz2']
                      clear hW3 hb3 hz2' HJ2 HTK2 hlq2
                      have k0 : W3.cell? ⟨q, 0, none⟩ = some (.int .i64 (i2 : Nat)) := by rw [Lib.cell_of_heap hJ3.blk]; rfl
                      have k1 : W3.cell? ⟨q, 1, none⟩ = some (.slice va v1s.length vc) := by rw [Lib.cell_of_heap hJ3.blk]; rfl
                      have j0 : W3.cell? ⟨z2, 0, none⟩ = some (.bool x.spread) := by rw [Lib.cell_of_heap hw3]; rfl
                      have j1 : W3.cell? ⟨z2, 1, none⟩ = some (.slice wa wn wc) := by rw [Lib.cell_of_heap hw3]; rfl
                      obtain ⟨css, hrow, hrbk, hcl, hel⟩ := hJ3.row
                      have hlq3 := hJ3.ltq
                      have hblk3 := hJ3.blk
                      have b2w : Below W3.heap.size W3 (W3.alloc (.cells #[.bool x.spread, .slice wa wn wc] 49)) := below1 _ _
                      have hr2 : (W3.alloc (.cells #[.bool x.spread, .slice wa wn wc] 49)).ownsRow 0 49 2 (.slice va v1s.length vc) v1s.length css.flatten := hrow.alloc _
                      have hblk4 := (b2w.block q hlq3).trans hblk3
                      have hown : (Value.slice va v1s.length vc).ownBlock ≠ some q := by
                        intro e
                        obtain ⟨cur, hc⟩ := (ownsRow_lt hr2 _ e).2
                        exact cells_ne hc hblk4 (by decide) rfl
                      have hnew := new1 W3 (.cells #[.bool x.spread, .slice wa wn wc] 49)
                      have hsz2 : (W3.alloc (.cells #[.bool x.spread, .slice wa wn wc] 49)).heap.size = W3.heap.size + 1 := by simp
                      have hsm := HJ.out.small
                      have hll1 := HI.out.here.len
                      have fin : ∀ g cap' W4, World.ownsRow W4 0 49 2 (.slice (some ⟨g, 0, none⟩) (v1s.length + 1) cap') (v1s.length + 1) (css.flatten ++ [.bool x.spread, .slice wa wn wc]) → World.grownBy (W3.alloc (.cells #[.bool x.spread, .slice wa wn wc] 49)) W4 (Value.slice va v1s.length vc).ownBlock → ((Value.slice va v1s.length vc).ownBlock = some g ∨ g = W3.heap.size + 1) →
                          JInv false d s (c :: t) rb q W0 (W4.setCell ⟨q, 1, none⟩ (.slice (some ⟨g, 0, none⟩) (v1s.length + 1) cap')) r (s.length - r.length) i2 (.slice (some ⟨g, 0, none⟩) (v1s.length + 1) cap') (v1s ++ [x]) ∧ W4.frozen? ⟨q, 1, none⟩ = false ∧ W4.cell? ⟨q, 1, none⟩ = some (.slice va v1s.length vc) := fun g cap' W4 h1 h2 h3 => by
                        have hb4 := (h2.block q (Array.getElem?_eq_some_iff.1 hblk4).1 (fun e => hown e.symm)).trans hblk4
                        exact ⟨hJ3.next hrbq (by rw [hbb]; exact hpl) (by rw [hbb]; exact hwo) htk3 hrow hrbk hcl hel h1 h2 h3, Lib.frozen_of_heap hb4 1, by rw [Lib.cell_of_heap hb4]; rfl⟩
                      have HF := hid fin
                      have HR2 := hid hr2
                      have hrl := hwok.2.1
                      clear fin hr2 hrow hrbk hcl hel b2w hJ3 htk3 hown hblk3 hblk4 hw3 hwok HCQ
                      go_wp2_with (at_builtin; refine wpList_append_lies _ rfl (.tmp 126) (.tmp 128) 45 rfl 0 49 j0i (.agg #[.bool false, .slice none 0 0]) 2 32 Tryz.underlying45 hj0 hy0 hy1 hy2 rfl (by decide) _ v1s.length css.flatten (by rfl) HR2.out ⟨W3.heap.size, 0, none⟩ 1 1 [.bool x.spread, .slice wa wn wc] (by rfl) rfl (World.news_of_block hnew) (by intro u hu; simp at hu; rcases hu with rfl | rfl <;> rfl) (by decide) (by unfold maxLen; omega) (by omega) (Nat.zero_le _) (W3.heap.size + 1) hsz2 ?_)
                      intro g cap' W4 h1 h2 h3 _
                      obtain ⟨hX, s2, s1⟩ := HF.out g cap' W4 h1 h2 h3
                      have HX := hid hX
                      clear h1 h2 h3 HF HR2 hnew hsz2 k0 k1 j0 j1 hX
                      go_wp2
                      go_roundg (r.length + 1)
                      case measure => simp; omega
                      case rel => exact ⟨r, s.length - r.length, _, _, rfl, rfl, HX.out⟩
end Go.Proofs.YtkgpmkkodpjdfaaGreatDoor.Pz
