/-
  Part KG of the proofs of this seat: contracts of functions and plain facts, merged from 3 texts.
-/
import Derived.Test.YtabhkoklcjhlpaaGreatDoorK0
import Derived.Test.YtabhkoklcjhlpaaGreatDoorK1
import Derived.Test.YtabhkoklcjhlpaaGreatDoorK2
import Derived.Test.YtabhkoklcjhlpaaGreatDoorK3
import Derived.Test.YtabhkoklcjhlpaaGreatDoorK4
import Derived.Test.YtabhkoklcjhlpaaGreatDoorK5
import Derived.Test.YtabhkoklcjhlpaaGreatDoorK6
import Derived.Test.YtabhkoklcjhlpaaGreatDoorK7
import Derived.Test.YtabhkoklcjhlpaaGreatDoorK8
import Derived.Test.YtabhkoklcjhlpaaGreatDoorK9
import Derived.Test.YtabhkoklcjhlpaaGreatDoorKA
import Derived.Test.YtabhkoklcjhlpaaGreatDoorKB
import Derived.Test.YtabhkoklcjhlpaaGreatDoorKC
import Derived.Test.YtabhkoklcjhlpaaGreatDoorKD
import Derived.Test.YtabhkoklcjhlpaaGreatDoorKE
import Derived.Test.YtabhkoklcjhlpaaGreatDoorKF
/-
  The reference's store: change, Put, Enter, Forget.
-/
namespace Go.Proofs.YtabhkoklcjhlpaaGreatDoor.Pz
open Go.RowKit
def enterR (A : ShR) (k : Int) (p : Str × Int) (l : List Str) (f : Int) : Int × ShR := if enterErr l = 0 then (0, A.set k.toNat (quotedL l, f)) else (enterErr l, A.set k.toNat p)
def putR (A : ShR) (k j : Int) (s : Str) : Int × ShR := match pickA A k with
  | none => (5, A)
  | some p =>
    if (splitE p.1).2.2 ≠ 0 then ((splitE p.1).2.2, A.set k.toNat (p.1, faceIf (splitE p.1).2.2 1 p.2))
    else if 0 ≤ j ∧ j < ((splitE p.1).1.length : Int) then enterR A k (p.1, faceIf (splitE p.1).2.2 1 p.2) ((splitE p.1).1.set j.toNat s) 1
    else (7, A.set k.toNat (p.1, faceIf (splitE p.1).2.2 1 p.2))
def enterKeyR (A : ShR) (k : Int) (key s : Str) : Int × ShR := match pickA A k with
  | none => (5, A)
  | some p =>
    if (pairsE p.1).2 ≠ 0 then ((pairsE p.1).2, A.set k.toNat (p.1, faceIf (pairsE p.1).2 3 p.2))
    else enterR A k (p.1, faceIf (pairsE p.1).2 3 p.2) (dictSet (pairsE p.1).1 key s) 3
/-- what 'change' leaves -/
def ChangeQ (b : Nat) (w : World) (l : List Str) (f : Int) (w' : World) : Prop := if enterErr l = 0 then RVal w' b (quotedL l) f ∧ Only [b] w w' else Below w.heap.size w w'
theorem ChangeQ.bad {b : Nat} {w w' : World} {l : List Str} {f : Int} (h : enterErr l ≠ 0) (hb : Below w.heap.size w w') : ChangeQ b w l f w' := by
  unfold ChangeQ
  rw [if_neg h]
  exact hb
theorem ChangeQ.good {b : Nat} {w w' : World} {l : List Str} {f : Int} (h : enterErr l = 0) (hb : RVal w' b (quotedL l) f ∧ Only [b] w w') : ChangeQ b w l f w' := by
  unfold ChangeQ
  rw [if_pos h]
  exact hb
set_option maxRecDepth 100000 in
set_option maxHeartbeats 1000000 in
theorem change_fn {w : World} {b C : Nat} {t : Str} {n : Int} {lv : Value} {l : List Str} (h : RVal w b t n) (hl : RowS C w lv l) (hll : l.length ≤ 1000000) (hls : ∀ s ∈ l, s.length ≤ 1000000) (f : Int) :
    Calls Tryz.prog 100 #[.pointer (some ⟨b, 0, none⟩), lv, .int .i64 f] w fun e w' => e = .returned (.int .i64 (enterErr l)) ∧ ChangeQ b w l f w' := by
  have HJ := joinRA_fn l lv w hl.strs hls (by omega)
  obtain ⟨a, c, rfl⟩ := hl.shape
  obtain ⟨m, hm⟩ : ∃ m, m = l.length := ⟨_, rfl⟩
  by_cases hbig : 10000 < l.length
  · have he : enterErr l = 4 := if_pos hbig
    have HBAD := hid (show ∀ w', Below w.heap.size w w' → ChangeQ b w l f w' from fun w' hb => ChangeQ.bad (by rw [he]; decide) hb)
    rw [he]
    rw [← hm] at hbig ⊢
    have hb2 : (m : Int) > 10000 := by omega
    clear hm hl h he HJ
    go_enter Tryz.func100, Tryz.ntmps100
    go_wp2
    go_ret
    exact ⟨rfl, HBAD.out _ (Below.refl _ _)⟩
  · by_cases hj : (joinRes l).2 = 0
    · have he : enterErr l = 0 := by unfold enterErr; rw [if_neg hbig, if_pos hj]
      have hq : joinRes l = (quotedL l, 0) := joinRes_of_ok (joinOk_of hj)
      have HGO := hid (fun w' hb => ChangeQ.good (b := b) (w := w) (f := f) (w' := w') he hb)
      rw [he]
      rw [hq] at HJ
      dsimp only at HJ
      obtain ⟨Q, hQ⟩ : ∃ Q, Q = quotedL l := ⟨_, rfl⟩
      rw [← hQ] at HJ HGO
      rw [← hm] at HJ hbig ⊢
      have HJ := hid HJ
      have hb2 : ¬ ((m : Int) > 10000) := by omega
      have H := hid h
      clear hm hl h he hq hQ hj
      go_enter Tryz.func100, Tryz.ntmps100
      go_wp2_with fail
      (with_reducible refine HJ.out.mono ?_); rintro e w1 ⟨rfl, hb⟩
      have h1 := H.out.on hb
      have c0 : w1.cell? ⟨b, 0, none⟩ = some (.string ⟨t.toArray⟩) := by rw [Lib.cell_of_heap h1]; rfl
      have f0 : w1.frozen? ⟨b, 0, none⟩ = false := Lib.frozen_of_heap h1 0
      obtain ⟨w2, hw2⟩ : ∃ w2, w2 = w1.setCell ⟨b, 0, none⟩ (.string ⟨Q.toArray⟩) := ⟨_, rfl⟩
      have h2 : RVal w2 b Q n := by
        rw [hw2]
        unfold RVal at h1 ⊢
        simp [World.setCell, Array.getElem?_modify, h1]
      have ho2 : Only [b] w1 w2 := by rw [hw2]; exact Only.set (by simp) _
      have c1 : w2.cell? ⟨b, 1, none⟩ = some (.int .i64 n) := by rw [Lib.cell_of_heap h2]; rfl
      have f1 : w2.frozen? ⟨b, 1, none⟩ = false := Lib.frozen_of_heap h2 1
      have h3 := h2.faced f
      have HZ := hid (HGO.out _ ⟨h3.1, (Only.of hb _).trans (ho2.trans h3.2)⟩)
      rw [hw2] at c1 f1 HZ
      clear hb h1 hw2 h2 ho2 h3
      go_wp2
      go_ret
      exact ⟨rfl, HZ.out⟩
    · have he : enterErr l = 3 := by unfold enterErr; rw [if_neg hbig, if_neg hj]
      have HBAD := hid (show ∀ w', Below w.heap.size w w' → ChangeQ b w l f w' from fun w' hb => ChangeQ.bad (by rw [he]; decide) hb)
      rw [he]
      rw [← hm] at HJ hbig ⊢
      generalize joinRes l = r at HJ hj
      obtain ⟨q, er⟩ := r
      dsimp only at HJ hj
      have HJ := hid HJ
      have hb2 : ¬ ((m : Int) > 10000) := by omega
      have hne : (er != 0) = true := by rw [bne_iff_ne]; exact hj
      clear hm hl h he hj
      go_enter Tryz.func100, Tryz.ntmps100
      go_wp2_with fail
      (with_reducible refine HJ.out.mono ?_); rintro e w1 ⟨rfl, hb⟩
      have HB := hid hb
      clear hb
      go_wp2
      go_ret
      exact ⟨rfl, HBAD.out _ HB.out⟩
section
variable {B st : Nat} {w : World} {v : Value} {R : List RV}
/-- behind what was asked for -/
theorem RStAt.changed (h : RStAt B st w v R) {i : Nat} {x : RV} (hi : R[i]? = some x) {w3 w4 : World} {n3 f : Int} {l : List Str} (ho : Only [x.b] w w3) (hr : RVal w3 x.b x.t n3) (hq : ChangeQ x.b w3 l f w4) :
    RStep B st w v R w4 (enterR (shapeR R) i (x.t, n3) l f).2 := by
  unfold ChangeQ at hq
  unfold enterR
  by_cases he : enterErr l = 0
  · rw [if_pos he] at hq ⊢
    exact h.wrote hi (ho.trans hq.2) hq.1
  · rw [if_neg he] at hq ⊢
    exact h.wrote hi (ho.trans (Only.of hq _)) (hr.on hq)
theorem enterR_err (A : ShR) (k : Int) (p : Str × Int) (l : List Str) (f : Int) : (enterR A k p l f).1 = enterErr l := by
  unfold enterR
  split
  · rename_i h; exact h.symm
  · rfl
theorem split_short (s : Str) (hs : s.length ≤ 65536) : (splitE s).1.length ≤ 10000 ∧ ∀ x ∈ (splitE s).1, x.length ≤ 65536 := by
  have h := splitE_out s
  exact ⟨h.2.1, fun x hx => by have := sumL_mem _ x hx; omega⟩
theorem set_mem_len {l : List Str} {s : Str} {b : Nat} (h : ∀ x ∈ l, x.length ≤ b) (hs : s.length ≤ b) (i : Nat) : ∀ x ∈ l.set i s, x.length ≤ b := by
  intro x hx
  rcases List.mem_or_eq_of_mem_set hx with h1 | rfl
  · exact h x h1
  · exact hs
theorem bookOf_mem {b : Nat} : ∀ (l Ks Vs : List Str), (∀ x ∈ l, x.length ≤ b) → (∀ x ∈ Ks, x.length ≤ b) → (∀ x ∈ Vs, x.length ≤ b) → (∀ x ∈ (bookOf Ks Vs l).1, x.length ≤ b) ∧ ∀ x ∈ (bookOf Ks Vs l).2, x.length ≤ b
  | [], Ks, Vs, _, h2, h3 => ⟨h2, h3⟩
  | [_], Ks, Vs, _, h2, h3 => ⟨h2, h3⟩
  | k :: x :: l, Ks, Vs, h1, h2, h3 => by
    rw [bookOf]
    have hk := h1 k (by simp)
    have hx := h1 x (by simp)
    refine bookOf_mem l _ _ (fun y hy => h1 y (by simp [hy])) ?_ ?_
    · unfold setK
      split
      · exact h2
      · intro y hy
        rcases List.mem_append.1 hy with hy | hy
        · exact h2 y hy
        · rw [List.mem_singleton.1 hy]; exact hk
    · unfold setV
      split
      · exact set_mem_len h3 hx _
      · intro y hy
        rcases List.mem_append.1 hy with hy | hy
        · exact h3 y hy
        · rw [List.mem_singleton.1 hy]; exact hx
theorem flat_mem {b : Nat} {Ks Vs : List Str} (h1 : ∀ x ∈ Ks, x.length ≤ b) (h2 : ∀ x ∈ Vs, x.length ≤ b) : ∀ x ∈ flatP (Ks.zip Vs), x.length ≤ b := by
  intro x hx
  unfold flatP at hx
  obtain ⟨p, hp, hx⟩ := List.mem_flatMap.1 hx
  obtain ⟨a, c⟩ := p
  have := List.of_mem_zip hp
  simp only [List.mem_cons, List.not_mem_nil, or_false] at hx
  rcases hx with rfl | rfl
  · exact h1 _ this.1
  · exact h2 _ this.2
theorem pairs_short (s : Str) (hs : s.length ≤ 65536) : ∀ x ∈ (pairsE s).1, x.length ≤ 65536 := by
  unfold pairsE
  split
  · have h := bookOf_mem (b := 65536) (splitE s).1 [] [] (split_short s hs).2 (by simp) (by simp)
    exact flat_mem h.1 h.2
  · simp
theorem dictSet_short {l : List Str} {b : Nat} (h : ∀ x ∈ l, x.length ≤ b) {key s : Str} (hk : key.length ≤ b) (hs : s.length ≤ b) : ∀ x ∈ dictSet l key s, x.length ≤ b := by
  have h1 := bookOf_mem (b := b) l [] [] h (by simp) (by simp)
  unfold dictSet
  refine flat_mem ?_ ?_
  · unfold setK
    split
    · exact h1.1
    · intro y hy
      rcases List.mem_append.1 hy with hy | hy
      · exact h1.1 y hy
      · rw [List.mem_singleton.1 hy]; exact hk
  · unfold setV
    split
    · exact set_mem_len h1.2 hs _
    · intro y hy
      rcases List.mem_append.1 hy with hy | hy
      · exact h1.2 y hy
      · rw [List.mem_singleton.1 hy]; exact hs
theorem empty_row (w : World) : RowS w.heap.size (w.alloc (.cells #[] 9)) (.slice (some ⟨w.heap.size, 0, none⟩) 0 0) [] := ⟨rfl, .inr ⟨w.heap.size, 0, #[], rfl, Nat.le_refl _, heap_alloc_new _ _, Nat.le_refl _, Nat.zero_le _, rfl, rfl⟩⟩
set_option maxRecDepth 100000 in
set_option maxHeartbeats 2000000 in
theorem putR_fn (h : RStAt B st w v R) (hlen : ∀ x ∈ R, x.t.length ≤ 65536) (k j : Int) (s : Str) (hsl : s.length ≤ 1000000) :
    Calls Tryz.prog 73 #[.pointer (some ⟨st, 0, none⟩), .int .i64 k, .int .i64 j, .string ⟨s.toArray⟩] w fun e w' => e = .returned (.int .i64 (putR (shapeR R) k j s).1) ∧ RStep B st w v R w' (putR (shapeR R) k j s).2 := by
  unfold putR
  rw [pickA_shapeR]
  have HA := at_fn h k
  cases hp : pickA R k with
  | none =>
    rw [hp] at HA
    have HA := hid HA
    have HS := hid (h.same (Below.refl _ _))
    clear h hp
    unfold atP at HA
    dsimp only [Option.map] at HA ⊢
    go_enter Tryz.func73, Tryz.ntmps73
    go_wp2_with fail
    (with_reducible refine HA.out.mono ?_); rintro e w1 ⟨rfl, hw⟩; subst hw
    go_wp2
    go_ret
    exact ⟨rfl, HS.out⟩
  | some x =>
    rw [hp] at HA
    have HA := hid HA
    obtain ⟨i, rfl, hi⟩ := pickA_some hp
    have hv := h.val x (List.mem_of_getElem? hi)
    have hxl := hlen x (List.mem_of_getElem? hi)
    have HI := hid hi
    have HV := hid hv
    have H := hid h
    unfold atP at HA
    dsimp only [Option.map] at HA ⊢
    rw [Int.toNat_natCast]
    have HC := listR5_fn hv (by omega)
    have hsh := split_short x.t hxl
    generalize splitE x.t = E at HC hsh ⊢
    obtain ⟨l, at0, er⟩ := E
    dsimp only at HC hsh ⊢
    have HC := hid HC
    have HSH := hid hsh
    clear h hp hv hi
    by_cases he : er = 0
    · subst he
      rw [if_neg (by simp)]
      by_cases hj : 0 ≤ j ∧ j < (l.length : Int)
      · rw [if_pos hj]
        obtain ⟨m, rfl⟩ := Int.eq_ofNat_of_zero_le hj.1
        have hm : m < l.length := by omega
        rw [Int.toNat_natCast, enterR_err]
        obtain ⟨n, hn0⟩ : ∃ n, n = l.length := ⟨_, rfl⟩
        have HN0 := hid hn0
        have h1 : ¬ ((m : Int) < 0) := by omega
        have h2 : ¬ ((m : Int) ≥ (n : Int)) := by omega
        have hmn : m < n := by omega
        obtain ⟨l', hl'⟩ : ∃ l', l' = l.set m s := ⟨_, rfl⟩
        have HLS := hid hl'
        have HLEN := hid (show l'.length ≤ 1000000 ∧ ∀ y ∈ l', y.length ≤ 1000000 by
          rw [hl', List.length_set]
          have := hsh.1
          exact ⟨by omega, set_mem_len (fun y hy => by have := hsh.2 y hy; omega) hsl m⟩)
        rw [← hl']
        clear hj hn0 hl' hsh
        go_enter Tryz.func73, Tryz.ntmps73
        go_wp2_with fail
        (with_reducible refine HA.out.mono ?_); rintro e w1 ⟨rfl, hw⟩; subst hw
        go_wp2_with fail
        (with_reducible refine HC.out.mono ?_); rintro e w2 ⟨u, rfl, hru, ho, hr⟩
        obtain ⟨a, c, rfl⟩ := hru.shape
        rw [← HN0.out]
        have HRU := hid hru
        have HO := hid ho
        have HR := hid hr
        have he0 := hid (empty_row w2)
        have hsz2 : w2.heap.size ≤ (w2.alloc (.cells #[] 9)).heap.size := by simp
        have hru2 := hid ((hru.on (belowA w2 (.cells #[] 9))))
        have hl7 : ([] : List Str).length + l.length ≤ 10000000 := by have := HSH.out.1; simp; omega
        clear hru ho hr
        go_wp2_with (at_builtin; go_loud (refine app_row rfl (.tmp 34) (.tmp 35) rfl w2.heap.size w1.heap.size _ (.slice a n c) [] l rfl he0.out rfl (by have h9 := hru2.out; rw [← HN0.out] at h9; exact h9) hsz2 hl7 ?_))
        intro v5 w5 hr5 hg5 hv5
        have hb5 : Below w2.heap.size w2 w5 := (belowA w2 (.cells #[] 9)).trans ⟨hg5.os, hg5.tape, hg5.output, hg5.size, fun q hq => hg5.block q (by omega) fun e => by
          simp only [Value.ownBlock, Option.some.injEq] at e
          omega⟩
        obtain ⟨a5, c5, rfl⟩ := hr5.shape
        obtain ⟨g, rfl, hx1, hc5⟩ := hr5.at hm
        clear hx1
        obtain ⟨s1, s2, s3⟩ := hr5.stored m s
        rw [← HLS.out, ← HN0.out] at s1
        rw [← HN0.out]
        have hb6 := hb5.trans s2
        have hE := hid (change_fn (HR.out.on hb6) s1 HLEN.out.1 HLEN.out.2 1)
        have HB6 := hid hb6
        clear hr5 hg5 hv5 s1 s2 hb5 hb6
        go_wp2_with fail
        (with_reducible refine hE.out.mono ?_); rintro e w7 ⟨rfl, hq⟩
        have HZ := hid (H.out.changed HI.out (HO.out.trans (Only.of HB6.out _)) (HR.out.on HB6.out) hq)
        clear hq
        go_wp2
        go_ret
        exact ⟨rfl, HZ.out⟩
      · rw [if_neg hj]
        obtain ⟨n, hn0⟩ : ∃ n, n = l.length := ⟨_, rfl⟩
        by_cases h1 : j < 0
        · clear hj hsh
          go_enter Tryz.func73, Tryz.ntmps73
          go_wp2_with fail
          (with_reducible refine HA.out.mono ?_); rintro e w1 ⟨rfl, hw⟩; subst hw
          go_wp2_with fail
          (with_reducible refine HC.out.mono ?_); rintro e w2 ⟨u, rfl, hru, ho, hr⟩
          obtain ⟨a, c, rfl⟩ := hru.shape
          have HZ := hid (H.out.wrote HI.out ho hr)
          have hun : undef = .tuple #[] := rfl
          rw [← hn0]
          clear hru ho hr hn0
          go_wp2
          go_ret
          exact ⟨rfl, HZ.out⟩
        · have h2 : j ≥ (n : Int) := by omega
          clear hj hsh
          go_enter Tryz.func73, Tryz.ntmps73
          go_wp2_with fail
          (with_reducible refine HA.out.mono ?_); rintro e w1 ⟨rfl, hw⟩; subst hw
          go_wp2_with fail
          (with_reducible refine HC.out.mono ?_); rintro e w2 ⟨u, rfl, hru, ho, hr⟩
          obtain ⟨a, c, rfl⟩ := hru.shape
          have HZ := hid (H.out.wrote HI.out ho hr)
          rw [← hn0]
          clear hru ho hr hn0
          go_wp2
          go_ret
          exact ⟨rfl, HZ.out⟩
    · rw [if_pos he]
      have hne : (er != 0) = true := by rw [bne_iff_ne]; exact he
      clear hsh
      go_enter Tryz.func73, Tryz.ntmps73
      go_wp2_with fail
      (with_reducible refine HA.out.mono ?_); rintro e w1 ⟨rfl, hw⟩; subst hw
      go_wp2_with fail
      (with_reducible refine HC.out.mono ?_); rintro e w2 ⟨u, rfl, hru, ho, hr⟩
      obtain ⟨a, c, rfl⟩ := hru.shape
      have HZ := hid (H.out.wrote HI.out ho hr)
      generalize l.length = n
      clear hru ho hr
      go_wp2
      go_ret
      exact ⟨rfl, HZ.out⟩
end
end Go.Proofs.YtabhkoklcjhlpaaGreatDoor.Pz
/-
  The reference's store: Enter, Forget.
-/
namespace Go.Proofs.YtabhkoklcjhlpaaGreatDoor.Pz
open Go.RowKit
section
variable {B st : Nat} {w : World} {v : Value} {R : List RV}
set_option maxRecDepth 100000 in
set_option maxHeartbeats 4000000 in
theorem enterKeyR_fn (h : RStAt B st w v R) (hlen : ∀ x ∈ R, x.t.length ≤ 65536) (k : Int) (key s : Str) (hkl : key.length ≤ 1000000) (hsl : s.length ≤ 1000000) :
    Calls Tryz.prog 75 #[.pointer (some ⟨st, 0, none⟩), .int .i64 k, .string ⟨key.toArray⟩, .string ⟨s.toArray⟩] w fun e w' => e = .returned (.int .i64 (enterKeyR (shapeR R) k key s).1) ∧ RStep B st w v R w' (enterKeyR (shapeR R) k key s).2 := by
  unfold enterKeyR
  rw [pickA_shapeR]
  have HA := at_fn h k
  cases hp : pickA R k with
  | none =>
    rw [hp] at HA
    have HA := hid HA
    have HS := hid (h.same (Below.refl _ _))
    clear h hp
    unfold atP at HA
    dsimp only [Option.map] at HA ⊢
    go_enter Tryz.func75, Tryz.ntmps75
    go_wp2_with fail
    (with_reducible refine HA.out.mono ?_); rintro e w1 ⟨rfl, hw⟩; subst hw
    go_wp2
    go_ret
    exact ⟨rfl, HS.out⟩
  | some x =>
    rw [hp] at HA
    have HA := hid HA
    obtain ⟨i, rfl, hi⟩ := pickA_some hp
    have hv := h.val x (List.mem_of_getElem? hi)
    have hxl := hlen x (List.mem_of_getElem? hi)
    have HI := hid hi
    have HV := hid hv
    have H := hid h
    unfold atP at HA
    dsimp only [Option.map] at HA ⊢
    rw [Int.toNat_natCast]
    have HC := pairsR5_fn hv (by omega)
    have hsh := pairs_short x.t hxl
    have hll : (pairsE x.t).1.length ≤ 200000 := by
      have := pairsE_len x.t
      omega
    have hdl := pairsE_dict x.t
    generalize pairsE x.t = E at HC hsh hll hdl ⊢
    obtain ⟨l, er⟩ := E
    dsimp only at HC hsh hll hdl ⊢
    have HC := hid HC
    clear h hp hv hi
    by_cases he : er = 0
    · subst he
      rw [if_neg (by simp), enterR_err]
      obtain ⟨l', hl'⟩ : ∃ l', l' = dictSet l key s := ⟨_, rfl⟩
      have hds := dictSet_dict hdl key s
      have hss := dictSet_short (b := 1000000) (fun y hy => by have := hsh y hy; omega) hkl hsl
      rw [← hl'] at hds hss ⊢
      obtain ⟨Ks, Vs, hkv, hnd, rfl⟩ := hdl
      rw [dictSet_flat hkv hnd] at hl'
      have HL' := hid hl'
      obtain ⟨n, hn0⟩ : ∃ n, n = Ks.length := ⟨_, rfl⟩
      have hfl : (flatP (Ks.zip Vs)).length = 2 * n := by rw [hn0]; exact flat_len hkv
      have HN0 := hid hn0
      have HFL := hid hfl
      have HKV := hid hkv
      rw [hfl] at hll
      have hl'b : l'.length ≤ 1000000 := by have := hds.2; rw [hfl] at this; omega
      have HLB := hid (And.intro hl'b hss)
      clear hl' hds hkv hnd hn0 hfl hl'b hss hsh
      have fin : ∀ (w1 w3 : World) (C : Nat) (u : Value) (n3 : Int) (hr : RowS C w3 u l') (ho : Only [x.b] w w3) (hr3 : RVal w3 x.b x.t n3), n3 = faceIf 0 3 x.n →
          Calls Tryz.prog 100 #[.pointer (some ⟨x.b, 0, none⟩), u, .int .i64 3] w3 fun e w' => e = .returned (.int .i64 (enterErr l')) ∧ RStep B st w v R w' (enterR (shapeR R) i (x.t, faceIf 0 3 x.n) l' 3).2 := by
        rintro w1 w3 C u n3 hr ho hr3 rfl
        refine (change_fn hr3 hr HLB.out.1 HLB.out.2 3).mono ?_
        rintro e w4 ⟨rfl, hq⟩
        exact ⟨rfl, H.out.changed HI.out ho hr3 hq⟩
      have FIN := hid fin
      clear fin
      obtain ⟨R1, hR1⟩ : ∃ R1, R1 = (enterR (shapeR R) i (x.t, faceIf 0 3 x.n) l' 3).2 := ⟨_, rfl⟩
      obtain ⟨E1, hE1⟩ : ∃ E1, E1 = enterErr l' := ⟨_, rfl⟩
      rw [← hR1, ← hE1] at FIN ⊢
      clear hR1 hE1
      go_enter Tryz.func75, Tryz.ntmps75
      go_wp2_with fail
      (with_reducible refine HA.out.mono ?_); rintro e w1 ⟨rfl, hw⟩; subst hw
      go_wp2_with fail
      (with_reducible refine HC.out.mono ?_); rintro e w2 ⟨u, rfl, hru, ho, hr⟩
      obtain ⟨a, c, rfl⟩ := hru.shape
      rw [HFL.out] at hru ⊢
      have HO := hid ho
      have HR := hid hr
      have he0 := hid (empty_row w2)
      have hsz2 : w2.heap.size ≤ (w2.alloc (.cells #[] 9)).heap.size := by simp
      have hru2 := hid ((hru.on (belowA w2 (.cells #[] 9))))
      have hl7 : ([] : List Str).length + (flatP (Ks.zip Vs)).length ≤ 10000000 := by rw [HFL.out]; simp; omega
      clear hru ho hr
      go_wp2_with (at_builtin; go_loud (refine app_row rfl (.tmp 27) (.tmp 28) rfl w2.heap.size w1.heap.size _ (.slice a (2 * n) c) [] (flatP (Ks.zip Vs)) rfl he0.out rfl hru2.out hsz2 hl7 ?_))
      intro v5 w5 hr5 hg5 hv5
      have hb5 : Below w2.heap.size w2 w5 := (belowA w2 (.cells #[] 9)).trans ⟨hg5.os, hg5.tape, hg5.output, hg5.size, fun q hq => hg5.block q (by omega) fun e => by
        simp only [Value.ownBlock, Option.some.injEq] at e
        omega⟩
      obtain ⟨a5, c5, e5⟩ := hr5.shape
      rw [HFL.out] at e5
      subst e5
      have HR5 := hid (show RowS w2.heap.size w5 (.slice a5 (2 * n) c5) (flatP (Ks.zip Vs)) from hr5)
      have HB5 := hid hb5
      clear hr5 hg5 hv5 hb5
      go_wp2
      go_loopg [13] (n + 1) (fun k iv wr => ∃ (j : Nat), iv = .int .i64 ((2 * j : Nat) : Int) ∧ j ≤ n ∧ (∀ m, m < j → Ks[m]? ≠ some key) ∧ wr = w5 ∧ k = n + 1 - j)
      case atStart => exact ⟨0, rfl, Nat.zero_le _, fun m h => absurd h (by omega), rfl, rfl⟩
      case round =>
        obtain ⟨j, rfl, hj, hno, hw, rfl⟩ := hrel
        replace hw := hw.symm
        subst hw
        have HNO := hid hno
        clear hno
        by_cases hjn : j < n
        · have hjk : j < Ks.length := by rw [← HN0.out]; exact hjn
          obtain ⟨g, rfl, hx1, hc⟩ := HR5.out.at (i := 2 * j) (by rw [HFL.out]; omega)
          clear hx1
          have hk := flat_key Ks Vs HKV.out j
          rw [List.getElem?_eq_getElem (by rw [HFL.out]; omega), List.getElem?_eq_getElem hjk] at hk
          rw [Option.some.inj hk] at hc
          obtain ⟨y, hy⟩ : ∃ y, y = Ks[j] := ⟨_, rfl⟩
          rw [← hy] at hc
          have HY := hid hy
          have h2 : 2 * j < 2 * n := by omega
          clear hk hy
          by_cases heq : y = key
          · have hix : idx Ks key = some j := idx_first (by rw [List.getElem?_eq_getElem hjk, ← HY.out, heq]) HNO.out
            have HLL := hid (show l' = (flatP (Ks.zip Vs)).set (2 * j + 1) s by
              rw [HL'.out, flat_set Ks Vs HKV.out]
              unfold setK setV
              rw [hix])
            obtain ⟨s1, s2, s3⟩ := HR5.out.stored (2 * j + 1) s
            obtain ⟨g', hg', hx1, hc1⟩ := HR5.out.at (i := 2 * j + 1) (by rw [HFL.out]; omega)
            clear hx1
            simp only [Option.some.injEq, Addr.mk.injEq, and_true] at hg'
            subst hg'
            rw [← HLL.out] at s1
            have hb6 := HB5.out.trans s2
            have hE := hid (FIN.out w5 _ _ _ _ s1 (HO.out.trans (Only.of hb6 _)) (HR.out.on hb6) rfl)
            have hyk : (y == key) = true := beq_iff_eq.2 heq
            have hm1 : 2 * j + 1 < 2 * n := by omega
            clear heq hix s1 s2 hb6
            go_wp2_with fail
            (with_reducible refine hE.out.mono ?_); rintro e w7 ⟨rfl, hq⟩
            have HZ := hid hq
            clear hq
            go_wp2
            go_ret
            exact ⟨rfl, HZ.out⟩
          · have hyk : (y == key) = false := by rw [beq_eq_false_iff_ne]; exact heq
            have HEQ := hid heq
            clear heq
            go_wp2
            go_roundg (n + 1 - (j + 1))
            case measure => omega
            case rel => exact ⟨j + 1, by go_num, by omega, fun m hm => by
              rcases Nat.lt_or_ge m j with h | h
              · exact HNO.out m h
              · have : m = j := by omega
                subst this
                rw [List.getElem?_eq_getElem hjk, ← HY.out]
                simpa using HEQ.out, rfl, rfl⟩
        · have hjn2 : j = n := by omega
          have h2 : ¬ (2 * j < 2 * n) := by omega
          have hix : idx Ks key = none := idx_none.2 fun hm => by
            obtain ⟨m, hm1, hm2⟩ := List.mem_iff_getElem.1 hm
            exact HNO.out m (by rw [hjn2, HN0.out]; exact hm1) (by rw [List.getElem?_eq_getElem hm1, hm2])
          have HLL := hid (show l' = flatP (Ks.zip Vs) ++ [key, s] by
            rw [HL'.out]
            unfold setK setV
            rw [hix]
            exact flat_snoc Ks Vs HKV.out key s)
          have hll2 : (flatP (Ks.zip Vs)).length ≤ 10000000 := by rw [HFL.out]; omega
          have hws := HB5.out.size
          clear hix hjn2
          go_wp2_with (at_builtin; go_loud (refine app_two (w := w5) rfl rfl (.tmp 51) (.tmp 54) rfl w2.heap.size (.slice a5 (2 * n) c5) (flatP (Ks.zip Vs)) key s rfl HR5.out rfl hws hll2 ?_))
          intro v6 w6 hr6 hg6 hv6
          have hb6 : Below w2.heap.size w2 w6 := HB5.out.grown hg6 hws fun q hq => (HR5.out.lt q hq).2
          rw [← HLL.out] at hr6
          obtain ⟨a6, c6, e6⟩ := hr6.shape
          obtain ⟨n6, hn6⟩ : ∃ n, n = l'.length := ⟨_, rfl⟩
          rw [← hn6] at e6
          subst e6
          have hE := hid (FIN.out w6 _ _ _ _ hr6 (HO.out.trans (Only.of hb6 _)) (HR.out.on hb6) rfl)
          clear hr6 hg6 hv6 hb6 hn6
          go_wp2_with fail
          (with_reducible refine hE.out.mono ?_); rintro e w7 ⟨rfl, hq⟩
          have HZ := hid hq
          clear hq
          go_wp2
          go_ret
          exact ⟨rfl, HZ.out⟩
    · rw [if_pos he]
      have hne : (er != 0) = true := by rw [bne_iff_ne]; exact he
      clear hsh hdl
      go_enter Tryz.func75, Tryz.ntmps75
      go_wp2_with fail
      (with_reducible refine HA.out.mono ?_); rintro e w1 ⟨rfl, hw⟩; subst hw
      go_wp2_with fail
      (with_reducible refine HC.out.mono ?_); rintro e w2 ⟨u, rfl, hru, ho, hr⟩
      obtain ⟨a, c, rfl⟩ := hru.shape
      have HZ := hid (H.out.wrote HI.out ho hr)
      generalize l.length = n
      clear hru ho hr
      go_wp2
      go_ret
      exact ⟨rfl, HZ.out⟩
theorem RStep.refl (h : RStAt B st w v R) : RStep B st w v R w (shapeR R) := h.same (Below.refl _ _)
set_option maxRecDepth 100000 in
set_option maxHeartbeats 1000000 in
theorem forgetR_fn (h : RStAt B st w v R) (hn : R.length ≤ 100000) :
    Calls Tryz.prog 76 #[.pointer (some ⟨st, 0, none⟩)] w fun e w' => e = .returned (.tuple #[]) ∧ RStep B st w v R w' (forgetR (shapeR R)) := by
  obtain ⟨a, c, rfl⟩ := h.shape
  obtain ⟨n, hn0⟩ : ∃ n, n = R.length := ⟨_, rfl⟩
  have c0 : w.cell? ⟨st, 0, none⟩ = some (.slice a n c) := by rw [Lib.cell_of_heap h.blk, hn0]; rfl
  rw [← hn0] at h hn ⊢
  have H := hid h
  have HN := hid hn0
  clear h hn0
  go_enter Tryz.func76, Tryz.ntmps76
  go_wp2
  go_loopg [11] n (fun k iv wr => ∃ (i : Nat) (R' : List RV), iv = .int .i64 (i : Nat) ∧ i ≤ n ∧ RStAt B st wr (.slice a n c) R' ∧ R'.map RV.b = R.map RV.b ∧ shapeR R' = (forgetR (shapeR R)).take i ++ (shapeR R).drop i ∧ Only (footR st (.slice a n c) R) w wr ∧ k = n - i)
  case atStart => exact ⟨0, R, rfl, Nat.zero_le _, H.out, rfl, by simp, Only.refl _ _, by simp⟩
  case round =>
    obtain ⟨i, R', rfl, hi, hst, hmb, hsh, ho, rfl⟩ := hrel
    have hRl : R'.length = n := by
      have := congrArg List.length hmb
      simp only [List.length_map] at this
      rw [this, HN.out]
    rcases Nat.lt_or_ge i n with hlt | hge
    · have hlt' : i < R'.length := by omega
      obtain ⟨x, hx⟩ : ∃ x, R'[i]? = some x := ⟨_, List.getElem?_eq_getElem hlt'⟩
      have hxe := (List.getElem?_eq_some_iff.1 hx).2
      obtain ⟨g, c', hs1, hc1⟩ := hst.at hlt'
      rw [hxe] at hc1
      simp only [Value.slice.injEq] at hs1
      obtain ⟨ha, hx1, hx2⟩ := hs1
      clear hx1 hx2
      subst ha
      have hv := hst.val x (List.mem_of_getElem? hx)
      have d0 : wr.cell? ⟨x.b, 1, none⟩ = some (.int .i64 x.n) := by rw [Lib.cell_of_heap hv]; rfl
      have d1 : wr.frozen? ⟨x.b, 1, none⟩ = false := Lib.frozen_of_heap hv 1
      have hz := hv.faced 0
      have hst2 := hst.wroteAt hx hz.2 hz.1
      have hmb2 : (R'.set i ⟨x.b, x.t, 0⟩).map RV.b = R.map RV.b := by
        rw [← hmb, List.map_set]
        exact set_self (by rw [List.getElem?_map, hx]; rfl)
      have hfx : (forgetR (shapeR R))[i]? = some (x.t, 0) ∧ (shapeR R)[i]? = some (x.t, x.n) := by
        have h1 : (shapeR R')[i]? = some (x.t, x.n) := by unfold shapeR; rw [List.getElem?_map, hx]; rfl
        have hfl : ((forgetR (shapeR R)).take i).length = i := by
          unfold forgetR
          rw [List.length_take, List.length_map, shapeR_len, ← HN.out]
          omega
        rw [hsh, List.getElem?_append_right (by omega), hfl, List.getElem?_drop, Nat.sub_self, Nat.add_zero] at h1
        refine ⟨?_, h1⟩
        unfold forgetR
        rw [List.getElem?_map, h1]
        rfl
      have hsh2 : shapeR (R'.set i ⟨x.b, x.t, 0⟩) = (forgetR (shapeR R)).take (i + 1) ++ (shapeR R).drop (i + 1) := by
        have hil := (List.getElem?_eq_some_iff.1 hfx.1).1
        have hil2 := (List.getElem?_eq_some_iff.1 hfx.2).1
        have hfl : ((forgetR (shapeR R)).take i).length = i := by rw [List.length_take]; omega
        rw [shapeR_set, hsh, List.set_append_right _ _ (by omega), hfl, Nat.sub_self, List.drop_eq_getElem_cons hil2, List.set_cons_zero, List.take_succ_eq_append_getElem hil, List.append_assoc, (List.getElem?_eq_some_iff.1 hfx.1).2]
        rfl
      have hxm : x.b ∈ footR st (.slice (some ⟨g, 0, none⟩) n c) R := by
        have : x.b ∈ R.map RV.b := by rw [← hmb]; exact List.mem_map.2 ⟨x, List.mem_of_getElem? hx, rfl⟩
        obtain ⟨y, hy, e⟩ := List.mem_map.1 this
        exact footR_mem.2 (.inr (.inr ⟨y, hy, e⟩))
      have ho2 := hid (ho.trans (hz.2.more (C := footR st (.slice (some ⟨g, 0, none⟩) n c) R) (by
        intro q hq
        rw [List.mem_singleton.1 hq]
        exact hxm)))
      have HST2 := hid hst2
      have HMB2 := hid hmb2
      have HSH2 := hid hsh2
      have hi0 : i = 0 → wr.cell? ⟨g, 0, none⟩ = some (.pointer (some ⟨x.b, 0, none⟩)) := by
        intro h0
        subst h0
        exact hc1
      clear hst hmb hsh ho hz hst2 hmb2 hsh2 hfx hx hxe hv hRl hxm
      go_wp2
      go_roundg (n - (i + 1))
      case measure => omega
      case rel => exact ⟨i + 1, _, by go_num, by omega, HST2.out, HMB2.out, HSH2.out, ho2.out, rfl⟩
    · obtain rfl : i = n := by omega
      have HST := hid hst
      have HO := hid ho
      have HSH := hid hsh
      have HMB := hid hmb
      clear hst ho hsh hmb
      go_wp2
      go_end0
      refine ⟨rfl, _, R', HST.out, ?_, HO.out, fun k hk => .inl ?_⟩
      · rw [HSH.out, List.drop_of_length_le (by rw [shapeR_len, ← HN.out]; exact Nat.le_refl _), List.append_nil, List.take_of_length_le]
        unfold forgetR
        rw [List.length_map, shapeR_len, ← HN.out]
        exact Nat.le_refl _
      · unfold footR at hk ⊢
        rwa [HMB.out] at hk
end
end Go.Proofs.YtabhkoklcjhlpaaGreatDoor.Pz
/-
  Both stores tell the same, plain; both in memory.
-/
namespace Go.Proofs.YtabhkoklcjhlpaaGreatDoor.Pz
open Go.RowKit
def AR (A : ShA) : ShR := A.map fun p => (p.1, p.2.n)
def FitA (A : ShA) : Prop := ∀ p ∈ A, Fit p.2 p.1 ∧ p.2.small ∧ p.1.length ≤ 65536
theorem AR_len (A : ShA) : (AR A).length = A.length := by simp [AR]
theorem AR_set (A : ShA) (i : Nat) (p : Str × Fc) : AR (A.set i p) = (AR A).set i (p.1, p.2.n) := by simp [AR, List.map_set]
theorem AR_app (A : ShA) (p : Str × Fc) : AR (A ++ [p]) = AR A ++ [(p.1, p.2.n)] := by simp [AR]
theorem AR_pick (A : ShA) (k : Int) : pickA (AR A) k = (pickA A k).map fun p => (p.1, p.2.n) := by
  unfold pickA AR
  split
  · rw [List.getElem?_map]
  · rfl
theorem FitA.pick {A : ShA} (h : FitA A) {k : Int} {p : Str × Fc} (hp : pickA A k = some p) : Fit p.2 p.1 ∧ p.2.small ∧ p.1.length ≤ 65536 := by
  obtain ⟨i, _, hi⟩ := pickA_some hp
  exact h p (List.mem_of_getElem? hi)
theorem text_rel (A : ShA) (k : Int) : textA A k = textR (AR A) k := by
  unfold textA textR
  rw [AR_pick]
  cases pickA A k <;> rfl
theorem face_rel (A : ShA) (k : Int) : faceA A k = faceR (AR A) k := by
  unfold faceA faceR
  rw [AR_pick]
  cases pickA A k <;> rfl
theorem copy_rel (A : ShA) (k : Int) : (copyA A k).1 = (copyR (AR A) k).1 ∧ AR (copyA A k).2 = (copyR (AR A) k).2 := by
  unfold copyA copyR
  rw [AR_pick, AR_len]
  cases pickA A k with
  | none => exact ⟨rfl, rfl⟩
  | some p => exact ⟨rfl, AR_app A p⟩
theorem ask_rel {A : ShA} (h : FitA A) (k n : Int) : (askA A k n).1 = (askR (AR A) k n).1 ∧ AR (askA A k n).2 = (askR (AR A) k n).2 := by
  unfold askA askR
  rw [AR_pick]
  cases hp : pickA A k with
  | none => exact ⟨rfl, rfl⟩
  | some p =>
    obtain ⟨h1, h2, h3⟩ := h.pick hp
    obtain ⟨g1, g2, _⟩ := askAll_fit h1 h2 (by omega) n
    exact ⟨g1, by dsimp only [Option.map]; rw [AR_set, g2]⟩
theorem elem_rel {A : ShA} (h : FitA A) (k j : Int) : (elemA A k j).1 = (elemR (AR A) k j).1 ∧ AR (elemA A k j).2 = (elemR (AR A) k j).2 := by
  unfold elemA elemR
  rw [AR_pick]
  cases hp : pickA A k with
  | none => exact ⟨rfl, rfl⟩
  | some p =>
    obtain ⟨h1, h2, h3⟩ := h.pick hp
    obtain ⟨g1, g2, g3, _⟩ := listAns_fit h1 h2 (by omega)
    refine ⟨?_, by dsimp only [Option.map]; rw [AR_set, g3]⟩
    dsimp only [Option.map]
    unfold elemAns
    rw [g1, g2]
theorem append_rel (A : ShA) (k : Int) (s : Str) : (appendA A k s).1 = (appendR (AR A) k s).1 ∧ AR (appendA A k s).2 = (appendR (AR A) k s).2 := by
  unfold appendA appendR
  rw [AR_pick]
  cases pickA A k with
  | none => exact ⟨rfl, rfl⟩
  | some p =>
    dsimp only [Option.map]
    split
    · exact ⟨rfl, AR_set _ _ _⟩
    · exact ⟨rfl, rfl⟩
theorem enter_rel (A : ShA) (k : Int) (p : Str × Fc) (l : List Str) (g : List Str → Fc) (f : Int) (hg : (g l).n = f) : (enterA A k p l g).1 = (enterR (AR A) k (p.1, p.2.n) l f).1 ∧ AR (enterA A k p l g).2 = (enterR (AR A) k (p.1, p.2.n) l f).2 := by
  unfold enterA enterR
  split
  · exact ⟨rfl, by rw [AR_set, hg]⟩
  · exact ⟨rfl, AR_set _ _ _⟩
theorem put_rel {A : ShA} (h : FitA A) (k j : Int) (s : Str) : (putA A k j s).1 = (putR (AR A) k j s).1 ∧ AR (putA A k j s).2 = (putR (AR A) k j s).2 := by
  unfold putA putR
  rw [AR_pick]
  cases hp : pickA A k with
  | none => exact ⟨rfl, rfl⟩
  | some p =>
    obtain ⟨h1, h2, h3⟩ := h.pick hp
    obtain ⟨g1, g2, g3, _⟩ := listAns_fit h1 h2 (by omega)
    dsimp only [Option.map]
    rw [g1, g2, ← g3]
    split
    · exact ⟨rfl, AR_set _ _ _⟩
    · split
      · exact enter_rel A k (p.1, _) _ .list 1 rfl
      · exact ⟨rfl, AR_set _ _ _⟩
theorem enterKey_rel {A : ShA} (h : FitA A) (k : Int) (key s : Str) : (enterKeyA A k key s).1 = (enterKeyR (AR A) k key s).1 ∧ AR (enterKeyA A k key s).2 = (enterKeyR (AR A) k key s).2 := by
  unfold enterKeyA enterKeyR
  rw [AR_pick]
  cases hp : pickA A k with
  | none => exact ⟨rfl, rfl⟩
  | some p =>
    obtain ⟨h1, h2, h3⟩ := h.pick hp
    obtain ⟨g1, g2, g3, _⟩ := pairsAns_fit h1 h2 (by omega)
    dsimp only [Option.map]
    rw [g1, g2, ← g3]
    split
    · exact ⟨rfl, AR_set _ _ _⟩
    · exact enter_rel A k (p.1, _) _ .dict 3 rfl
theorem forget_rel (A : ShA) : AR (forgetA A) = forgetR (AR A) := by simp [AR, forgetA, forgetR, Fc.n]
/-- no block but the stores' own is changed -/
def KeepX (w w' : World) : Prop := ∀ (k : Nat) (cs : Array Value) (T : TypeId) (fz : Nat × Nat), w.heap[k]? = some (.cells cs T fz) → T ∉ [69, 40, 88, 94, 105, 43, 80] → w'.heap[k]? = some (.cells cs T fz)
theorem KeepX.refl (w : World) : KeepX w w := fun _ _ _ _ h _ => h
theorem KeepX.trans {w w1 w2 : World} (h : KeepX w w1) (k : KeepX w1 w2) : KeepX w w2 := fun b cs T fz hb hT => k b cs T fz (h b cs T fz hb hT) hT
theorem KeepX.of {w w' : World} (h : Below w.heap.size w w') : KeepX w w' := fun b _ _ _ hb _ => (h.block b (Array.getElem?_eq_some_iff.1 hb).1).trans hb
section
variable {B st B2 st2 : Nat} {w w' : World} {v v2 : Value} {S : List SV} {R : List RV}
theorem StoreIs.ty (h : StoreIs B st w v S) {k : Nat} (hk : k ∈ foot st v S) : ∃ cs T, w.heap[k]? = some (.cells cs T (0, 0)) ∧ T ∈ [69, 40, 88, 94] := by
  rcases foot_mem.1 hk with rfl | hk | ⟨x, hx, rfl⟩ | ⟨x, hx, rfl⟩
  · exact ⟨_, _, h.sta.blk, by simp⟩
  · obtain ⟨_, cur, h2⟩ := ownsRow_lt h.sta.row k hk
    exact ⟨_, _, h2, by simp⟩
  · obtain ⟨_, _, hv⟩ := h.val x hx
    exact ⟨_, _, hv.val, by simp⟩
  · obtain ⟨_, _, hv⟩ := h.val x hx
    exact ⟨_, _, hv.shr, by simp⟩
theorem RStAt.ty (h : RStAt B2 st2 w v2 R) {k : Nat} (hk : k ∈ footR st2 v2 R) : ∃ cs T, w.heap[k]? = some (.cells cs T (0, 0)) ∧ T ∈ [105, 43, 80] := by
  rcases footR_mem.1 hk with rfl | hk | ⟨x, hx, rfl⟩
  · exact ⟨_, _, h.blk, by simp⟩
  · obtain ⟨_, cur, h2⟩ := ownsRow_lt h.row k hk
    exact ⟨_, _, h2, by simp⟩
  · exact ⟨_, _, h.val x hx, by simp⟩
theorem apart (h : StoreIs B st w v S) (h2 : RStAt B2 st2 w v2 R) {k : Nat} (hk : k ∈ foot st v S) (hk2 : k ∈ footR st2 v2 R) : False := by
  obtain ⟨cs, T, h3, h4⟩ := h.ty hk
  obtain ⟨cs2, T2, h5, h6⟩ := h2.ty hk2
  rw [h3] at h5
  simp only [Option.some.injEq, Obj.cells.injEq] at h5
  rw [← h5.2.1] at h6
  simp only [List.mem_cons, List.not_mem_nil, or_false] at h4 h6
  rcases h4 with rfl | rfl | rfl | rfl <;> rcases h6 with h | h | h <;> exact absurd h (by decide)
theorem Only.keepX {A : List Nat} (ho : Only A w w') (hA : ∀ k ∈ A, ∃ cs T, w.heap[k]? = some (.cells cs T (0, 0)) ∧ T ∈ [69, 40, 88, 94, 105, 43, 80]) : KeepX w w' := by
  intro k cs T fz hk hT
  refine ho.cells hk fun hm => ?_
  obtain ⟨cs2, T2, h2, h3⟩ := hA k hm
  rw [hk] at h2
  simp only [Option.some.injEq, Obj.cells.injEq] at h2
  rw [← h2.2.1] at h3
  exact hT h3
/-- blocks that are held: they are as Q tells -/
abbrev Held := List (Nat × Option Obj)
def HeldAt (Q : Held) (w : World) (F : List Nat) : Prop := ∀ q ∈ Q, q.1 < w.heap.size ∧ w.heap[q.1]? = q.2 ∧ q.1 ∉ F
theorem HeldAt.only {Q : Held} {F F' : List Nat} (h : HeldAt Q w F) (ho : Only F w w') (hF : ∀ k ∈ F', k ∈ F ∨ w.heap.size ≤ k) : HeldAt Q w' F' := by
  intro q hq
  obtain ⟨h1, h2, h3⟩ := h q hq
  exact ⟨Nat.lt_of_lt_of_le h1 ho.size, (ho.block _ h1 h3).trans h2, fun hm => (hF _ hm).elim h3 fun h4 => by omega⟩
theorem HeldAt.on {Q : Held} {F : List Nat} (h : HeldAt Q w F) (hb : Below w.heap.size w w') : HeldAt Q w' F := h.only (Only.of hb _) fun _ hk => .inl hk
theorem HeldAt.other {Q : Held} {F A : List Nat} (h : HeldAt Q w F) (ho : Only A w w') (hA : ∀ q ∈ Q, q.1 ∉ A) : HeldAt Q w' F := fun q hq => by
  obtain ⟨h1, h2, h3⟩ := h q hq
  exact ⟨Nat.lt_of_lt_of_le h1 ho.size, (ho.block _ h1 (hA q hq)).trans h2, h3⟩
theorem HeldAt.not {Q : Held} {F : List Nat} (h : HeldAt Q w F) : ∀ q ∈ Q, q.1 ∉ F := fun q hq => (h q hq).2.2
/-- both stores in memory: what the one tells, what the other; what is held lies apart -/
def J2 (B st st2 : Nat) (Q : Held) (w : World) (A : ShA) (A2 : ShR) : Prop := ∃ v S v2 R, StoreIs B st w v S ∧ RStAt B st2 w v2 R ∧ shape S = A ∧ shapeR R = A2 ∧ HeldAt Q w (foot st v S) ∧ HeldAt Q w (footR st2 v2 R)
variable {Q : Held}
theorem J2.fit {A : ShA} {A2 : ShR} (h : J2 B st st2 Q w A A2) : FitA A := by
  obtain ⟨v, S, v2, R, h1, h2, rfl, rfl, _⟩ := h
  intro p hp
  obtain ⟨x, hx, rfl⟩ := List.mem_map.1 hp
  exact h1.fit x hx
theorem J2.on {A : ShA} {A2 : ShR} (h : J2 B st st2 Q w A A2) (hb : Below w.heap.size w w') : J2 B st st2 Q w' A A2 := by
  obtain ⟨v, S, v2, R, h1, h2, h3, h4, h5, h6⟩ := h
  exact ⟨v, S, v2, R, h1.on hb, h2.on hb, h3, h4, h5.on hb, h6.on hb⟩
theorem J2.low {A : ShA} {A2 : ShR} (h : J2 B st st2 Q w A A2) : B ≤ w.heap.size := by
  obtain ⟨v, S, v2, R, h1, _⟩ := h
  exact h1.low.2.1
theorem j2_prog {A' : ShA} {A2 : ShR} (h1 : StoreIs B st w v S) (h2 : RStAt B st2 w v2 R) (h4 : shapeR R = A2) (h5 : HeldAt Q w (foot st v S)) (h6 : HeldAt Q w (footR st2 v2 R)) (hs : StepA B st w v S w' A') : J2 B st st2 Q w' A' A2 ∧ Below B w w' ∧ KeepX w w' := by
  obtain ⟨S', ⟨v', a1, a2, a3⟩, a4⟩ := hs
  refine ⟨⟨v', S', v2, R, a1, h2.other a2 fun k hk hk2 => apart h1 h2 hk2 hk, a4, h4, h5.only a2 a3, h6.other a2 h5.not⟩, a2.low h1.low.2.1 fun k hk => (h1.lt hk).2, a2.keepX fun k hk => ?_⟩
  obtain ⟨cs, T, g1, g2⟩ := h1.ty hk
  exact ⟨cs, T, g1, by simp only [List.mem_cons, List.not_mem_nil, or_false] at g2 ⊢; rcases g2 with rfl | rfl | rfl | rfl <;> simp⟩
theorem j2_ref {A : ShA} {A2' : ShR} (h1 : StoreIs B st w v S) (h2 : RStAt B st2 w v2 R) (h3 : shape S = A) (h5 : HeldAt Q w (foot st v S)) (h6 : HeldAt Q w (footR st2 v2 R)) (hs : RStep B st2 w v2 R w' A2') : J2 B st st2 Q w' A A2' ∧ Below B w w' ∧ KeepX w w' := by
  obtain ⟨v', R', a1, a2, a3, a4⟩ := hs
  refine ⟨⟨v, S, v', R', h1.other a3 (fun k hk hk2 => apart h1 h2 hk hk2) (fun k hk cur => h2.noStr hk cur), a1, h3, a2, h5.other a3 h6.not, h6.only a3 a4⟩, a3.low h1.low.2.1 fun k hk => (h2.lt hk).2, a3.keepX fun k hk => ?_⟩
  obtain ⟨cs, T, g1, g2⟩ := h2.ty hk
  exact ⟨cs, T, g1, by simp only [List.mem_cons, List.not_mem_nil, or_false] at g2 ⊢; rcases g2 with rfl | rfl | rfl <;> simp⟩
/-- an act of the program's store, both in memory -/
theorem J2.prog {A A' : ShA} {A2 : ShR} {f : FuncId} {args : Array Value} {r : Value} (h : J2 B st st2 Q w A A2) (hc : ∀ v S, StoreIs B st w v S → shape S = A → Calls Tryz.prog f args w fun e w' => e = .returned r ∧ StepA B st w v S w' A') :
    Calls Tryz.prog f args w fun e w' => e = .returned r ∧ J2 B st st2 Q w' A' A2 ∧ Below B w w' ∧ KeepX w w' := by
  obtain ⟨v, S, v2, R, h1, h2, h3, h4, h5, h6⟩ := h
  refine (hc v S h1 h3).mono ?_
  rintro e w' ⟨he, hs⟩
  exact ⟨he, j2_prog h1 h2 h4 h5 h6 hs⟩
theorem J2.ref {A : ShA} {A2 A2' : ShR} {f : FuncId} {args : Array Value} {r : Value} (h : J2 B st st2 Q w A A2) (hl : ∀ p ∈ A2, p.1.length ≤ 65536) (hc : ∀ v R, RStAt B st2 w v R → (∀ x ∈ R, x.t.length ≤ 65536) → shapeR R = A2 → Calls Tryz.prog f args w fun e w' => e = .returned r ∧ RStep B st2 w v R w' A2') :
    Calls Tryz.prog f args w fun e w' => e = .returned r ∧ J2 B st st2 Q w' A A2' ∧ Below B w w' ∧ KeepX w w' := by
  obtain ⟨v, S, v2, R, h1, h2, h3, h4, h5, h6⟩ := h
  refine (hc v2 R h2 (fun x hx => hl (x.t, x.n) (by rw [← h4]; exact List.mem_map.2 ⟨x, hx, rfl⟩)) h4).mono ?_
  rintro e w' ⟨he, hs⟩
  exact ⟨he, j2_ref h1 h2 h3 h5 h6 hs⟩
theorem FitA.short {A : ShA} (h : FitA A) : ∀ p ∈ AR A, p.1.length ≤ 65536 := by
  intro p hp
  obtain ⟨q, hq, rfl⟩ := List.mem_map.1 hp
  exact (h q hq).2.2
theorem shape_lenS {A : ShA} (h : shape S = A) : S.length = A.length := by rw [← h, shape_len]
theorem shapeR_lenR {A : ShR} (h : shapeR R = A) : R.length = A.length := by rw [← h, shapeR_len]
end
end Go.Proofs.YtabhkoklcjhlpaaGreatDoor.Pz
