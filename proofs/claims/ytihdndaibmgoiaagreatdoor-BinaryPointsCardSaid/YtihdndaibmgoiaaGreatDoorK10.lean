/-
  Part K10 of the proofs of this seat: contracts of functions and plain facts, merged from 2 texts.
-/
import Derived.Test.YtihdndaibmgoiaaGreatDoorRows
import Derived.Deep.DeepHandedRow
import Derived.ProofKit
import Derived.OpenShut
import Derived.ChangeMaps5
import Derived.Carry
import Derived.SliceStrings
import Derived.Test.YtihdndaibmgoiaaGreatDoorK0
import Derived.Test.YtihdndaibmgoiaaGreatDoorK1
import Derived.Test.YtihdndaibmgoiaaGreatDoorK2
import Derived.Test.YtihdndaibmgoiaaGreatDoorK3
import Derived.Test.YtihdndaibmgoiaaGreatDoorK4
import Derived.Test.YtihdndaibmgoiaaGreatDoorK5
import Derived.Test.YtihdndaibmgoiaaGreatDoorK6
import Derived.Test.YtihdndaibmgoiaaGreatDoorK7
import Derived.Test.YtihdndaibmgoiaaGreatDoorK8
import Derived.Test.YtihdndaibmgoiaaGreatDoorK9
/-
  Rows of ints; same of laws 10 (BkC's text, turned).
-/
namespace Go.Proofs.YtihdndaibmgoiaaGreatDoor.Pz
open Go.RowKit
/-- a row of ints -/
def IntsAt (w : World) (v : Value) (l : List Int) : Prop := ∃ a cap, v = .slice a l.length cap ∧ l.length ≤ cap ∧ ∀ i (h : i < l.length), ∃ p : Addr, a = some p ∧ p.block < w.heap.size ∧ w.cell? (p.add i) = some (.int .i64 l[i])
theorem IntsAt.below {w w' : World} {v : Value} {l : List Int} (h : IntsAt w v l) (hb : Below w.heap.size w w') : IntsAt w' v l := by
  obtain ⟨a, cap, rfl, hc, h⟩ := h
  refine ⟨a, cap, rfl, hc, fun i hi => ?_⟩
  obtain ⟨p, h1, h2, h3⟩ := h i hi
  have := hb.size
  exact ⟨p, h1, by omega, by rw [hb.cell (p := p.add i) (by rw [add_block]; exact h2)]; exact h3⟩
theorem intsAt_off {w : World} {v : Value} {l : List Int} (h : IntsAt w v l) : ∃ a c, v = .slice a l.length c ∧ ∀ i (hi : i < l.length), ∃ b o, a = some ⟨b, o, none⟩ ∧ w.cell? ⟨b, o + i, none⟩ = some (.int .i64 l[i]) := by
  obtain ⟨a, c, rfl, _, hcell⟩ := h
  refine ⟨a, c, rfl, fun i hi => ?_⟩
  obtain ⟨p, rfl, _, hc⟩ := hcell i hi
  obtain ⟨p0, e0, _, hc0⟩ := hcell 0 (by omega)
  simp only [Option.some.injEq] at e0
  subst e0
  obtain ⟨b, o, spot⟩ := p
  have hspot : spot = none := by simpa [Addr.add] using World.cell?_spot hc0
  subst hspot
  rw [add_none] at hc
  exact ⟨b, o, rfl, hc⟩
theorem take_succ_eqI {l m : List Int} {i : Nat} (h : l.take i = m.take i) (h1 : i < l.length) (h2 : i < m.length) (h3 : l[i] = m[i]) : l.take (i + 1) = m.take (i + 1) := by
  rw [List.take_add_one, List.take_add_one, h, List.getElem?_eq_getElem h1, List.getElem?_eq_getElem h2, h3]
set_option maxRecDepth 100000 in
theorem sameI_fn {w : World} {u v : Value} {l m : List Int} (hu : IntsAt w u l) (hv : IntsAt w v m) (_hl : l.length ≤ 10000000) (hm : m.length ≤ 10000000) :
    Calls Tryz.prog 37 #[u, v] w fun e w' => e = .returned (.bool (decide (l = m))) ∧ Below w.heap.size w w' := by
  have HU := hid hu
  have HV := hid hv
  obtain ⟨a1, c1, rfl, _⟩ := intsAt_off hu
  obtain ⟨a2, c2, rfl, _⟩ := intsAt_off hv
  obtain ⟨R, hR⟩ : ∃ R, R = decide (l = m) := ⟨_, rfl⟩
  rw [← hR]
  have HR := hid hR
  clear hu hv hR
  by_cases hlm : l.length = m.length
  · obtain ⟨n, hn⟩ : ∃ n, n = m.length := ⟨_, rfl⟩
    have HN := hid hn
    have HLN := hid (hlm.trans hn.symm)
    rw [hlm, ← hn]
    clear hn hlm _hl
    have hm : n ≤ 10000000 := by rw [HN.out]; exact hm
    go_enter Tryz.func37, Tryz.ntmps37
    go_wp2
    go_loopg [13] n (fun k iv wr => ∃ i : Nat, iv = .int .i64 (i : Nat) ∧ Below w.heap.size w wr ∧ i + k = n ∧ l.take i = m.take i)
    case atStart => exact ⟨0, rfl, Below.refl _ _, by simp, by simp⟩
    case round =>
      obtain ⟨i, rfl, hbl, hk, ht⟩ := hrel
      have HT := hid ht
      clear ht
      by_cases hi : i < n
      · have hil : i < l.length := by rw [HLN.out]; exact hi
        have him : i < m.length := by rw [← HN.out]; exact hi
        obtain ⟨_, _, e1, x1⟩ := intsAt_off (HU.out.below hbl)
        obtain ⟨_, _, e2, x2⟩ := intsAt_off (HV.out.below hbl)
        obtain ⟨b1, o1, f1, y1⟩ := x1 i hil
        obtain ⟨b2, o2, f2, y2⟩ := x2 i him
        simp only [Value.slice.injEq] at e1 e2
        rw [← e1.1] at f1
        rw [← e2.1] at f2
        subst f1
        subst f2
        obtain ⟨s, hs⟩ : ∃ s, s = l[i] := ⟨_, rfl⟩
        obtain ⟨t, ht⟩ : ∃ t, t = m[i] := ⟨_, rfl⟩
        rw [← hs] at y1
        rw [← ht] at y2
        have HS := hid hs
        have HTT := hid ht
        have hi1 : (0 : Int) ≤ (i : Int) ∧ (i : Int) < (n : Int) := by omega
        have hi2 : (i : Int) < (n : Int) := by omega
        clear hs ht x1 x2 e1 e2
        by_cases hst : s = t
        · subst hst
          go_wp2
          go_quiet (fail)
          have hbl0 := hid (show Below w.heap.size w (wr.drewN nq) from hbl.trans ⟨rfl, rfl, rfl, Nat.le_refl _, fun _ _ => rfl⟩)
          clear hbl y1 y2
          go_wp2
          go_roundg (n - (i + 1))
          case measure => omega
          case rel => exact ⟨i + 1, by go_num, hbl0.out, by omega, take_succ_eqI HT.out (by rw [HLN.out]; exact hi) (by rw [← HN.out]; exact hi) (HS.out.symm.trans HTT.out)⟩
        · have hst2 : (s == t) = false := by rw [beq_eq_false_iff_ne]; exact hst
          have hRf : R = false := by
            rw [HR.out, decide_eq_false_iff_not]
            intro h
            apply hst
            rw [HS.out, HTT.out]
            subst h
            rfl
          subst hRf
          go_wp2
          go_quiet (fail)
          have hbl0 := hid (show Below w.heap.size w (wr.drewN nq) from hbl.trans ⟨rfl, rfl, rfl, Nat.le_refl _, fun _ _ => rfl⟩)
          clear hbl y1 y2
          go_wp2
          go_ret
          exact ⟨rfl, hbl0.out⟩
      · have hie : i = n := by omega
        have hRt : R = true := by
          have h := HT.out
          rw [HR.out, decide_eq_true_iff]
          rwa [List.take_of_length_le (by rw [HLN.out]; omega), List.take_of_length_le (by rw [← HN.out]; omega)] at h
        subst hRt
        have hi2 : ¬ (i : Int) < (n : Int) := by omega
        go_wp2
        go_ret
        exact ⟨rfl, hbl⟩
  · have hR2 : R = false := by
      rw [HR.out, decide_eq_false_iff_not]
      exact fun h => hlm (by rw [h])
    subst hR2
    have hne : ¬ ((l.length : Int) = (m.length : Int)) := by omega
    go_enter Tryz.func37, Tryz.ntmps37
    go_wp2
    go_ret
    exact ⟨rfl, Below.refl _ _⟩
end Go.Proofs.YtihdndaibmgoiaaGreatDoor.Pz
/-
  Arguments opened: rows of texts, rows of ints (package binary's words).
-/
namespace Go.Proofs.YtihdndaibmgoiaaGreatDoor.Opn
open Go.ChangeMaps Go.ChangeShapes Go.WideShapes Go.ChangeAt Go.RowKit
section
variable {P : Program} {H : Type} {enc : TypeId × Value → H} {W : World}
theorem getD_data (ss : List ByteArray) (n i : Nat) (h : i < ((ss.take n).map (fun x : ByteArray => x.data.toList)).length) : (.string (ss.getD i ByteArray.empty) : Value) = .string ⟨(((ss.take n).map (fun x : ByteArray => x.data.toList))[i]).toArray⟩ := by
  simp only [List.length_map, List.length_take] at h
  have h1 : i < ss.length := by omega
  rw [List.getElem_map, List.getElem_take, List.getD_eq_getElem?_getD, List.getElem?_eq_getElem h1]
  cases ss[i]
  simp
theorem bulk_strs (ss : List ByteArray) : Rows.uptoBulkAll (strs (H := H) ss) = Pz.sumT (ss.map (·.data.toList)) + ss.length := by
  induction ss with
  | nil => rfl
  | cons a ss ih =>
    show a.data.toList.length + 1 + Rows.uptoBulkAll (strs (H := H) ss) = a.data.toList.length + Pz.sumT (ss.map (·.data.toList)) + (ss.length + 1)
    rw [ih]
    omega
theorem blk_lt {a : Addr} {n : Nat} {v : Value} (hlt : ∀ x ∈ MemPlace.row a n, x.block < W.heap.size) (h0 : 0 < n) (hc : W.cell? (a.add 0) = some v) : a.block < W.heap.size := by
  obtain ⟨b, off, spot⟩ := a
  have hspot : spot = none := by simpa [Addr.add] using World.cell?_spot hc
  subst hspot
  exact hlt (.cell b off) (MemPlace.mem_row.2 ⟨0, h0, by simp⟩)
theorem opened_strs {t e : TypeId} (ht : P.underlying t = some (.slice e)) (he : P.underlying e = some .string) (hce : P.cellsOf e = 1) {r : Reach} {b0 : Nat} {v : Value} {d : DataW H} {p : List MemPlace} (hv : Value.okWide P W r b0 t v) (h : DataW.Trod enc P W 0 (fun _ => true) true t v d p) (hlt : ∀ x ∈ p, x.block < W.heap.size) :
    ∃ l, Pz.StrsAt W v l ∧ Pz.sumT l + l.length ≤ Rows.uptoBulk d ∧ l.length ≤ maxLen := by
  obtain ⟨a1, n1, c1, rfl⟩ := okWide_slice ht hv
  obtain ⟨fuel, hf⟩ := h
  rcases open_strings ht he hce hf with ⟨hcs, hx⟩ | ⟨a, len', cap', ss, hcs, _, hl, hm, hz, hx, hcell, hws⟩
  · simp [Value.cells] at hcs
    obtain ⟨rfl, rfl, rfl⟩ := hcs
    exact ⟨[], ⟨none, 0, rfl, Nat.le_refl _, fun i hi => absurd hi (Nat.not_lt_zero _)⟩, (by simp [Pz.sumT]), (by simp)⟩
  · simp [Value.cells] at hcs
    obtain ⟨rfl, rfl, rfl⟩ := hcs
    simp only [Prod.mk.injEq] at hx
    obtain ⟨rfl, rfl⟩ := hx
    simp only [if_true] at hz
    have hln : ((ss.take n1).map (·.data.toList)).length = n1 := by rw [List.length_map, List.length_take]; omega
    refine ⟨(ss.take n1).map (·.data.toList), ⟨some a, c1, by rw [hln], by rw [hln]; exact hl, fun i hi => ⟨a, rfl, ?_, ?_⟩⟩, ?_, by rw [hln]; omega⟩
    · rw [hln] at hi
      exact blk_lt hlt (by omega) (hcell 0 (by omega))
    · rw [hcell i (by rw [hln] at hi; omega), getD_data ss n1 i hi]
    · simp only [Rows.uptoBulk]
      rw [bulk_strs, bulk_strs, List.length_map]
      omega
theorem opened_ints {t e : TypeId} (ht : P.underlying t = some (.slice e)) (he : P.underlying e = some (.int .i64)) (hce : P.cellsOf e = 1) {r : Reach} {b0 : Nat} {v : Value} {d : DataW H} {p : List MemPlace} (hv : Value.okWide P W r b0 t v) (h : DataW.Trod enc P W 0 (fun _ => true) true t v d p) (hlt : ∀ x ∈ p, x.block < W.heap.size) :
    ∃ l, Pz.IntsAt W v l ∧ l.length ≤ maxLen := by
  obtain ⟨a1, n1, c1, rfl⟩ := okWide_slice ht hv
  obtain ⟨fuel, hf⟩ := h
  rcases open_ints ht he hce hf with ⟨hcs, hx⟩ | ⟨a, len', cap', zs, hcs, _, hl, hm, hz, hx, hcell, hws⟩
  · simp [Value.cells] at hcs
    obtain ⟨rfl, rfl, rfl⟩ := hcs
    exact ⟨[], ⟨none, 0, rfl, Nat.le_refl _, fun i hi => absurd hi (Nat.not_lt_zero _)⟩, (by simp)⟩
  · simp [Value.cells] at hcs
    obtain ⟨rfl, rfl, rfl⟩ := hcs
    simp only [Prod.mk.injEq] at hx
    obtain ⟨rfl, rfl⟩ := hx
    simp only [if_true] at hz
    have hln : (zs.take n1).length = n1 := by rw [List.length_take]; omega
    refine ⟨zs.take n1, ⟨some a, c1, by rw [hln], by rw [hln]; exact hl, fun i hi => ⟨a, rfl, ?_, ?_⟩⟩, by rw [hln]; omega⟩
    · rw [hln] at hi
      exact blk_lt hlt (by omega) (hcell 0 (by omega))
    · rw [hln] at hi
      rw [hcell i (by omega), List.getElem_take, List.getD_eq_getElem?_getD, List.getElem?_eq_getElem (by omega)]
      rfl
end
end Go.Proofs.YtihdndaibmgoiaaGreatDoor.Opn
