/-
  Part K12 of the proofs of this seat: contracts of functions and plain facts, merged from 8 texts.
-/
import Derived.Deep.Cut
import Derived.Test.YtkgpmkkodpjdfaaGreatDoorK0
import Derived.Test.YtkgpmkkodpjdfaaGreatDoorK1
import Derived.Test.YtkgpmkkodpjdfaaGreatDoorK2
import Derived.Test.YtkgpmkkodpjdfaaGreatDoorK3
import Derived.Test.YtkgpmkkodpjdfaaGreatDoorK4
import Derived.Test.YtkgpmkkodpjdfaaGreatDoorK5
import Derived.Test.YtkgpmkkodpjdfaaGreatDoorK6
import Derived.Test.YtkgpmkkodpjdfaaGreatDoorK7
import Derived.Test.YtkgpmkkodpjdfaaGreatDoorK8
import Derived.Test.YtkgpmkkodpjdfaaGreatDoorK9
import Derived.Test.YtkgpmkkodpjdfaaGreatDoorK10
import Derived.Test.YtkgpmkkodpjdfaaGreatDoorK11
/-
  The reference 06: a variable: the walk.
-/
namespace Go.Proofs.YtkgpmkkodpjdfaaGreatDoor.Pz
open Go.RowKit
set_option maxRecDepth 100000 in
set_option maxHeartbeats 4000000 in
theorem variableR_A {g : Told} {d : Nat} {l : Str} (ih : ∀ l', l'.length < l.length → PartsRC .paren g (d + 1) l') (hb : ¬ ∃ t, l = 123 :: t) (hc : (name false l).1 ≠ [] → ¬ ∃ t, (name false l).2 = 40 :: t) : VarRC g d l := by
  intro w rb s i hs hd h ha
  have hrb0 := h.lt
  have hil := ha.lt
  have hlen := ha.len
  simp only [List.length_cons] at hlen
  have hsz : (⟨s.toArray⟩ : ByteArray).size = s.length := Lib.size_mk _
  obtain ⟨N, hN⟩ : ∃ N, N = w.heap.size := ⟨_, rfl⟩
  obtain ⟨R, hR⟩ : ∃ R, R = varOf g d l := ⟨_, rfl⟩
  rw [← hR]
  have HR := hid hR
  have HN := hid hN
  have HA := hid ha
  obtain ⟨W, hW⟩ : ∃ W, W = (w.alloc (.cells #[.int .i64 0, .string ⟨#[]⟩, .bool false, .slice none 0 0] 33)).alloc (.cells #[.int .i64 0, .int .i64 0, .bool false] 63) := ⟨_, rfl⟩
  have hrW : RrAt W rb s d g := by rw [hW]; exact h.below (below2 _ _ _)
  have hvW : VB rb N s w W #[.int .i64 0, .string ⟨#[]⟩, .bool false, .slice none 0 0] := by
    have hn := new2 w (.cells #[.int .i64 0, .string ⟨#[]⟩, .bool false, .slice none 0 0] 33) (.cells #[.int .i64 0, .int .i64 0, .bool false] 63)
    rw [hW, hN]
    exact ⟨hn.1, hn.2, but_of_below (below2 w _ _) rb⟩
  have hWs : W.heap.size = N + 1 + 1 := by rw [hW, hN]; simp
  have hrbN : rb < N := by omega
  obtain ⟨c0, c1, c2, c3, c4⟩ := h.cells
  have hrb1 : rb < w.heap.size + 1 := by omega
  have HW := hid hW
  have HRW := hid hrW
  have HVW := hid hvW
  have IH := hid ih
  have HWS := hid hWs
  clear hR h ha hW hrW hvW ih hWs hN
  have hfn := fun u => hid (fine_fn u)
  have h123 := hb
  · have hhd : ¬ (l.head? == some 123) = true := by
      intro e
      cases l with
      | nil => cases e
      | cons c t =>
        simp at e
        exact h123 ⟨t, by rw [e]⟩
    have hnm := namedR_fn HRW.out HA.out.tail hs
    obtain ⟨x, r, hxr⟩ : ∃ x r, name false l = (x, r) := ⟨_, _, rfl⟩
    have htx := name_text l false
    rw [hxr] at hnm htx hc
    dsimp only at hc
    dsimp only at hnm htx
    have hll : l.length = x.length + r.length := by rw [htx]; simp
    obtain ⟨en, hen⟩ : ∃ en, en = i + 1 + x.length := ⟨_, rfl⟩
    have hnm2 : Calls Tryz.prog 74 #[.pointer (some ⟨rb, 0, none⟩), .int .i64 ((i : Int) + 1)] W fun e w' => e = .returned (.int .i64 (en : Nat)) ∧ w' = W := by
      rw [show s.length - r.length = en by omega] at hnm
      exact hnm
    have HNM := hid hnm2
    have HXR := hid hxr
    have HTX := hid htx
    have HEN := hid hen
    have hen1 : i + 1 ≤ en := by omega
    have hen2 : en ≤ s.length := by omega
    clear hnm hnm2 hxr htx hen
    have pre : (decide ((i : Int) + 1 < (s.length : Int)) = false) ∨ (i + 1 < s.length ∧ ∃ c, (∀ h', (⟨s.toArray⟩ : ByteArray)[i + 1]'h' = c) ∧ ((c.toNat : Int) == 123) = false) := by
      cases l with
      | nil => left; simp at hlen; rw [decide_eq_false]; omega
      | cons c t =>
        right
        simp only [List.length_cons] at hlen
        refine ⟨by omega, c, HA.out.tail.byte, byte_ne 123 (fun e => h123 ⟨t, by rw [e]⟩) rfl⟩
    by_cases hx : x = []
    · subst hx
      have hR2 : R = .ok none l := by rw [HR.out]; exact varOf_none hhd HXR.out
      have HR2 := hid hR2
      have heq : ((en : Int) == (i : Int) + 1) = true := by rw [beq_iff_eq]; have := HEN.out; simp at this; omega
      clear hR2 hhd h123
      rcases pre with hp | ⟨hp, c, hx1, hc1⟩
      · go_enter Tryz.func38, Tryz.ntmps38
        go_wp2_with fail
        rw [← HW.out, ← HN.out]
        (with_reducible refine HNM.out.mono ?_); rintro e W1 ⟨rfl, hw1⟩; subst W1
        clear c0 c1 c2 c3 c4
        obtain ⟨c0, c1, c2, c3, c4⟩ := HRW.out.cells
        obtain ⟨⟨a0, a1, a2, a3⟩, ⟨b0, b1, b2⟩, hfz⟩ := HVW.out.facts
        have f0 := (hfz 0).1
        have f1 := (hfz 1).1
        have f2 := (hfz 2).1
        have f3 := (hfz 3).1
        have g0 := (hfz 0).2
        have g1 := (hfz 1).2
        have g2 := (hfz 2).2
        clear hfz
        go_wp2
        obtain ⟨p1, p2, p3, p4⟩ := HVW.out.put hrbN (.int .i64 0) (.string ⟨#[]⟩) (.bool false) (.slice none 0 0) (.int .i64 8) (.int .i64 0) (.bool false)
        refine bodyPost_ret (results_ctc rfl _ rfl p1 Tryz.underlying33 rfl Tryz.infoT rfl p2 Tryz.underlying63 rfl Tryz.infoF) rfl ?_
        rw [HR2.out]
        refine ⟨rfl, (p4 rb (by omega) (by omega)).trans HRW.out, ?_⟩
        rw [← HN.out]
        exact p3
      · go_enter Tryz.func38, Tryz.ntmps38
        go_wp2_with fail
        rw [← HW.out, ← HN.out]
        (with_reducible refine HNM.out.mono ?_); rintro e W1 ⟨rfl, hw1⟩; subst W1
        clear c0 c1 c2 c3 c4
        obtain ⟨c0, c1, c2, c3, c4⟩ := HRW.out.cells
        obtain ⟨⟨a0, a1, a2, a3⟩, ⟨b0, b1, b2⟩, hfz⟩ := HVW.out.facts
        have f0 := (hfz 0).1
        have f1 := (hfz 1).1
        have f2 := (hfz 2).1
        have f3 := (hfz 3).1
        have g0 := (hfz 0).2
        have g1 := (hfz 1).2
        have g2 := (hfz 2).2
        clear hfz
        go_wp2
        obtain ⟨p1, p2, p3, p4⟩ := HVW.out.put hrbN (.int .i64 0) (.string ⟨#[]⟩) (.bool false) (.slice none 0 0) (.int .i64 8) (.int .i64 0) (.bool false)
        refine bodyPost_ret (results_ctc rfl _ rfl p1 Tryz.underlying33 rfl Tryz.infoT rfl p2 Tryz.underlying63 rfl Tryz.infoF) rfl ?_
        rw [HR2.out]
        refine ⟨rfl, (p4 rb (by omega) (by omega)).trans HRW.out, ?_⟩
        rw [← HN.out]
        exact p3
    · have hne : ((en : Int) == (i : Int) + 1) = false := by
        rw [beq_eq_false_iff_ne]
        have h1 := HEN.out
        have h2 : 0 < x.length := List.length_pos_iff.2 hx
        omega
      have hext : (⟨s.toArray⟩ : ByteArray).extract (i + 1) en = ⟨x.toArray⟩ := by
        have h1 := HA.out.tail
        rw [HTX.out] at h1
        rw [HEN.out]
        exact h1.text
      have hatr : At s r en := by
        have h1 := HA.out.tail
        rw [HTX.out] at h1
        rw [HEN.out]
        exact h1.app
      have HATR := hid hatr
      clear hatr
      by_cases h40 : ∃ t, r = 40 :: t
      · exact absurd h40 (hc hx)
      · have hR2 : R = .ok (some (.mk 2 x false [])) r := by rw [HR.out]; exact varOf_plain hhd HXR.out hx (fun t e => h40 ⟨t, e⟩)
        have HR2 := hid hR2
        have post : (decide (s.length ≤ en) = true) ∨ (en < s.length ∧ decide (s.length ≤ en) = false ∧ ∃ c, (∀ h', (⟨s.toArray⟩ : ByteArray)[en]'h' = c) ∧ ((c.toNat : Int) != 40) = true) := by
          cases r with
          | nil => left; have := HATR.out.len; simp at this; rw [decide_eq_true_eq]; omega
          | cons c t =>
            right
            have := HATR.out.lt
            exact ⟨this, by rw [decide_eq_false]; omega, c, HATR.out.byte, byte_ne' 40 (fun e => h40 ⟨t, by rw [e]⟩) rfl⟩
        clear hR2 hhd h123 h40
        rcases pre with hp | ⟨hp, c, hx1, hc1⟩
        · rcases post with hq | ⟨hq, hq2, e, hx2, he1⟩
          · go_enter Tryz.func38, Tryz.ntmps38
            go_wp2_with fail
            rw [← HW.out, ← HN.out]
            (with_reducible refine HNM.out.mono ?_); rintro e W1 ⟨rfl, hw1⟩; subst W1
            clear c0 c1 c2 c3 c4
            obtain ⟨c0, c1, c2, c3, c4⟩ := HRW.out.cells
            go_upto_region 10 with fail
            refine at_world fun W2 hW2 => ?_
            have hr2 : RrAt W2 rb s d g := by rw [hW2]; exact HRW.out.below (below1 _ _)
            have hv2 : VB rb N s w W2 #[.int .i64 0, .string ⟨#[]⟩, .bool false, .slice none 0 0] := by rw [hW2]; exact HVW.out.below (below1 _ _)
            obtain ⟨q, hq0⟩ : ∃ q, q = W.heap.size := ⟨_, rfl⟩
            have ht2 : W2.heap[q]? = some (.cells #[.int .i64 2, .string ⟨x.toArray⟩, .bool false, .slice none 0 0] 33 (0, 0)) := by rw [hW2, hq0]; exact heap_alloc_new _ _
            have hqN : q = N + 1 + 1 := by rw [hq0]; exact HWS.out
            rw [← hq0]
            have hk2 : VK rb N q s d g w x false (.slice none 0 0) W2 := ⟨hr2, hv2, ht2⟩
            have HK2 := hid hk2
            have HQN := hid hqN
            clear hW2 hr2 hv2 ht2 hqN hq0 c0 c1 c2 c3 c4 hk2
            obtain ⟨c0, c1, c2, c3, c4⟩ := HK2.out.rd.cells
            obtain ⟨q0, q1, q2, q3⟩ := HK2.out.qc
            obtain ⟨⟨a0, a1, a2, a3⟩, ⟨b0, b1, b2⟩, hfz⟩ := HK2.out.vb.facts
            have f0 := (hfz 0).1
            have f1 := (hfz 1).1
            have f2 := (hfz 2).1
            have f3 := (hfz 3).1
            have g0 := (hfz 0).2
            have g1 := (hfz 1).2
            have g2 := (hfz 2).2
            clear hfz
            go_wp2
            refine U_begin (late := fun i => decide (4 ≤ i)) (S := fun u => u.cell? ⟨q, 0, none⟩ = some (.int .i64 2) ∧ u.cell? ⟨q, 1, none⟩ = some (.string ⟨x.toArray⟩) ∧ u.cell? ⟨q, 2, none⟩ = some (.bool false) ∧ u.cell? ⟨q, 3, none⟩ = some (.slice none 0 0)) (by kernel_rfl) ?_
            have S0 := hid HK2.out.drew.qc
            refine U_take2 8 (i := 0) (v := .agg #[.int .i64 2, .string ⟨x.toArray⟩, .bool false, .slice none 0 0]) rfl (by kernel_rfl) (by kernel_rfl) (by kernel_rfl) (by kernel_rfl) (by kernel_rfl) (fun _ _ _ h => h) (.inl ⟨rfl, fun u hu => (by obtain ⟨h1, h2, h3, h4⟩ := hu; go_simp)⟩) S0.out ?_
            refine U_take2 8 (i := 1) (v := .int .i64 (en : Nat)) rfl (by kernel_rfl) (by kernel_rfl) (by kernel_rfl) (by kernel_rfl) (by kernel_rfl) (fun _ _ _ h => h) (.inl ⟨rfl, fun u hu => (by go_simp)⟩) S0.out ?_
            refine U_step (j := 2) (by kernel_rfl) rfl (fun K hK => ?_)
            go_simp
            (with_reducible refine (hfn _).out.mono ?_); rintro e W3 ⟨rfl, hW3⟩
            have HK3 := hid (show VK rb N q s d g w x false (.slice none 0 0) W3 by rw [hW3]; exact HK2.out.drew.below (below1 _ _))
            clear hW3
            have hq3 := HK3.out.qc
            refine hK.out _ _ (.inr hq3) ?_
            clear hK K hq3 c0 c1 c2 c3 c4 q0 q1 q2 q3 a0 a1 a2 a3 b0 b1 b2 f0 f1 f2 f3 g0 g1 g2
            obtain ⟨⟨a0, a1, a2, a3⟩, ⟨b0, b1, b2⟩, hfz⟩ := HK3.out.vb.facts
            have f0 := (hfz 0).1
            have f1 := (hfz 1).1
            have f2 := (hfz 2).1
            have f3 := (hfz 3).1
            have g0 := (hfz 0).2
            have g1 := (hfz 1).2
            have g2 := (hfz 2).2
            clear hfz
            refine U_step (j := 3) (by kernel_rfl) rfl (fun K hK => ?_)
            go_simp
            have hqq : q ≠ N := by have := HQN.out; omega
            refine hK.out _ _ (.inr ?_) ?_
            · have he : ((((W3.setCell ⟨N, 0, none⟩ (.int .i64 2)).setCell ⟨N, 1, none⟩ (.string ⟨x.toArray⟩)).setCell ⟨N, 2, none⟩ (.bool false)).setCell ⟨N, 3, none⟩ (.slice none 0 0)).heap[q]? = W3.heap[q]? := by
                rw [Below.heap_setCell _ _ _ _ (fun e => hqq e), Below.heap_setCell _ _ _ _ (fun e => hqq e), Below.heap_setCell _ _ _ _ (fun e => hqq e), Below.heap_setCell _ _ _ _ (fun e => hqq e)]
              have he2 := he.trans HK3.out.tk
              exact ⟨by rw [Lib.cell_of_heap he2]; rfl, by rw [Lib.cell_of_heap he2]; rfl, by rw [Lib.cell_of_heap he2]; rfl, by rw [Lib.cell_of_heap he2]; rfl⟩
            clear hK K
            refine U_then (by kernel_rfl) ?_
            refine U_step (j := 4) (by kernel_rfl) rfl (fun K hK => ?_)
            go_simp
            refine hK.out _ _ (.inr trivial) ?_
            clear hK K
            refine U_step (j := 5) (by kernel_rfl) rfl (fun K hK => ?_)
            go_simp
            refine hK.out _ _ (.inr trivial) ?_
            clear hK K
            refine U_done (by kernel_rfl) ?_ _
            go_wp2
            obtain ⟨p1, p2, p3, p4⟩ := HK3.out.vb.put hrbN (.int .i64 2) (.string ⟨x.toArray⟩) (.bool false) (.slice none 0 0) (.int .i64 0) (.int .i64 0) (.bool false)
            refine bodyPost_ret (results_ctc rfl _ rfl p1 Tryz.underlying33 rfl Tryz.infoT rfl p2 Tryz.underlying63 rfl Tryz.infoF) rfl ?_
            rw [HR2.out]
            refine ⟨_, ret_vii (by have := HATR.out.len; omega), (p4 rb (by omega) (by omega)).trans HK3.out.rd, RowIs.nil, ?_⟩
            rw [← HN.out]
            exact p3
          · go_enter Tryz.func38, Tryz.ntmps38
            go_wp2_with fail
            rw [← HW.out, ← HN.out]
            (with_reducible refine HNM.out.mono ?_); rintro e W1 ⟨rfl, hw1⟩; subst W1
            clear c0 c1 c2 c3 c4
            obtain ⟨c0, c1, c2, c3, c4⟩ := HRW.out.cells
            go_upto_region 10 with fail
            refine at_world fun W2 hW2 => ?_
            have hr2 : RrAt W2 rb s d g := by rw [hW2]; exact HRW.out.below (below1 _ _)
            have hv2 : VB rb N s w W2 #[.int .i64 0, .string ⟨#[]⟩, .bool false, .slice none 0 0] := by rw [hW2]; exact HVW.out.below (below1 _ _)
            obtain ⟨q, hq0⟩ : ∃ q, q = W.heap.size := ⟨_, rfl⟩
            have ht2 : W2.heap[q]? = some (.cells #[.int .i64 2, .string ⟨x.toArray⟩, .bool false, .slice none 0 0] 33 (0, 0)) := by rw [hW2, hq0]; exact heap_alloc_new _ _
            have hqN : q = N + 1 + 1 := by rw [hq0]; exact HWS.out
            rw [← hq0]
            have hk2 : VK rb N q s d g w x false (.slice none 0 0) W2 := ⟨hr2, hv2, ht2⟩
            have HK2 := hid hk2
            have HQN := hid hqN
            clear hW2 hr2 hv2 ht2 hqN hq0 c0 c1 c2 c3 c4 hk2
            obtain ⟨c0, c1, c2, c3, c4⟩ := HK2.out.rd.cells
            obtain ⟨q0, q1, q2, q3⟩ := HK2.out.qc
            obtain ⟨⟨a0, a1, a2, a3⟩, ⟨b0, b1, b2⟩, hfz⟩ := HK2.out.vb.facts
            have f0 := (hfz 0).1
            have f1 := (hfz 1).1
            have f2 := (hfz 2).1
            have f3 := (hfz 3).1
            have g0 := (hfz 0).2
            have g1 := (hfz 1).2
            have g2 := (hfz 2).2
            clear hfz
            go_wp2
            refine U_begin (late := fun i => decide (4 ≤ i)) (S := fun u => u.cell? ⟨q, 0, none⟩ = some (.int .i64 2) ∧ u.cell? ⟨q, 1, none⟩ = some (.string ⟨x.toArray⟩) ∧ u.cell? ⟨q, 2, none⟩ = some (.bool false) ∧ u.cell? ⟨q, 3, none⟩ = some (.slice none 0 0)) (by kernel_rfl) ?_
            have S0 := hid HK2.out.drew.qc
            refine U_take2 8 (i := 0) (v := .agg #[.int .i64 2, .string ⟨x.toArray⟩, .bool false, .slice none 0 0]) rfl (by kernel_rfl) (by kernel_rfl) (by kernel_rfl) (by kernel_rfl) (by kernel_rfl) (fun _ _ _ h => h) (.inl ⟨rfl, fun u hu => (by obtain ⟨h1, h2, h3, h4⟩ := hu; go_simp)⟩) S0.out ?_
            refine U_take2 8 (i := 1) (v := .int .i64 (en : Nat)) rfl (by kernel_rfl) (by kernel_rfl) (by kernel_rfl) (by kernel_rfl) (by kernel_rfl) (fun _ _ _ h => h) (.inl ⟨rfl, fun u hu => (by go_simp)⟩) S0.out ?_
            refine U_step (j := 2) (by kernel_rfl) rfl (fun K hK => ?_)
            go_simp
            (with_reducible refine (hfn _).out.mono ?_); rintro e W3 ⟨rfl, hW3⟩
            have HK3 := hid (show VK rb N q s d g w x false (.slice none 0 0) W3 by rw [hW3]; exact HK2.out.drew.below (below1 _ _))
            clear hW3
            have hq3 := HK3.out.qc
            refine hK.out _ _ (.inr hq3) ?_
            clear hK K hq3 c0 c1 c2 c3 c4 q0 q1 q2 q3 a0 a1 a2 a3 b0 b1 b2 f0 f1 f2 f3 g0 g1 g2
            obtain ⟨⟨a0, a1, a2, a3⟩, ⟨b0, b1, b2⟩, hfz⟩ := HK3.out.vb.facts
            have f0 := (hfz 0).1
            have f1 := (hfz 1).1
            have f2 := (hfz 2).1
            have f3 := (hfz 3).1
            have g0 := (hfz 0).2
            have g1 := (hfz 1).2
            have g2 := (hfz 2).2
            clear hfz
            refine U_step (j := 3) (by kernel_rfl) rfl (fun K hK => ?_)
            go_simp
            have hqq : q ≠ N := by have := HQN.out; omega
            refine hK.out _ _ (.inr ?_) ?_
            · have he : ((((W3.setCell ⟨N, 0, none⟩ (.int .i64 2)).setCell ⟨N, 1, none⟩ (.string ⟨x.toArray⟩)).setCell ⟨N, 2, none⟩ (.bool false)).setCell ⟨N, 3, none⟩ (.slice none 0 0)).heap[q]? = W3.heap[q]? := by
                rw [Below.heap_setCell _ _ _ _ (fun e => hqq e), Below.heap_setCell _ _ _ _ (fun e => hqq e), Below.heap_setCell _ _ _ _ (fun e => hqq e), Below.heap_setCell _ _ _ _ (fun e => hqq e)]
              have he2 := he.trans HK3.out.tk
              exact ⟨by rw [Lib.cell_of_heap he2]; rfl, by rw [Lib.cell_of_heap he2]; rfl, by rw [Lib.cell_of_heap he2]; rfl, by rw [Lib.cell_of_heap he2]; rfl⟩
            clear hK K
            refine U_then (by kernel_rfl) ?_
            refine U_step (j := 4) (by kernel_rfl) rfl (fun K hK => ?_)
            go_simp
            refine hK.out _ _ (.inr trivial) ?_
            clear hK K
            refine U_step (j := 5) (by kernel_rfl) rfl (fun K hK => ?_)
            go_simp
            refine hK.out _ _ (.inr trivial) ?_
            clear hK K
            refine U_done (by kernel_rfl) ?_ _
            go_wp2
            obtain ⟨p1, p2, p3, p4⟩ := HK3.out.vb.put hrbN (.int .i64 2) (.string ⟨x.toArray⟩) (.bool false) (.slice none 0 0) (.int .i64 0) (.int .i64 0) (.bool false)
            refine bodyPost_ret (results_ctc rfl _ rfl p1 Tryz.underlying33 rfl Tryz.infoT rfl p2 Tryz.underlying63 rfl Tryz.infoF) rfl ?_
            rw [HR2.out]
            refine ⟨_, ret_vii (by have := HATR.out.len; omega), (p4 rb (by omega) (by omega)).trans HK3.out.rd, RowIs.nil, ?_⟩
            rw [← HN.out]
            exact p3
        · rcases post with hq | ⟨hq, hq2, e, hx2, he1⟩
          · go_enter Tryz.func38, Tryz.ntmps38
            go_wp2_with fail
            rw [← HW.out, ← HN.out]
            (with_reducible refine HNM.out.mono ?_); rintro e W1 ⟨rfl, hw1⟩; subst W1
            clear c0 c1 c2 c3 c4
            obtain ⟨c0, c1, c2, c3, c4⟩ := HRW.out.cells
            go_upto_region 10 with fail
            refine at_world fun W2 hW2 => ?_
            have hr2 : RrAt W2 rb s d g := by rw [hW2]; exact HRW.out.below (below1 _ _)
            have hv2 : VB rb N s w W2 #[.int .i64 0, .string ⟨#[]⟩, .bool false, .slice none 0 0] := by rw [hW2]; exact HVW.out.below (below1 _ _)
            obtain ⟨q, hq0⟩ : ∃ q, q = W.heap.size := ⟨_, rfl⟩
            have ht2 : W2.heap[q]? = some (.cells #[.int .i64 2, .string ⟨x.toArray⟩, .bool false, .slice none 0 0] 33 (0, 0)) := by rw [hW2, hq0]; exact heap_alloc_new _ _
            have hqN : q = N + 1 + 1 := by rw [hq0]; exact HWS.out
            rw [← hq0]
            have hk2 : VK rb N q s d g w x false (.slice none 0 0) W2 := ⟨hr2, hv2, ht2⟩
            have HK2 := hid hk2
            have HQN := hid hqN
            clear hW2 hr2 hv2 ht2 hqN hq0 c0 c1 c2 c3 c4 hk2
            obtain ⟨c0, c1, c2, c3, c4⟩ := HK2.out.rd.cells
            obtain ⟨q0, q1, q2, q3⟩ := HK2.out.qc
            obtain ⟨⟨a0, a1, a2, a3⟩, ⟨b0, b1, b2⟩, hfz⟩ := HK2.out.vb.facts
            have f0 := (hfz 0).1
            have f1 := (hfz 1).1
            have f2 := (hfz 2).1
            have f3 := (hfz 3).1
            have g0 := (hfz 0).2
            have g1 := (hfz 1).2
            have g2 := (hfz 2).2
            clear hfz
            go_wp2
            refine U_begin (late := fun i => decide (4 ≤ i)) (S := fun u => u.cell? ⟨q, 0, none⟩ = some (.int .i64 2) ∧ u.cell? ⟨q, 1, none⟩ = some (.string ⟨x.toArray⟩) ∧ u.cell? ⟨q, 2, none⟩ = some (.bool false) ∧ u.cell? ⟨q, 3, none⟩ = some (.slice none 0 0)) (by kernel_rfl) ?_
            have S0 := hid HK2.out.drew.qc
            refine U_take2 8 (i := 0) (v := .agg #[.int .i64 2, .string ⟨x.toArray⟩, .bool false, .slice none 0 0]) rfl (by kernel_rfl) (by kernel_rfl) (by kernel_rfl) (by kernel_rfl) (by kernel_rfl) (fun _ _ _ h => h) (.inl ⟨rfl, fun u hu => (by obtain ⟨h1, h2, h3, h4⟩ := hu; go_simp)⟩) S0.out ?_
            refine U_take2 8 (i := 1) (v := .int .i64 (en : Nat)) rfl (by kernel_rfl) (by kernel_rfl) (by kernel_rfl) (by kernel_rfl) (by kernel_rfl) (fun _ _ _ h => h) (.inl ⟨rfl, fun u hu => (by go_simp)⟩) S0.out ?_
            refine U_step (j := 2) (by kernel_rfl) rfl (fun K hK => ?_)
            go_simp
            (with_reducible refine (hfn _).out.mono ?_); rintro e W3 ⟨rfl, hW3⟩
            have HK3 := hid (show VK rb N q s d g w x false (.slice none 0 0) W3 by rw [hW3]; exact HK2.out.drew.below (below1 _ _))
            clear hW3
            have hq3 := HK3.out.qc
            refine hK.out _ _ (.inr hq3) ?_
            clear hK K hq3 c0 c1 c2 c3 c4 q0 q1 q2 q3 a0 a1 a2 a3 b0 b1 b2 f0 f1 f2 f3 g0 g1 g2
            obtain ⟨⟨a0, a1, a2, a3⟩, ⟨b0, b1, b2⟩, hfz⟩ := HK3.out.vb.facts
            have f0 := (hfz 0).1
            have f1 := (hfz 1).1
            have f2 := (hfz 2).1
            have f3 := (hfz 3).1
            have g0 := (hfz 0).2
            have g1 := (hfz 1).2
            have g2 := (hfz 2).2
            clear hfz
            refine U_step (j := 3) (by kernel_rfl) rfl (fun K hK => ?_)
            go_simp
            have hqq : q ≠ N := by have := HQN.out; omega
            refine hK.out _ _ (.inr ?_) ?_
            · have he : ((((W3.setCell ⟨N, 0, none⟩ (.int .i64 2)).setCell ⟨N, 1, none⟩ (.string ⟨x.toArray⟩)).setCell ⟨N, 2, none⟩ (.bool false)).setCell ⟨N, 3, none⟩ (.slice none 0 0)).heap[q]? = W3.heap[q]? := by
                rw [Below.heap_setCell _ _ _ _ (fun e => hqq e), Below.heap_setCell _ _ _ _ (fun e => hqq e), Below.heap_setCell _ _ _ _ (fun e => hqq e), Below.heap_setCell _ _ _ _ (fun e => hqq e)]
              have he2 := he.trans HK3.out.tk
              exact ⟨by rw [Lib.cell_of_heap he2]; rfl, by rw [Lib.cell_of_heap he2]; rfl, by rw [Lib.cell_of_heap he2]; rfl, by rw [Lib.cell_of_heap he2]; rfl⟩
            clear hK K
            refine U_then (by kernel_rfl) ?_
            refine U_step (j := 4) (by kernel_rfl) rfl (fun K hK => ?_)
            go_simp
            refine hK.out _ _ (.inr trivial) ?_
            clear hK K
            refine U_step (j := 5) (by kernel_rfl) rfl (fun K hK => ?_)
            go_simp
            refine hK.out _ _ (.inr trivial) ?_
            clear hK K
            refine U_done (by kernel_rfl) ?_ _
            go_wp2
            obtain ⟨p1, p2, p3, p4⟩ := HK3.out.vb.put hrbN (.int .i64 2) (.string ⟨x.toArray⟩) (.bool false) (.slice none 0 0) (.int .i64 0) (.int .i64 0) (.bool false)
            refine bodyPost_ret (results_ctc rfl _ rfl p1 Tryz.underlying33 rfl Tryz.infoT rfl p2 Tryz.underlying63 rfl Tryz.infoF) rfl ?_
            rw [HR2.out]
            refine ⟨_, ret_vii (by have := HATR.out.len; omega), (p4 rb (by omega) (by omega)).trans HK3.out.rd, RowIs.nil, ?_⟩
            rw [← HN.out]
            exact p3
          · go_enter Tryz.func38, Tryz.ntmps38
            go_wp2_with fail
            rw [← HW.out, ← HN.out]
            (with_reducible refine HNM.out.mono ?_); rintro e W1 ⟨rfl, hw1⟩; subst W1
            clear c0 c1 c2 c3 c4
            obtain ⟨c0, c1, c2, c3, c4⟩ := HRW.out.cells
            go_upto_region 10 with fail
            refine at_world fun W2 hW2 => ?_
            have hr2 : RrAt W2 rb s d g := by rw [hW2]; exact HRW.out.below (below1 _ _)
            have hv2 : VB rb N s w W2 #[.int .i64 0, .string ⟨#[]⟩, .bool false, .slice none 0 0] := by rw [hW2]; exact HVW.out.below (below1 _ _)
            obtain ⟨q, hq0⟩ : ∃ q, q = W.heap.size := ⟨_, rfl⟩
            have ht2 : W2.heap[q]? = some (.cells #[.int .i64 2, .string ⟨x.toArray⟩, .bool false, .slice none 0 0] 33 (0, 0)) := by rw [hW2, hq0]; exact heap_alloc_new _ _
            have hqN : q = N + 1 + 1 := by rw [hq0]; exact HWS.out
            rw [← hq0]
            have hk2 : VK rb N q s d g w x false (.slice none 0 0) W2 := ⟨hr2, hv2, ht2⟩
            have HK2 := hid hk2
            have HQN := hid hqN
            clear hW2 hr2 hv2 ht2 hqN hq0 c0 c1 c2 c3 c4 hk2
            obtain ⟨c0, c1, c2, c3, c4⟩ := HK2.out.rd.cells
            obtain ⟨q0, q1, q2, q3⟩ := HK2.out.qc
            obtain ⟨⟨a0, a1, a2, a3⟩, ⟨b0, b1, b2⟩, hfz⟩ := HK2.out.vb.facts
            have f0 := (hfz 0).1
            have f1 := (hfz 1).1
            have f2 := (hfz 2).1
            have f3 := (hfz 3).1
            have g0 := (hfz 0).2
            have g1 := (hfz 1).2
            have g2 := (hfz 2).2
            clear hfz
            go_wp2
            refine U_begin (late := fun i => decide (4 ≤ i)) (S := fun u => u.cell? ⟨q, 0, none⟩ = some (.int .i64 2) ∧ u.cell? ⟨q, 1, none⟩ = some (.string ⟨x.toArray⟩) ∧ u.cell? ⟨q, 2, none⟩ = some (.bool false) ∧ u.cell? ⟨q, 3, none⟩ = some (.slice none 0 0)) (by kernel_rfl) ?_
            have S0 := hid HK2.out.drew.qc
            refine U_take2 8 (i := 0) (v := .agg #[.int .i64 2, .string ⟨x.toArray⟩, .bool false, .slice none 0 0]) rfl (by kernel_rfl) (by kernel_rfl) (by kernel_rfl) (by kernel_rfl) (by kernel_rfl) (fun _ _ _ h => h) (.inl ⟨rfl, fun u hu => (by obtain ⟨h1, h2, h3, h4⟩ := hu; go_simp)⟩) S0.out ?_
            refine U_take2 8 (i := 1) (v := .int .i64 (en : Nat)) rfl (by kernel_rfl) (by kernel_rfl) (by kernel_rfl) (by kernel_rfl) (by kernel_rfl) (fun _ _ _ h => h) (.inl ⟨rfl, fun u hu => (by go_simp)⟩) S0.out ?_
            refine U_step (j := 2) (by kernel_rfl) rfl (fun K hK => ?_)
            go_simp
            (with_reducible refine (hfn _).out.mono ?_); rintro e W3 ⟨rfl, hW3⟩
            have HK3 := hid (show VK rb N q s d g w x false (.slice none 0 0) W3 by rw [hW3]; exact HK2.out.drew.below (below1 _ _))
            clear hW3
            have hq3 := HK3.out.qc
            refine hK.out _ _ (.inr hq3) ?_
            clear hK K hq3 c0 c1 c2 c3 c4 q0 q1 q2 q3 a0 a1 a2 a3 b0 b1 b2 f0 f1 f2 f3 g0 g1 g2
            obtain ⟨⟨a0, a1, a2, a3⟩, ⟨b0, b1, b2⟩, hfz⟩ := HK3.out.vb.facts
            have f0 := (hfz 0).1
            have f1 := (hfz 1).1
            have f2 := (hfz 2).1
            have f3 := (hfz 3).1
            have g0 := (hfz 0).2
            have g1 := (hfz 1).2
            have g2 := (hfz 2).2
            clear hfz
            refine U_step (j := 3) (by kernel_rfl) rfl (fun K hK => ?_)
            go_simp
            have hqq : q ≠ N := by have := HQN.out; omega
            refine hK.out _ _ (.inr ?_) ?_
            · have he : ((((W3.setCell ⟨N, 0, none⟩ (.int .i64 2)).setCell ⟨N, 1, none⟩ (.string ⟨x.toArray⟩)).setCell ⟨N, 2, none⟩ (.bool false)).setCell ⟨N, 3, none⟩ (.slice none 0 0)).heap[q]? = W3.heap[q]? := by
                rw [Below.heap_setCell _ _ _ _ (fun e => hqq e), Below.heap_setCell _ _ _ _ (fun e => hqq e), Below.heap_setCell _ _ _ _ (fun e => hqq e), Below.heap_setCell _ _ _ _ (fun e => hqq e)]
              have he2 := he.trans HK3.out.tk
              exact ⟨by rw [Lib.cell_of_heap he2]; rfl, by rw [Lib.cell_of_heap he2]; rfl, by rw [Lib.cell_of_heap he2]; rfl, by rw [Lib.cell_of_heap he2]; rfl⟩
            clear hK K
            refine U_then (by kernel_rfl) ?_
            refine U_step (j := 4) (by kernel_rfl) rfl (fun K hK => ?_)
            go_simp
            refine hK.out _ _ (.inr trivial) ?_
            clear hK K
            refine U_step (j := 5) (by kernel_rfl) rfl (fun K hK => ?_)
            go_simp
            refine hK.out _ _ (.inr trivial) ?_
            clear hK K
            refine U_done (by kernel_rfl) ?_ _
            go_wp2
            obtain ⟨p1, p2, p3, p4⟩ := HK3.out.vb.put hrbN (.int .i64 2) (.string ⟨x.toArray⟩) (.bool false) (.slice none 0 0) (.int .i64 0) (.int .i64 0) (.bool false)
            refine bodyPost_ret (results_ctc rfl _ rfl p1 Tryz.underlying33 rfl Tryz.infoT rfl p2 Tryz.underlying63 rfl Tryz.infoF) rfl ?_
            rw [HR2.out]
            refine ⟨_, ret_vii (by have := HATR.out.len; omega), (p4 rb (by omega) (by omega)).trans HK3.out.rd, RowIs.nil, ?_⟩
            rw [← HN.out]
            exact p3
end Go.Proofs.YtkgpmkkodpjdfaaGreatDoor.Pz
/-
  The reference 06: a variable: the walk.
-/
namespace Go.Proofs.YtkgpmkkodpjdfaaGreatDoor.Pz
open Go.RowKit
set_option maxRecDepth 100000 in
set_option maxHeartbeats 1000000 in
theorem variableR_B {g : Told} {d : Nat} {l : Str} (ih : ∀ l', l'.length < l.length → PartsRC .paren g (d + 1) l') (hb : ¬ ∃ t, l = 123 :: t) (hxn : (name false l).1 ≠ []) (hc : ∃ t, (name false l).2 = 40 :: t) (hd100 : d = 100) : VarRC g d l := by
  intro w rb s i hs hd h ha
  have hrb0 := h.lt
  have hil := ha.lt
  have hlen := ha.len
  simp only [List.length_cons] at hlen
  have hsz : (⟨s.toArray⟩ : ByteArray).size = s.length := Lib.size_mk _
  obtain ⟨N, hN⟩ : ∃ N, N = w.heap.size := ⟨_, rfl⟩
  obtain ⟨R, hR⟩ : ∃ R, R = varOf g d l := ⟨_, rfl⟩
  rw [← hR]
  have HR := hid hR
  have HN := hid hN
  have HA := hid ha
  obtain ⟨W, hW⟩ : ∃ W, W = (w.alloc (.cells #[.int .i64 0, .string ⟨#[]⟩, .bool false, .slice none 0 0] 33)).alloc (.cells #[.int .i64 0, .int .i64 0, .bool false] 63) := ⟨_, rfl⟩
  have hrW : RrAt W rb s d g := by rw [hW]; exact h.below (below2 _ _ _)
  have hvW : VB rb N s w W #[.int .i64 0, .string ⟨#[]⟩, .bool false, .slice none 0 0] := by
    have hn := new2 w (.cells #[.int .i64 0, .string ⟨#[]⟩, .bool false, .slice none 0 0] 33) (.cells #[.int .i64 0, .int .i64 0, .bool false] 63)
    rw [hW, hN]
    exact ⟨hn.1, hn.2, but_of_below (below2 w _ _) rb⟩
  have hWs : W.heap.size = N + 1 + 1 := by rw [hW, hN]; simp
  have hrbN : rb < N := by omega
  obtain ⟨c0, c1, c2, c3, c4⟩ := h.cells
  have hrb1 : rb < w.heap.size + 1 := by omega
  have HW := hid hW
  have HRW := hid hrW
  have HVW := hid hvW
  have IH := hid ih
  have HWS := hid hWs
  clear hR h ha hW hrW hvW ih hWs hN
  have hfn := fun u => hid (fine_fn u)
  have h123 := hb
  · have hhd : ¬ (l.head? == some 123) = true := by
      intro e
      cases l with
      | nil => cases e
      | cons c t =>
        simp at e
        exact h123 ⟨t, by rw [e]⟩
    have hnm := namedR_fn HRW.out HA.out.tail hs
    obtain ⟨x, r, hxr⟩ : ∃ x r, name false l = (x, r) := ⟨_, _, rfl⟩
    have htx := name_text l false
    rw [hxr] at hnm htx hc
    rw [hxr] at hxn
    dsimp only at hxn
    dsimp only at hc
    dsimp only at hnm htx
    have hll : l.length = x.length + r.length := by rw [htx]; simp
    obtain ⟨en, hen⟩ : ∃ en, en = i + 1 + x.length := ⟨_, rfl⟩
    have hnm2 : Calls Tryz.prog 74 #[.pointer (some ⟨rb, 0, none⟩), .int .i64 ((i : Int) + 1)] W fun e w' => e = .returned (.int .i64 (en : Nat)) ∧ w' = W := by
      rw [show s.length - r.length = en by omega] at hnm
      exact hnm
    have HNM := hid hnm2
    have HXR := hid hxr
    have HTX := hid htx
    have HEN := hid hen
    have hen1 : i + 1 ≤ en := by omega
    have hen2 : en ≤ s.length := by omega
    clear hnm hnm2 hxr htx hen
    have pre : (decide ((i : Int) + 1 < (s.length : Int)) = false) ∨ (i + 1 < s.length ∧ ∃ c, (∀ h', (⟨s.toArray⟩ : ByteArray)[i + 1]'h' = c) ∧ ((c.toNat : Int) == 123) = false) := by
      cases l with
      | nil => left; simp at hlen; rw [decide_eq_false]; omega
      | cons c t =>
        right
        simp only [List.length_cons] at hlen
        refine ⟨by omega, c, HA.out.tail.byte, byte_ne 123 (fun e => h123 ⟨t, by rw [e]⟩) rfl⟩
    by_cases hx : x = []
    · exact absurd hx hxn
    · have hne : ((en : Int) == (i : Int) + 1) = false := by
        rw [beq_eq_false_iff_ne]
        have h1 := HEN.out
        have h2 : 0 < x.length := List.length_pos_iff.2 hx
        omega
      have hext : (⟨s.toArray⟩ : ByteArray).extract (i + 1) en = ⟨x.toArray⟩ := by
        have h1 := HA.out.tail
        rw [HTX.out] at h1
        rw [HEN.out]
        exact h1.text
      have hatr : At s r en := by
        have h1 := HA.out.tail
        rw [HTX.out] at h1
        rw [HEN.out]
        exact h1.app
      have HATR := hid hatr
      clear hatr
      by_cases h40 : ∃ t, r = 40 :: t
      · obtain ⟨t', htr⟩ := h40
        have HXR2 := hid (show name false l = (x, 40 :: t') by rw [← htr]; exact HXR.out)
        have HAT2 := hid (show At s (40 :: t') en by rw [← htr]; exact HATR.out)
        have hq := HAT2.out.lt
        have hq2 : decide (s.length ≤ en) = false := by rw [decide_eq_false]; omega
        have hx2 := HAT2.out.byte
        have hhd' : l.head? ≠ some 123 := by simpa using hhd
        · have hR2 : R = .halt .deep := by rw [HR.out, varOf_index hhd' HXR2.out hx, if_pos (by rw [hd100]; rfl)]
          have hdd : (d : Int) + 1 > 100 := by omega
          have HR2 := hid hR2
          clear hR2 hhd h123 hhd' hd100
          rcases pre with hp | ⟨hp, c, hx1, hc1⟩
          · go_enter Tryz.func38, Tryz.ntmps38
            go_wp2_with fail
            rw [← HW.out, ← HN.out]
            (with_reducible refine HNM.out.mono ?_); rintro e W1 ⟨rfl, hw1⟩; subst W1
            clear c0 c1 c2 c3 c4
            obtain ⟨c0, c1, c2, c3, c4⟩ := HRW.out.cells
            go_upto_region 10 with fail
            refine at_world fun W2 hW2 => ?_
            have hr2 : RrAt W2 rb s d g := by rw [hW2]; exact HRW.out.below (below1 _ _)
            have hv2 : VB rb N s w W2 #[.int .i64 0, .string ⟨#[]⟩, .bool false, .slice none 0 0] := by rw [hW2]; exact HVW.out.below (below1 _ _)
            obtain ⟨q, hq0⟩ : ∃ q, q = W.heap.size := ⟨_, rfl⟩
            have ht2 : W2.heap[q]? = some (.cells #[.int .i64 2, .string ⟨x.toArray⟩, .bool false, .slice none 0 0] 33 (0, 0)) := by rw [hW2, hq0]; exact heap_alloc_new _ _
            have hqN : q = N + 1 + 1 := by rw [hq0]; exact HWS.out
            rw [← hq0]
            have HK2 := hid (VK.mk (x := x) (b := false) (v := .slice none 0 0) hr2 hv2 ht2)
            have HQN := hid hqN
            clear hW2 hr2 hv2 ht2 hqN hq0 c0 c1 c2 c3 c4
            obtain ⟨c0, c1, c2, c3, c4⟩ := HK2.out.rd.cells
            have z1 := HK2.out.rd.free 1
            obtain ⟨⟨a0, a1, a2, a3⟩, ⟨b0, b1, b2⟩, hfz⟩ := HK2.out.vb.facts
            have f0 := (hfz 0).1
            have f1 := (hfz 1).1
            have f2 := (hfz 2).1
            have f3 := (hfz 3).1
            have g0 := (hfz 0).2
            have g1 := (hfz 1).2
            have g2 := (hfz 2).2
            clear hfz
            have hX := HK2.out.setrb hrbN (.int .i64 ((d : Int) + 1)) (d' := d + 1) (by go_num)
            have HX := hid hX
            clear hX
            go_wp2
            obtain ⟨p1, p2, p3, p4⟩ := HX.out.vb.put hrbN (.int .i64 0) (.string ⟨#[]⟩) (.bool false) (.slice none 0 0) (.int .i64 4) (.int .i64 0) (.bool false)
            refine bodyPost_ret (results_ctc rfl _ rfl p1 Tryz.underlying33 rfl Tryz.infoT rfl p2 Tryz.underlying63 rfl Tryz.infoF) rfl ?_
            rw [HR2.out]
            refine ⟨rfl, .inr ((p4 rb (by omega) (by omega)).trans HX.out.rd), ?_⟩
            rw [← HN.out]
            exact p3
          · go_enter Tryz.func38, Tryz.ntmps38
            go_wp2_with fail
            rw [← HW.out, ← HN.out]
            (with_reducible refine HNM.out.mono ?_); rintro e W1 ⟨rfl, hw1⟩; subst W1
            clear c0 c1 c2 c3 c4
            obtain ⟨c0, c1, c2, c3, c4⟩ := HRW.out.cells
            go_upto_region 10 with fail
            refine at_world fun W2 hW2 => ?_
            have hr2 : RrAt W2 rb s d g := by rw [hW2]; exact HRW.out.below (below1 _ _)
            have hv2 : VB rb N s w W2 #[.int .i64 0, .string ⟨#[]⟩, .bool false, .slice none 0 0] := by rw [hW2]; exact HVW.out.below (below1 _ _)
            obtain ⟨q, hq0⟩ : ∃ q, q = W.heap.size := ⟨_, rfl⟩
            have ht2 : W2.heap[q]? = some (.cells #[.int .i64 2, .string ⟨x.toArray⟩, .bool false, .slice none 0 0] 33 (0, 0)) := by rw [hW2, hq0]; exact heap_alloc_new _ _
            have hqN : q = N + 1 + 1 := by rw [hq0]; exact HWS.out
            rw [← hq0]
            have HK2 := hid (VK.mk (x := x) (b := false) (v := .slice none 0 0) hr2 hv2 ht2)
            have HQN := hid hqN
            clear hW2 hr2 hv2 ht2 hqN hq0 c0 c1 c2 c3 c4
            obtain ⟨c0, c1, c2, c3, c4⟩ := HK2.out.rd.cells
            have z1 := HK2.out.rd.free 1
            obtain ⟨⟨a0, a1, a2, a3⟩, ⟨b0, b1, b2⟩, hfz⟩ := HK2.out.vb.facts
            have f0 := (hfz 0).1
            have f1 := (hfz 1).1
            have f2 := (hfz 2).1
            have f3 := (hfz 3).1
            have g0 := (hfz 0).2
            have g1 := (hfz 1).2
            have g2 := (hfz 2).2
            clear hfz
            have hX := HK2.out.setrb hrbN (.int .i64 ((d : Int) + 1)) (d' := d + 1) (by go_num)
            have HX := hid hX
            clear hX
            go_wp2
            obtain ⟨p1, p2, p3, p4⟩ := HX.out.vb.put hrbN (.int .i64 0) (.string ⟨#[]⟩) (.bool false) (.slice none 0 0) (.int .i64 4) (.int .i64 0) (.bool false)
            refine bodyPost_ret (results_ctc rfl _ rfl p1 Tryz.underlying33 rfl Tryz.infoT rfl p2 Tryz.underlying63 rfl Tryz.infoF) rfl ?_
            rw [HR2.out]
            refine ⟨rfl, .inr ((p4 rb (by omega) (by omega)).trans HX.out.rd), ?_⟩
            rw [← HN.out]
            exact p3
      · exact absurd hc h40
end Go.Proofs.YtkgpmkkodpjdfaaGreatDoor.Pz
/-
  The reference 06: a variable: the walk.
-/
namespace Go.Proofs.YtkgpmkkodpjdfaaGreatDoor.Pz
open Go.RowKit
set_option maxRecDepth 100000 in
set_option maxHeartbeats 1000000 in
theorem variableR_C1 {g : Told} {d : Nat} {l : Str} (ih : ∀ l', l'.length < l.length → PartsRC .paren g (d + 1) l') (hb : ¬ ∃ t, l = 123 :: t) (hxn : (name false l).1 ≠ []) (hc : ∃ t, (name false l).2 = 40 :: t) (hd100 : ¬ d = 100) (hpo : ∀ t', (name false l).2 = 40 :: t' → ∃ hh, parts .paren g (d + 1) t' = .halt hh) : VarRC g d l := by
  intro w rb s i hs hd h ha
  have hrb0 := h.lt
  have hil := ha.lt
  have hlen := ha.len
  simp only [List.length_cons] at hlen
  have hsz : (⟨s.toArray⟩ : ByteArray).size = s.length := Lib.size_mk _
  obtain ⟨N, hN⟩ : ∃ N, N = w.heap.size := ⟨_, rfl⟩
  obtain ⟨R, hR⟩ : ∃ R, R = varOf g d l := ⟨_, rfl⟩
  rw [← hR]
  have HR := hid hR
  have HN := hid hN
  have HA := hid ha
  obtain ⟨W, hW⟩ : ∃ W, W = (w.alloc (.cells #[.int .i64 0, .string ⟨#[]⟩, .bool false, .slice none 0 0] 33)).alloc (.cells #[.int .i64 0, .int .i64 0, .bool false] 63) := ⟨_, rfl⟩
  have hrW : RrAt W rb s d g := by rw [hW]; exact h.below (below2 _ _ _)
  have hvW : VB rb N s w W #[.int .i64 0, .string ⟨#[]⟩, .bool false, .slice none 0 0] := by
    have hn := new2 w (.cells #[.int .i64 0, .string ⟨#[]⟩, .bool false, .slice none 0 0] 33) (.cells #[.int .i64 0, .int .i64 0, .bool false] 63)
    rw [hW, hN]
    exact ⟨hn.1, hn.2, but_of_below (below2 w _ _) rb⟩
  have hWs : W.heap.size = N + 1 + 1 := by rw [hW, hN]; simp
  have hrbN : rb < N := by omega
  obtain ⟨c0, c1, c2, c3, c4⟩ := h.cells
  have hrb1 : rb < w.heap.size + 1 := by omega
  have HW := hid hW
  have HRW := hid hrW
  have HVW := hid hvW
  have IH := hid ih
  have HWS := hid hWs
  clear hR h ha hW hrW hvW ih hWs hN
  have hfn := fun u => hid (fine_fn u)
  have h123 := hb
  · have hhd : ¬ (l.head? == some 123) = true := by
      intro e
      cases l with
      | nil => cases e
      | cons c t =>
        simp at e
        exact h123 ⟨t, by rw [e]⟩
    have hnm := namedR_fn HRW.out HA.out.tail hs
    obtain ⟨x, r, hxr⟩ : ∃ x r, name false l = (x, r) := ⟨_, _, rfl⟩
    have htx := name_text l false
    rw [hxr] at hnm htx hc hpo
    dsimp only at hpo
    rw [hxr] at hxn
    dsimp only at hxn
    dsimp only at hc
    dsimp only at hnm htx
    have hll : l.length = x.length + r.length := by rw [htx]; simp
    obtain ⟨en, hen⟩ : ∃ en, en = i + 1 + x.length := ⟨_, rfl⟩
    have hnm2 : Calls Tryz.prog 74 #[.pointer (some ⟨rb, 0, none⟩), .int .i64 ((i : Int) + 1)] W fun e w' => e = .returned (.int .i64 (en : Nat)) ∧ w' = W := by
      rw [show s.length - r.length = en by omega] at hnm
      exact hnm
    have HNM := hid hnm2
    have HXR := hid hxr
    have HTX := hid htx
    have HEN := hid hen
    have hen1 : i + 1 ≤ en := by omega
    have hen2 : en ≤ s.length := by omega
    clear hnm hnm2 hxr htx hen
    have pre : (decide ((i : Int) + 1 < (s.length : Int)) = false) ∨ (i + 1 < s.length ∧ ∃ c, (∀ h', (⟨s.toArray⟩ : ByteArray)[i + 1]'h' = c) ∧ ((c.toNat : Int) == 123) = false) := by
      cases l with
      | nil => left; simp at hlen; rw [decide_eq_false]; omega
      | cons c t =>
        right
        simp only [List.length_cons] at hlen
        refine ⟨by omega, c, HA.out.tail.byte, byte_ne 123 (fun e => h123 ⟨t, by rw [e]⟩) rfl⟩
    by_cases hx : x = []
    · exact absurd hx hxn
    · have hne : ((en : Int) == (i : Int) + 1) = false := by
        rw [beq_eq_false_iff_ne]
        have h1 := HEN.out
        have h2 : 0 < x.length := List.length_pos_iff.2 hx
        omega
      have hext : (⟨s.toArray⟩ : ByteArray).extract (i + 1) en = ⟨x.toArray⟩ := by
        have h1 := HA.out.tail
        rw [HTX.out] at h1
        rw [HEN.out]
        exact h1.text
      have hatr : At s r en := by
        have h1 := HA.out.tail
        rw [HTX.out] at h1
        rw [HEN.out]
        exact h1.app
      have HATR := hid hatr
      clear hatr
      by_cases h40 : ∃ t, r = 40 :: t
      · obtain ⟨t', htr⟩ := h40
        obtain ⟨hh, hpo⟩ := hpo t' htr
        have HXR2 := hid (show name false l = (x, 40 :: t') by rw [← htr]; exact HXR.out)
        have HAT2 := hid (show At s (40 :: t') en by rw [← htr]; exact HATR.out)
        have hq := HAT2.out.lt
        have hq2 : decide (s.length ≤ en) = false := by rw [decide_eq_false]; omega
        have hx2 := HAT2.out.byte
        have hhd' : l.head? ≠ some 123 := by simpa using hhd
        · have hdd : ¬ ((d : Int) + 1 > 100) := by omega
          rcases pre with hp | ⟨hp, c, hx1, hc1⟩
          · go_enter Tryz.func38, Tryz.ntmps38
            go_wp2_with fail
            rw [← HW.out, ← HN.out]
            (with_reducible refine HNM.out.mono ?_); rintro e W1 ⟨rfl, hw1⟩; subst W1
            clear c0 c1 c2 c3 c4
            obtain ⟨c0, c1, c2, c3, c4⟩ := HRW.out.cells
            go_upto_region 10 with fail
            refine at_world fun W2 hW2 => ?_
            have hr2 : RrAt W2 rb s d g := by rw [hW2]; exact HRW.out.below (below1 _ _)
            have hv2 : VB rb N s w W2 #[.int .i64 0, .string ⟨#[]⟩, .bool false, .slice none 0 0] := by rw [hW2]; exact HVW.out.below (below1 _ _)
            obtain ⟨q, hq0⟩ : ∃ q, q = W.heap.size := ⟨_, rfl⟩
            have ht2 : W2.heap[q]? = some (.cells #[.int .i64 2, .string ⟨x.toArray⟩, .bool false, .slice none 0 0] 33 (0, 0)) := by rw [hW2, hq0]; exact heap_alloc_new _ _
            have hqN : q = N + 1 + 1 := by rw [hq0]; exact HWS.out
            rw [← hq0]
            have HK2 := hid (VK.mk (x := x) (b := false) (v := .slice none 0 0) hr2 hv2 ht2)
            have HQN := hid hqN
            clear hW2 hr2 hv2 ht2 hqN hq0 c0 c1 c2 c3 c4
            obtain ⟨c0, c1, c2, c3, c4⟩ := HK2.out.rd.cells
            have z1 := HK2.out.rd.free 1
            obtain ⟨X, hXe⟩ : ∃ X, X = W2.setCell ⟨rb, 1, none⟩ (.int .i64 ((d : Int) + 1)) := ⟨_, rfl⟩
            have hX : VK rb N q s (d + 1) g w x false (.slice none 0 0) X := by rw [hXe]; exact HK2.out.setrb hrbN _ (by go_num)
            have hcall : Calls Tryz.prog 33 #[.pointer (some ⟨rb, 0, none⟩), .int .i64 ((en : Int) + 1), .int .u8 41, .bool false] X _ := IH.out t' (by rw [htr] at hll; simp at hll; omega) X rb s (en + 1) false hs (by omega) hX.rd HAT2.out.tail (by intro wi e; cases e)
            have HX := hid hX
            have HXE := hid hXe
            have HC := hid hcall
            clear hX hcall hXe
            go_wp2_with fail
            rw [← HXE.out]
            (with_reducible refine HC.out.mono ?_); intro e W3 h3
            clear c0 c1 c2 c3 c4 z1
            have hXs := HX.out.vb.size
            have hqX : q < X.heap.size := (Array.getElem?_eq_some_iff.1 HX.out.tk).1
            obtain ⟨E, A, O, hfc, hE0, hE8, hE1⟩ := faultC_shape s hh
            rw [hpo] at h3
            obtain ⟨rfl, hrh, hbut⟩ := (show e = .returned (.tuple #[.slice none 0 0, .int .i64 0, .agg (faultC s hh)]) ∧ RrHalt W3 rb s (d + 1) g ∧ But rb X.heap.size X W3 from h3)
            have hR2 : R = .halt hh := by rw [HR.out, varOf_index hhd' HXR2.out hx, if_neg (by simpa [maxDeep] using hd100), hpo]
            have HR2 := hid hR2
            have hv3 := HX.out.vb.call hrbN hbut
            have HV3 := hid hv3
            have hs3 := hbut.size
            have hltr : rb < W3.heap.size := by omega
            have hltN : N < W3.heap.size := by omega
            have hltN1 : N + 1 < W3.heap.size := by omega
            clear hR2 hv3 h3 hpo hbut
            rcases hrh with hrd | hrd
            · rw [hfc]
              obtain ⟨c0, c1, c2, c3, c4⟩ := hrd.cells
              have z1 := hrd.free 1
              go_upto_region 20 with fail
              refine at_world fun W4 hW4 => ?_
              have hY : VB rb N s w (W3.setCell ⟨rb, 1, none⟩ (.int .i64 (d : Int))) #[.int .i64 0, .string ⟨#[]⟩, .bool false, .slice none 0 0] := HV3.out.setrb hrbN _
              have hYr : RrAt (W3.setCell ⟨rb, 1, none⟩ (.int .i64 (d : Int))) rb s (d) g := hrd.deep (by go_num)
              have hYs : (W3.setCell ⟨rb, 1, none⟩ (.int .i64 (d : Int))).heap.size = W3.heap.size := by simp [World.setCell]
              have hv4 : VB rb N s w W4 #[.int .i64 0, .string ⟨#[]⟩, .bool false, .slice none 0 0] := by rw [hW4]; exact hY.below (below1 _ _)
              have hr4 : RrAt W4 rb s (d) g := by rw [hW4]; exact hYr.below (below1 _ _)
              have hf4 : W4.heap[W3.heap.size]? = some (.cells #[.int .i64 E, .int .i64 A, .bool O] 63 (0, 0)) := by rw [hW4, ← hYs]; exact heap_alloc_new _ _
              obtain ⟨l0, l1, l2⟩ := flt_cells hf4
              have HV4 := hid hv4
              have HR4 := hid hr4
              clear hW4 hY hYr hYs hv4 hr4 hf4 c0 c1 c2 c3 c4 z1 hrd
              obtain ⟨⟨a0, a1, a2, a3⟩, ⟨b0, b1, b2⟩, hfz⟩ := HV4.out.facts
              have f0 := (hfz 0).1
              have f1 := (hfz 1).1
              have f2 := (hfz 2).1
              have f3 := (hfz 3).1
              have g0 := (hfz 0).2
              have g1 := (hfz 1).2
              have g2 := (hfz 2).2
              clear hfz
              go_region
              go_wp2
              obtain ⟨p1, p2, p3, p4⟩ := HV4.out.put hrbN (.int .i64 0) (.string ⟨#[]⟩) (.bool false) (.slice none 0 0) (.int .i64 E) (.int .i64 A) (.bool O)
              have drewH : ∀ {Y : World} {k : Nat} {o : Option Obj}, Y.heap[k]? = o → Y.drew.heap[k]? = o := fun h => h
              replace p1 := drewH p1
              replace p2 := drewH p2
              refine bodyPost_ret (results_ctc rfl _ rfl p1 Tryz.underlying33 rfl Tryz.infoT rfl p2 Tryz.underlying63 rfl Tryz.infoF) rfl ?_
              rw [HR2.out]
              unfold VarRP
              dsimp only
              rw [hfc]
              have p5 := drewH ((p4 rb (by omega) (by omega)).trans HR4.out)
              refine ⟨rfl, .inl p5, ?_⟩
              rw [← HN.out]
              exact p3.drew
            · rw [hfc]
              obtain ⟨c0, c1, c2, c3, c4⟩ := hrd.cells
              have z1 := hrd.free 1
              go_upto_region 20 with fail
              refine at_world fun W4 hW4 => ?_
              have hY : VB rb N s w (W3.setCell ⟨rb, 1, none⟩ (.int .i64 ((d : Int) + 1))) #[.int .i64 0, .string ⟨#[]⟩, .bool false, .slice none 0 0] := HV3.out.setrb hrbN _
              have hYr : RrAt (W3.setCell ⟨rb, 1, none⟩ (.int .i64 ((d : Int) + 1))) rb s (d + 1) g := hrd.deep (by go_num)
              have hYs : (W3.setCell ⟨rb, 1, none⟩ (.int .i64 ((d : Int) + 1))).heap.size = W3.heap.size := by simp [World.setCell]
              have hv4 : VB rb N s w W4 #[.int .i64 0, .string ⟨#[]⟩, .bool false, .slice none 0 0] := by rw [hW4]; exact hY.below (below1 _ _)
              have hr4 : RrAt W4 rb s (d + 1) g := by rw [hW4]; exact hYr.below (below1 _ _)
              have hf4 : W4.heap[W3.heap.size]? = some (.cells #[.int .i64 E, .int .i64 A, .bool O] 63 (0, 0)) := by rw [hW4, ← hYs]; exact heap_alloc_new _ _
              obtain ⟨l0, l1, l2⟩ := flt_cells hf4
              have HV4 := hid hv4
              have HR4 := hid hr4
              clear hW4 hY hYr hYs hv4 hr4 hf4 c0 c1 c2 c3 c4 z1 hrd
              obtain ⟨⟨a0, a1, a2, a3⟩, ⟨b0, b1, b2⟩, hfz⟩ := HV4.out.facts
              have f0 := (hfz 0).1
              have f1 := (hfz 1).1
              have f2 := (hfz 2).1
              have f3 := (hfz 3).1
              have g0 := (hfz 0).2
              have g1 := (hfz 1).2
              have g2 := (hfz 2).2
              clear hfz
              go_region
              go_wp2
              obtain ⟨p1, p2, p3, p4⟩ := HV4.out.put hrbN (.int .i64 0) (.string ⟨#[]⟩) (.bool false) (.slice none 0 0) (.int .i64 E) (.int .i64 A) (.bool O)
              have drewH : ∀ {Y : World} {k : Nat} {o : Option Obj}, Y.heap[k]? = o → Y.drew.heap[k]? = o := fun h => h
              replace p1 := drewH p1
              replace p2 := drewH p2
              refine bodyPost_ret (results_ctc rfl _ rfl p1 Tryz.underlying33 rfl Tryz.infoT rfl p2 Tryz.underlying63 rfl Tryz.infoF) rfl ?_
              rw [HR2.out]
              unfold VarRP
              dsimp only
              rw [hfc]
              have p5 := drewH ((p4 rb (by omega) (by omega)).trans HR4.out)
              refine ⟨rfl, .inr p5, ?_⟩
              rw [← HN.out]
              exact p3.drew

          · go_enter Tryz.func38, Tryz.ntmps38
            go_wp2_with fail
            rw [← HW.out, ← HN.out]
            (with_reducible refine HNM.out.mono ?_); rintro e W1 ⟨rfl, hw1⟩; subst W1
            clear c0 c1 c2 c3 c4
            obtain ⟨c0, c1, c2, c3, c4⟩ := HRW.out.cells
            go_upto_region 10 with fail
            refine at_world fun W2 hW2 => ?_
            have hr2 : RrAt W2 rb s d g := by rw [hW2]; exact HRW.out.below (below1 _ _)
            have hv2 : VB rb N s w W2 #[.int .i64 0, .string ⟨#[]⟩, .bool false, .slice none 0 0] := by rw [hW2]; exact HVW.out.below (below1 _ _)
            obtain ⟨q, hq0⟩ : ∃ q, q = W.heap.size := ⟨_, rfl⟩
            have ht2 : W2.heap[q]? = some (.cells #[.int .i64 2, .string ⟨x.toArray⟩, .bool false, .slice none 0 0] 33 (0, 0)) := by rw [hW2, hq0]; exact heap_alloc_new _ _
            have hqN : q = N + 1 + 1 := by rw [hq0]; exact HWS.out
            rw [← hq0]
            have HK2 := hid (VK.mk (x := x) (b := false) (v := .slice none 0 0) hr2 hv2 ht2)
            have HQN := hid hqN
            clear hW2 hr2 hv2 ht2 hqN hq0 c0 c1 c2 c3 c4
            obtain ⟨c0, c1, c2, c3, c4⟩ := HK2.out.rd.cells
            have z1 := HK2.out.rd.free 1
            obtain ⟨X, hXe⟩ : ∃ X, X = W2.setCell ⟨rb, 1, none⟩ (.int .i64 ((d : Int) + 1)) := ⟨_, rfl⟩
            have hX : VK rb N q s (d + 1) g w x false (.slice none 0 0) X := by rw [hXe]; exact HK2.out.setrb hrbN _ (by go_num)
            have hcall : Calls Tryz.prog 33 #[.pointer (some ⟨rb, 0, none⟩), .int .i64 ((en : Int) + 1), .int .u8 41, .bool false] X _ := IH.out t' (by rw [htr] at hll; simp at hll; omega) X rb s (en + 1) false hs (by omega) hX.rd HAT2.out.tail (by intro wi e; cases e)
            have HX := hid hX
            have HXE := hid hXe
            have HC := hid hcall
            clear hX hcall hXe
            go_wp2_with fail
            rw [← HXE.out]
            (with_reducible refine HC.out.mono ?_); intro e W3 h3
            clear c0 c1 c2 c3 c4 z1
            have hXs := HX.out.vb.size
            have hqX : q < X.heap.size := (Array.getElem?_eq_some_iff.1 HX.out.tk).1
            obtain ⟨E, A, O, hfc, hE0, hE8, hE1⟩ := faultC_shape s hh
            rw [hpo] at h3
            obtain ⟨rfl, hrh, hbut⟩ := (show e = .returned (.tuple #[.slice none 0 0, .int .i64 0, .agg (faultC s hh)]) ∧ RrHalt W3 rb s (d + 1) g ∧ But rb X.heap.size X W3 from h3)
            have hR2 : R = .halt hh := by rw [HR.out, varOf_index hhd' HXR2.out hx, if_neg (by simpa [maxDeep] using hd100), hpo]
            have HR2 := hid hR2
            have hv3 := HX.out.vb.call hrbN hbut
            have HV3 := hid hv3
            have hs3 := hbut.size
            have hltr : rb < W3.heap.size := by omega
            have hltN : N < W3.heap.size := by omega
            have hltN1 : N + 1 < W3.heap.size := by omega
            clear hR2 hv3 h3 hpo hbut
            rcases hrh with hrd | hrd
            · rw [hfc]
              obtain ⟨c0, c1, c2, c3, c4⟩ := hrd.cells
              have z1 := hrd.free 1
              go_upto_region 20 with fail
              refine at_world fun W4 hW4 => ?_
              have hY : VB rb N s w (W3.setCell ⟨rb, 1, none⟩ (.int .i64 (d : Int))) #[.int .i64 0, .string ⟨#[]⟩, .bool false, .slice none 0 0] := HV3.out.setrb hrbN _
              have hYr : RrAt (W3.setCell ⟨rb, 1, none⟩ (.int .i64 (d : Int))) rb s (d) g := hrd.deep (by go_num)
              have hYs : (W3.setCell ⟨rb, 1, none⟩ (.int .i64 (d : Int))).heap.size = W3.heap.size := by simp [World.setCell]
              have hv4 : VB rb N s w W4 #[.int .i64 0, .string ⟨#[]⟩, .bool false, .slice none 0 0] := by rw [hW4]; exact hY.below (below1 _ _)
              have hr4 : RrAt W4 rb s (d) g := by rw [hW4]; exact hYr.below (below1 _ _)
              have hf4 : W4.heap[W3.heap.size]? = some (.cells #[.int .i64 E, .int .i64 A, .bool O] 63 (0, 0)) := by rw [hW4, ← hYs]; exact heap_alloc_new _ _
              obtain ⟨l0, l1, l2⟩ := flt_cells hf4
              have HV4 := hid hv4
              have HR4 := hid hr4
              clear hW4 hY hYr hYs hv4 hr4 hf4 c0 c1 c2 c3 c4 z1 hrd
              obtain ⟨⟨a0, a1, a2, a3⟩, ⟨b0, b1, b2⟩, hfz⟩ := HV4.out.facts
              have f0 := (hfz 0).1
              have f1 := (hfz 1).1
              have f2 := (hfz 2).1
              have f3 := (hfz 3).1
              have g0 := (hfz 0).2
              have g1 := (hfz 1).2
              have g2 := (hfz 2).2
              clear hfz
              go_region
              go_wp2
              obtain ⟨p1, p2, p3, p4⟩ := HV4.out.put hrbN (.int .i64 0) (.string ⟨#[]⟩) (.bool false) (.slice none 0 0) (.int .i64 E) (.int .i64 A) (.bool O)
              have drewH : ∀ {Y : World} {k : Nat} {o : Option Obj}, Y.heap[k]? = o → Y.drew.heap[k]? = o := fun h => h
              replace p1 := drewH p1
              replace p2 := drewH p2
              refine bodyPost_ret (results_ctc rfl _ rfl p1 Tryz.underlying33 rfl Tryz.infoT rfl p2 Tryz.underlying63 rfl Tryz.infoF) rfl ?_
              rw [HR2.out]
              unfold VarRP
              dsimp only
              rw [hfc]
              have p5 := drewH ((p4 rb (by omega) (by omega)).trans HR4.out)
              refine ⟨rfl, .inl p5, ?_⟩
              rw [← HN.out]
              exact p3.drew
            · rw [hfc]
              obtain ⟨c0, c1, c2, c3, c4⟩ := hrd.cells
              have z1 := hrd.free 1
              go_upto_region 20 with fail
              refine at_world fun W4 hW4 => ?_
              have hY : VB rb N s w (W3.setCell ⟨rb, 1, none⟩ (.int .i64 ((d : Int) + 1))) #[.int .i64 0, .string ⟨#[]⟩, .bool false, .slice none 0 0] := HV3.out.setrb hrbN _
              have hYr : RrAt (W3.setCell ⟨rb, 1, none⟩ (.int .i64 ((d : Int) + 1))) rb s (d + 1) g := hrd.deep (by go_num)
              have hYs : (W3.setCell ⟨rb, 1, none⟩ (.int .i64 ((d : Int) + 1))).heap.size = W3.heap.size := by simp [World.setCell]
              have hv4 : VB rb N s w W4 #[.int .i64 0, .string ⟨#[]⟩, .bool false, .slice none 0 0] := by rw [hW4]; exact hY.below (below1 _ _)
              have hr4 : RrAt W4 rb s (d + 1) g := by rw [hW4]; exact hYr.below (below1 _ _)
              have hf4 : W4.heap[W3.heap.size]? = some (.cells #[.int .i64 E, .int .i64 A, .bool O] 63 (0, 0)) := by rw [hW4, ← hYs]; exact heap_alloc_new _ _
              obtain ⟨l0, l1, l2⟩ := flt_cells hf4
              have HV4 := hid hv4
              have HR4 := hid hr4
              clear hW4 hY hYr hYs hv4 hr4 hf4 c0 c1 c2 c3 c4 z1 hrd
              obtain ⟨⟨a0, a1, a2, a3⟩, ⟨b0, b1, b2⟩, hfz⟩ := HV4.out.facts
              have f0 := (hfz 0).1
              have f1 := (hfz 1).1
              have f2 := (hfz 2).1
              have f3 := (hfz 3).1
              have g0 := (hfz 0).2
              have g1 := (hfz 1).2
              have g2 := (hfz 2).2
              clear hfz
              go_region
              go_wp2
              obtain ⟨p1, p2, p3, p4⟩ := HV4.out.put hrbN (.int .i64 0) (.string ⟨#[]⟩) (.bool false) (.slice none 0 0) (.int .i64 E) (.int .i64 A) (.bool O)
              have drewH : ∀ {Y : World} {k : Nat} {o : Option Obj}, Y.heap[k]? = o → Y.drew.heap[k]? = o := fun h => h
              replace p1 := drewH p1
              replace p2 := drewH p2
              refine bodyPost_ret (results_ctc rfl _ rfl p1 Tryz.underlying33 rfl Tryz.infoT rfl p2 Tryz.underlying63 rfl Tryz.infoF) rfl ?_
              rw [HR2.out]
              unfold VarRP
              dsimp only
              rw [hfc]
              have p5 := drewH ((p4 rb (by omega) (by omega)).trans HR4.out)
              refine ⟨rfl, .inr p5, ?_⟩
              rw [← HN.out]
              exact p3.drew

      · exact absurd hc h40
end Go.Proofs.YtkgpmkkodpjdfaaGreatDoor.Pz
/-
  The reference 06: a variable: the walk.
-/
namespace Go.Proofs.YtkgpmkkodpjdfaaGreatDoor.Pz
open Go.RowKit
set_option maxRecDepth 100000 in
set_option maxHeartbeats 1000000 in
theorem variableR_C2 {g : Told} {d : Nat} {l : Str} (ih : ∀ l', l'.length < l.length → PartsRC .paren g (d + 1) l') (hb : ¬ ∃ t, l = 123 :: t) (hxn : (name false l).1 ≠ []) (hc : ∃ t, (name false l).2 = 40 :: t) (hd100 : ¬ d = 100) (hpo : ∀ t', (name false l).2 = 40 :: t' → ∃ ts, parts .paren g (d + 1) t' = .ok ts []) : VarRC g d l := by
  intro w rb s i hs hd h ha
  have hrb0 := h.lt
  have hil := ha.lt
  have hlen := ha.len
  simp only [List.length_cons] at hlen
  have hsz : (⟨s.toArray⟩ : ByteArray).size = s.length := Lib.size_mk _
  obtain ⟨N, hN⟩ : ∃ N, N = w.heap.size := ⟨_, rfl⟩
  obtain ⟨R, hR⟩ : ∃ R, R = varOf g d l := ⟨_, rfl⟩
  rw [← hR]
  have HR := hid hR
  have HN := hid hN
  have HA := hid ha
  obtain ⟨W, hW⟩ : ∃ W, W = (w.alloc (.cells #[.int .i64 0, .string ⟨#[]⟩, .bool false, .slice none 0 0] 33)).alloc (.cells #[.int .i64 0, .int .i64 0, .bool false] 63) := ⟨_, rfl⟩
  have hrW : RrAt W rb s d g := by rw [hW]; exact h.below (below2 _ _ _)
  have hvW : VB rb N s w W #[.int .i64 0, .string ⟨#[]⟩, .bool false, .slice none 0 0] := by
    have hn := new2 w (.cells #[.int .i64 0, .string ⟨#[]⟩, .bool false, .slice none 0 0] 33) (.cells #[.int .i64 0, .int .i64 0, .bool false] 63)
    rw [hW, hN]
    exact ⟨hn.1, hn.2, but_of_below (below2 w _ _) rb⟩
  have hWs : W.heap.size = N + 1 + 1 := by rw [hW, hN]; simp
  have hrbN : rb < N := by omega
  obtain ⟨c0, c1, c2, c3, c4⟩ := h.cells
  have hrb1 : rb < w.heap.size + 1 := by omega
  have HW := hid hW
  have HRW := hid hrW
  have HVW := hid hvW
  have IH := hid ih
  have HWS := hid hWs
  clear hR h ha hW hrW hvW ih hWs hN
  have hfn := fun u => hid (fine_fn u)
  have h123 := hb
  · have hhd : ¬ (l.head? == some 123) = true := by
      intro e
      cases l with
      | nil => cases e
      | cons c t =>
        simp at e
        exact h123 ⟨t, by rw [e]⟩
    have hnm := namedR_fn HRW.out HA.out.tail hs
    obtain ⟨x, r, hxr⟩ : ∃ x r, name false l = (x, r) := ⟨_, _, rfl⟩
    have htx := name_text l false
    rw [hxr] at hnm htx hc hpo
    dsimp only at hpo
    rw [hxr] at hxn
    dsimp only at hxn
    dsimp only at hc
    dsimp only at hnm htx
    have hll : l.length = x.length + r.length := by rw [htx]; simp
    obtain ⟨en, hen⟩ : ∃ en, en = i + 1 + x.length := ⟨_, rfl⟩
    have hnm2 : Calls Tryz.prog 74 #[.pointer (some ⟨rb, 0, none⟩), .int .i64 ((i : Int) + 1)] W fun e w' => e = .returned (.int .i64 (en : Nat)) ∧ w' = W := by
      rw [show s.length - r.length = en by omega] at hnm
      exact hnm
    have HNM := hid hnm2
    have HXR := hid hxr
    have HTX := hid htx
    have HEN := hid hen
    have hen1 : i + 1 ≤ en := by omega
    have hen2 : en ≤ s.length := by omega
    clear hnm hnm2 hxr htx hen
    have pre : (decide ((i : Int) + 1 < (s.length : Int)) = false) ∨ (i + 1 < s.length ∧ ∃ c, (∀ h', (⟨s.toArray⟩ : ByteArray)[i + 1]'h' = c) ∧ ((c.toNat : Int) == 123) = false) := by
      cases l with
      | nil => left; simp at hlen; rw [decide_eq_false]; omega
      | cons c t =>
        right
        simp only [List.length_cons] at hlen
        refine ⟨by omega, c, HA.out.tail.byte, byte_ne 123 (fun e => h123 ⟨t, by rw [e]⟩) rfl⟩
    by_cases hx : x = []
    · exact absurd hx hxn
    · have hne : ((en : Int) == (i : Int) + 1) = false := by
        rw [beq_eq_false_iff_ne]
        have h1 := HEN.out
        have h2 : 0 < x.length := List.length_pos_iff.2 hx
        omega
      have hext : (⟨s.toArray⟩ : ByteArray).extract (i + 1) en = ⟨x.toArray⟩ := by
        have h1 := HA.out.tail
        rw [HTX.out] at h1
        rw [HEN.out]
        exact h1.text
      have hatr : At s r en := by
        have h1 := HA.out.tail
        rw [HTX.out] at h1
        rw [HEN.out]
        exact h1.app
      have HATR := hid hatr
      clear hatr
      by_cases h40 : ∃ t, r = 40 :: t
      · obtain ⟨t', htr⟩ := h40
        obtain ⟨ts, hpo⟩ := hpo t' htr
        obtain ⟨r', hr'⟩ : ∃ r' : Str, r' = [] := ⟨_, rfl⟩
        have HXR2 := hid (show name false l = (x, 40 :: t') by rw [← htr]; exact HXR.out)
        have HAT2 := hid (show At s (40 :: t') en by rw [← htr]; exact HATR.out)
        have hq := HAT2.out.lt
        have hq2 : decide (s.length ≤ en) = false := by rw [decide_eq_false]; omega
        have hx2 := HAT2.out.byte
        have hhd' : l.head? ≠ some 123 := by simpa using hhd
        · have hdd : ¬ ((d : Int) + 1 > 100) := by omega
          rcases pre with hp | ⟨hp, c, hx1, hc1⟩
          · go_enter Tryz.func38, Tryz.ntmps38
            go_wp2_with fail
            rw [← HW.out, ← HN.out]
            (with_reducible refine HNM.out.mono ?_); rintro e W1 ⟨rfl, hw1⟩; subst W1
            clear c0 c1 c2 c3 c4
            obtain ⟨c0, c1, c2, c3, c4⟩ := HRW.out.cells
            go_upto_region 10 with fail
            refine at_world fun W2 hW2 => ?_
            have hr2 : RrAt W2 rb s d g := by rw [hW2]; exact HRW.out.below (below1 _ _)
            have hv2 : VB rb N s w W2 #[.int .i64 0, .string ⟨#[]⟩, .bool false, .slice none 0 0] := by rw [hW2]; exact HVW.out.below (below1 _ _)
            obtain ⟨q, hq0⟩ : ∃ q, q = W.heap.size := ⟨_, rfl⟩
            have ht2 : W2.heap[q]? = some (.cells #[.int .i64 2, .string ⟨x.toArray⟩, .bool false, .slice none 0 0] 33 (0, 0)) := by rw [hW2, hq0]; exact heap_alloc_new _ _
            have hqN : q = N + 1 + 1 := by rw [hq0]; exact HWS.out
            rw [← hq0]
            have HK2 := hid (VK.mk (x := x) (b := false) (v := .slice none 0 0) hr2 hv2 ht2)
            have HQN := hid hqN
            clear hW2 hr2 hv2 ht2 hqN hq0 c0 c1 c2 c3 c4
            obtain ⟨c0, c1, c2, c3, c4⟩ := HK2.out.rd.cells
            have z1 := HK2.out.rd.free 1
            obtain ⟨X, hXe⟩ : ∃ X, X = W2.setCell ⟨rb, 1, none⟩ (.int .i64 ((d : Int) + 1)) := ⟨_, rfl⟩
            have hX : VK rb N q s (d + 1) g w x false (.slice none 0 0) X := by rw [hXe]; exact HK2.out.setrb hrbN _ (by go_num)
            have hcall : Calls Tryz.prog 33 #[.pointer (some ⟨rb, 0, none⟩), .int .i64 ((en : Int) + 1), .int .u8 41, .bool false] X _ := IH.out t' (by rw [htr] at hll; simp at hll; omega) X rb s (en + 1) false hs (by omega) hX.rd HAT2.out.tail (by intro wi e; cases e)
            have HX := hid hX
            have HXE := hid hXe
            have HC := hid hcall
            clear hX hcall hXe
            go_wp2_with fail
            rw [← HXE.out]
            (with_reducible refine HC.out.mono ?_); intro e W3 h3
            clear c0 c1 c2 c3 c4 z1
            have hXs := HX.out.vb.size
            have hqX : q < X.heap.size := (Array.getElem?_eq_some_iff.1 HX.out.tk).1
            rw [hpo] at h3
            obtain ⟨v, rfl, hrd, htk, hbut⟩ := h3
            obtain ⟨va, vn, vc, rfl⟩ : ∃ a n c, v = .slice a n c := by
              obtain ⟨a, cap, hv, _⟩ := RowIs.cell htk
              exact ⟨a, _, cap, hv⟩
            have hv3 := HX.out.vb.call hrbN hbut
            have hk3 : VK rb N q s (d + 1) g w x false (.slice none 0 0) W3 := ⟨hrd, hv3, (hbut.block q hqX (by have := HQN.out; omega)).trans HX.out.tk⟩
            have HK3 := hid hk3
            have HTK := hid htk
            have hs3 := hbut.size
            have hltr : rb < W3.heap.size := by omega
            have hltN : N < W3.heap.size := by omega
            have hltN1 : N + 1 < W3.heap.size := by omega
            have hltq : q < W3.heap.size := by omega
            have hrs := (parts_ok .paren g (d + 1) t' ts _ hpo).1.length_le
            have hlenA := HAT2.out.len
            simp only [List.length_cons] at hlenA
            clear hv3 hk3 hbut htk
            have hR2 : R = .halt (.lacks (t'.length + 1)) := by rw [HR.out, varOf_index hhd' HXR2.out hx, if_neg (by simpa [maxDeep] using hd100), hpo]
            have HR2 := hid hR2
            clear hR2 hpo
            have hen3 : s.length - (t'.length + 1) = en := by omega
            have HV3 := hid HK3.out.vb
            have hrd := HK3.out.rd
            obtain ⟨c0, c1, c2, c3, c4⟩ := hrd.cells
            have z1 := hrd.free 1
            go_upto_region 20 with fail
            refine at_world fun W4 hW4 => ?_
            have hY : VB rb N s w (W3.setCell ⟨rb, 1, none⟩ (.int .i64 (d : Int))) #[.int .i64 0, .string ⟨#[]⟩, .bool false, .slice none 0 0] := HV3.out.setrb hrbN _
            have hYr : RrAt (W3.setCell ⟨rb, 1, none⟩ (.int .i64 (d : Int))) rb s (d) g := hrd.deep (by go_num)
            have hYs : (W3.setCell ⟨rb, 1, none⟩ (.int .i64 (d : Int))).heap.size = W3.heap.size := by simp [World.setCell]
            have hv4 : VB rb N s w W4 #[.int .i64 0, .string ⟨#[]⟩, .bool false, .slice none 0 0] := by rw [hW4]; exact hY.below (below1 _ _)
            have hr4 : RrAt W4 rb s (d) g := by rw [hW4]; exact hYr.below (below1 _ _)
            have hf4 : W4.heap[W3.heap.size]? = some (.cells #[.int .i64 2, .int .i64 (en : Int), .bool true] 63 (0, 0)) := by rw [hW4, ← hYs]; exact heap_alloc_new _ _
            obtain ⟨l0, l1, l2⟩ := flt_cells hf4
            have HV4 := hid hv4
            have HR4 := hid hr4
            clear hW4 hY hYr hYs hv4 hr4 hf4 c0 c1 c2 c3 c4 z1 hrd
            obtain ⟨⟨a0, a1, a2, a3⟩, ⟨b0, b1, b2⟩, hfz⟩ := HV4.out.facts
            have f0 := (hfz 0).1
            have f1 := (hfz 1).1
            have f2 := (hfz 2).1
            have f3 := (hfz 3).1
            have g0 := (hfz 0).2
            have g1 := (hfz 1).2
            have g2 := (hfz 2).2
            clear hfz
            go_region
            go_wp2
            obtain ⟨p1, p2, p3, p4⟩ := HV4.out.put hrbN (.int .i64 0) (.string ⟨#[]⟩) (.bool false) (.slice none 0 0) (.int .i64 2) (.int .i64 (en : Int)) (.bool true)
            have drewH : ∀ {Y : World} {k : Nat} {o : Option Obj}, Y.heap[k]? = o → Y.drew.heap[k]? = o := fun h => h
            replace p1 := drewH p1
            replace p2 := drewH p2
            refine bodyPost_ret (results_ctc rfl _ rfl p1 Tryz.underlying33 rfl Tryz.infoT rfl p2 Tryz.underlying63 rfl Tryz.infoF) rfl ?_
            rw [HR2.out]
            unfold VarRP
            dsimp only [faultC]
            rw [hen3]
            have p5 := drewH ((p4 rb (by omega) (by omega)).trans HR4.out)
            refine ⟨rfl, .inl p5, ?_⟩
            rw [← HN.out]
            exact p3.drew
          · go_enter Tryz.func38, Tryz.ntmps38
            go_wp2_with fail
            rw [← HW.out, ← HN.out]
            (with_reducible refine HNM.out.mono ?_); rintro e W1 ⟨rfl, hw1⟩; subst W1
            clear c0 c1 c2 c3 c4
            obtain ⟨c0, c1, c2, c3, c4⟩ := HRW.out.cells
            go_upto_region 10 with fail
            refine at_world fun W2 hW2 => ?_
            have hr2 : RrAt W2 rb s d g := by rw [hW2]; exact HRW.out.below (below1 _ _)
            have hv2 : VB rb N s w W2 #[.int .i64 0, .string ⟨#[]⟩, .bool false, .slice none 0 0] := by rw [hW2]; exact HVW.out.below (below1 _ _)
            obtain ⟨q, hq0⟩ : ∃ q, q = W.heap.size := ⟨_, rfl⟩
            have ht2 : W2.heap[q]? = some (.cells #[.int .i64 2, .string ⟨x.toArray⟩, .bool false, .slice none 0 0] 33 (0, 0)) := by rw [hW2, hq0]; exact heap_alloc_new _ _
            have hqN : q = N + 1 + 1 := by rw [hq0]; exact HWS.out
            rw [← hq0]
            have HK2 := hid (VK.mk (x := x) (b := false) (v := .slice none 0 0) hr2 hv2 ht2)
            have HQN := hid hqN
            clear hW2 hr2 hv2 ht2 hqN hq0 c0 c1 c2 c3 c4
            obtain ⟨c0, c1, c2, c3, c4⟩ := HK2.out.rd.cells
            have z1 := HK2.out.rd.free 1
            obtain ⟨X, hXe⟩ : ∃ X, X = W2.setCell ⟨rb, 1, none⟩ (.int .i64 ((d : Int) + 1)) := ⟨_, rfl⟩
            have hX : VK rb N q s (d + 1) g w x false (.slice none 0 0) X := by rw [hXe]; exact HK2.out.setrb hrbN _ (by go_num)
            have hcall : Calls Tryz.prog 33 #[.pointer (some ⟨rb, 0, none⟩), .int .i64 ((en : Int) + 1), .int .u8 41, .bool false] X _ := IH.out t' (by rw [htr] at hll; simp at hll; omega) X rb s (en + 1) false hs (by omega) hX.rd HAT2.out.tail (by intro wi e; cases e)
            have HX := hid hX
            have HXE := hid hXe
            have HC := hid hcall
            clear hX hcall hXe
            go_wp2_with fail
            rw [← HXE.out]
            (with_reducible refine HC.out.mono ?_); intro e W3 h3
            clear c0 c1 c2 c3 c4 z1
            have hXs := HX.out.vb.size
            have hqX : q < X.heap.size := (Array.getElem?_eq_some_iff.1 HX.out.tk).1
            rw [hpo] at h3
            obtain ⟨v, rfl, hrd, htk, hbut⟩ := h3
            obtain ⟨va, vn, vc, rfl⟩ : ∃ a n c, v = .slice a n c := by
              obtain ⟨a, cap, hv, _⟩ := RowIs.cell htk
              exact ⟨a, _, cap, hv⟩
            have hv3 := HX.out.vb.call hrbN hbut
            have hk3 : VK rb N q s (d + 1) g w x false (.slice none 0 0) W3 := ⟨hrd, hv3, (hbut.block q hqX (by have := HQN.out; omega)).trans HX.out.tk⟩
            have HK3 := hid hk3
            have HTK := hid htk
            have hs3 := hbut.size
            have hltr : rb < W3.heap.size := by omega
            have hltN : N < W3.heap.size := by omega
            have hltN1 : N + 1 < W3.heap.size := by omega
            have hltq : q < W3.heap.size := by omega
            have hrs := (parts_ok .paren g (d + 1) t' ts _ hpo).1.length_le
            have hlenA := HAT2.out.len
            simp only [List.length_cons] at hlenA
            clear hv3 hk3 hbut htk
            have hR2 : R = .halt (.lacks (t'.length + 1)) := by rw [HR.out, varOf_index hhd' HXR2.out hx, if_neg (by simpa [maxDeep] using hd100), hpo]
            have HR2 := hid hR2
            clear hR2 hpo
            have hen3 : s.length - (t'.length + 1) = en := by omega
            have HV3 := hid HK3.out.vb
            have hrd := HK3.out.rd
            obtain ⟨c0, c1, c2, c3, c4⟩ := hrd.cells
            have z1 := hrd.free 1
            go_upto_region 20 with fail
            refine at_world fun W4 hW4 => ?_
            have hY : VB rb N s w (W3.setCell ⟨rb, 1, none⟩ (.int .i64 (d : Int))) #[.int .i64 0, .string ⟨#[]⟩, .bool false, .slice none 0 0] := HV3.out.setrb hrbN _
            have hYr : RrAt (W3.setCell ⟨rb, 1, none⟩ (.int .i64 (d : Int))) rb s (d) g := hrd.deep (by go_num)
            have hYs : (W3.setCell ⟨rb, 1, none⟩ (.int .i64 (d : Int))).heap.size = W3.heap.size := by simp [World.setCell]
            have hv4 : VB rb N s w W4 #[.int .i64 0, .string ⟨#[]⟩, .bool false, .slice none 0 0] := by rw [hW4]; exact hY.below (below1 _ _)
            have hr4 : RrAt W4 rb s (d) g := by rw [hW4]; exact hYr.below (below1 _ _)
            have hf4 : W4.heap[W3.heap.size]? = some (.cells #[.int .i64 2, .int .i64 (en : Int), .bool true] 63 (0, 0)) := by rw [hW4, ← hYs]; exact heap_alloc_new _ _
            obtain ⟨l0, l1, l2⟩ := flt_cells hf4
            have HV4 := hid hv4
            have HR4 := hid hr4
            clear hW4 hY hYr hYs hv4 hr4 hf4 c0 c1 c2 c3 c4 z1 hrd
            obtain ⟨⟨a0, a1, a2, a3⟩, ⟨b0, b1, b2⟩, hfz⟩ := HV4.out.facts
            have f0 := (hfz 0).1
            have f1 := (hfz 1).1
            have f2 := (hfz 2).1
            have f3 := (hfz 3).1
            have g0 := (hfz 0).2
            have g1 := (hfz 1).2
            have g2 := (hfz 2).2
            clear hfz
            go_region
            go_wp2
            obtain ⟨p1, p2, p3, p4⟩ := HV4.out.put hrbN (.int .i64 0) (.string ⟨#[]⟩) (.bool false) (.slice none 0 0) (.int .i64 2) (.int .i64 (en : Int)) (.bool true)
            have drewH : ∀ {Y : World} {k : Nat} {o : Option Obj}, Y.heap[k]? = o → Y.drew.heap[k]? = o := fun h => h
            replace p1 := drewH p1
            replace p2 := drewH p2
            refine bodyPost_ret (results_ctc rfl _ rfl p1 Tryz.underlying33 rfl Tryz.infoT rfl p2 Tryz.underlying63 rfl Tryz.infoF) rfl ?_
            rw [HR2.out]
            unfold VarRP
            dsimp only [faultC]
            rw [hen3]
            have p5 := drewH ((p4 rb (by omega) (by omega)).trans HR4.out)
            refine ⟨rfl, .inl p5, ?_⟩
            rw [← HN.out]
            exact p3.drew
      · exact absurd hc h40
end Go.Proofs.YtkgpmkkodpjdfaaGreatDoor.Pz
/-
  The reference 06: a variable: the walk.
-/
namespace Go.Proofs.YtkgpmkkodpjdfaaGreatDoor.Pz
open Go.RowKit
set_option maxRecDepth 100000 in
set_option maxHeartbeats 1000000 in
theorem variableR_C3 {g : Told} {d : Nat} {l : Str} (ih : ∀ l', l'.length < l.length → PartsRC .paren g (d + 1) l') (hb : ¬ ∃ t, l = 123 :: t) (hxn : (name false l).1 ≠ []) (hc : ∃ t, (name false l).2 = 40 :: t) (hd100 : ¬ d = 100) (hpo : ∀ t', (name false l).2 = 40 :: t' → ∃ ts c r, parts .paren g (d + 1) t' = .ok ts (c :: r)) : VarRC g d l := by
  intro w rb s i hs hd h ha
  have hrb0 := h.lt
  have hil := ha.lt
  have hlen := ha.len
  simp only [List.length_cons] at hlen
  have hsz : (⟨s.toArray⟩ : ByteArray).size = s.length := Lib.size_mk _
  obtain ⟨N, hN⟩ : ∃ N, N = w.heap.size := ⟨_, rfl⟩
  obtain ⟨R, hR⟩ : ∃ R, R = varOf g d l := ⟨_, rfl⟩
  rw [← hR]
  have HR := hid hR
  have HN := hid hN
  have HA := hid ha
  obtain ⟨W, hW⟩ : ∃ W, W = (w.alloc (.cells #[.int .i64 0, .string ⟨#[]⟩, .bool false, .slice none 0 0] 33)).alloc (.cells #[.int .i64 0, .int .i64 0, .bool false] 63) := ⟨_, rfl⟩
  have hrW : RrAt W rb s d g := by rw [hW]; exact h.below (below2 _ _ _)
  have hvW : VB rb N s w W #[.int .i64 0, .string ⟨#[]⟩, .bool false, .slice none 0 0] := by
    have hn := new2 w (.cells #[.int .i64 0, .string ⟨#[]⟩, .bool false, .slice none 0 0] 33) (.cells #[.int .i64 0, .int .i64 0, .bool false] 63)
    rw [hW, hN]
    exact ⟨hn.1, hn.2, but_of_below (below2 w _ _) rb⟩
  have hWs : W.heap.size = N + 1 + 1 := by rw [hW, hN]; simp
  have hrbN : rb < N := by omega
  obtain ⟨c0, c1, c2, c3, c4⟩ := h.cells
  have hrb1 : rb < w.heap.size + 1 := by omega
  have HW := hid hW
  have HRW := hid hrW
  have HVW := hid hvW
  have IH := hid ih
  have HWS := hid hWs
  clear hR h ha hW hrW hvW ih hWs hN
  have hfn := fun u => hid (fine_fn u)
  have h123 := hb
  · have hhd : ¬ (l.head? == some 123) = true := by
      intro e
      cases l with
      | nil => cases e
      | cons c t =>
        simp at e
        exact h123 ⟨t, by rw [e]⟩
    have hnm := namedR_fn HRW.out HA.out.tail hs
    obtain ⟨x, r, hxr⟩ : ∃ x r, name false l = (x, r) := ⟨_, _, rfl⟩
    have htx := name_text l false
    rw [hxr] at hnm htx hc hpo
    dsimp only at hpo
    rw [hxr] at hxn
    dsimp only at hxn
    dsimp only at hc
    dsimp only at hnm htx
    have hll : l.length = x.length + r.length := by rw [htx]; simp
    obtain ⟨en, hen⟩ : ∃ en, en = i + 1 + x.length := ⟨_, rfl⟩
    have hnm2 : Calls Tryz.prog 74 #[.pointer (some ⟨rb, 0, none⟩), .int .i64 ((i : Int) + 1)] W fun e w' => e = .returned (.int .i64 (en : Nat)) ∧ w' = W := by
      rw [show s.length - r.length = en by omega] at hnm
      exact hnm
    have HNM := hid hnm2
    have HXR := hid hxr
    have HTX := hid htx
    have HEN := hid hen
    have hen1 : i + 1 ≤ en := by omega
    have hen2 : en ≤ s.length := by omega
    clear hnm hnm2 hxr htx hen
    have pre : (decide ((i : Int) + 1 < (s.length : Int)) = false) ∨ (i + 1 < s.length ∧ ∃ c, (∀ h', (⟨s.toArray⟩ : ByteArray)[i + 1]'h' = c) ∧ ((c.toNat : Int) == 123) = false) := by
      cases l with
      | nil => left; simp at hlen; rw [decide_eq_false]; omega
      | cons c t =>
        right
        simp only [List.length_cons] at hlen
        refine ⟨by omega, c, HA.out.tail.byte, byte_ne 123 (fun e => h123 ⟨t, by rw [e]⟩) rfl⟩
    by_cases hx : x = []
    · exact absurd hx hxn
    · have hne : ((en : Int) == (i : Int) + 1) = false := by
        rw [beq_eq_false_iff_ne]
        have h1 := HEN.out
        have h2 : 0 < x.length := List.length_pos_iff.2 hx
        omega
      have hext : (⟨s.toArray⟩ : ByteArray).extract (i + 1) en = ⟨x.toArray⟩ := by
        have h1 := HA.out.tail
        rw [HTX.out] at h1
        rw [HEN.out]
        exact h1.text
      have hatr : At s r en := by
        have h1 := HA.out.tail
        rw [HTX.out] at h1
        rw [HEN.out]
        exact h1.app
      have HATR := hid hatr
      clear hatr
      by_cases h40 : ∃ t, r = 40 :: t
      · obtain ⟨t', htr⟩ := h40
        obtain ⟨ts, ch3, r'', hpo⟩ := hpo t' htr
        have HXR2 := hid (show name false l = (x, 40 :: t') by rw [← htr]; exact HXR.out)
        have HAT2 := hid (show At s (40 :: t') en by rw [← htr]; exact HATR.out)
        have hq := HAT2.out.lt
        have hq2 : decide (s.length ≤ en) = false := by rw [decide_eq_false]; omega
        have hx2 := HAT2.out.byte
        have hhd' : l.head? ≠ some 123 := by simpa using hhd
        · have hdd : ¬ ((d : Int) + 1 > 100) := by omega
          rcases pre with hp | ⟨hp, c, hx1, hc1⟩
          · go_enter Tryz.func38, Tryz.ntmps38
            go_wp2_with fail
            rw [← HW.out, ← HN.out]
            (with_reducible refine HNM.out.mono ?_); rintro e W1 ⟨rfl, hw1⟩; subst W1
            clear c0 c1 c2 c3 c4
            obtain ⟨c0, c1, c2, c3, c4⟩ := HRW.out.cells
            go_upto_region 10 with fail
            refine at_world fun W2 hW2 => ?_
            have hr2 : RrAt W2 rb s d g := by rw [hW2]; exact HRW.out.below (below1 _ _)
            have hv2 : VB rb N s w W2 #[.int .i64 0, .string ⟨#[]⟩, .bool false, .slice none 0 0] := by rw [hW2]; exact HVW.out.below (below1 _ _)
            obtain ⟨q, hq0⟩ : ∃ q, q = W.heap.size := ⟨_, rfl⟩
            have ht2 : W2.heap[q]? = some (.cells #[.int .i64 2, .string ⟨x.toArray⟩, .bool false, .slice none 0 0] 33 (0, 0)) := by rw [hW2, hq0]; exact heap_alloc_new _ _
            have hqN : q = N + 1 + 1 := by rw [hq0]; exact HWS.out
            rw [← hq0]
            have HK2 := hid (VK.mk (x := x) (b := false) (v := .slice none 0 0) hr2 hv2 ht2)
            have HQN := hid hqN
            clear hW2 hr2 hv2 ht2 hqN hq0 c0 c1 c2 c3 c4
            obtain ⟨c0, c1, c2, c3, c4⟩ := HK2.out.rd.cells
            have z1 := HK2.out.rd.free 1
            obtain ⟨X, hXe⟩ : ∃ X, X = W2.setCell ⟨rb, 1, none⟩ (.int .i64 ((d : Int) + 1)) := ⟨_, rfl⟩
            have hX : VK rb N q s (d + 1) g w x false (.slice none 0 0) X := by rw [hXe]; exact HK2.out.setrb hrbN _ (by go_num)
            have hcall : Calls Tryz.prog 33 #[.pointer (some ⟨rb, 0, none⟩), .int .i64 ((en : Int) + 1), .int .u8 41, .bool false] X _ := IH.out t' (by rw [htr] at hll; simp at hll; omega) X rb s (en + 1) false hs (by omega) hX.rd HAT2.out.tail (by intro wi e; cases e)
            have HX := hid hX
            have HXE := hid hXe
            have HC := hid hcall
            clear hX hcall hXe
            go_wp2_with fail
            rw [← HXE.out]
            (with_reducible refine HC.out.mono ?_); intro e W3 h3
            clear c0 c1 c2 c3 c4 z1
            have hXs := HX.out.vb.size
            have hqX : q < X.heap.size := (Array.getElem?_eq_some_iff.1 HX.out.tk).1
            rw [hpo] at h3
            obtain ⟨v, rfl, hrd, htk, hbut⟩ := h3
            obtain ⟨va, vn, vc, rfl⟩ : ∃ a n c, v = .slice a n c := by
              obtain ⟨a, cap, hv, _⟩ := RowIs.cell htk
              exact ⟨a, _, cap, hv⟩
            have hv3 := HX.out.vb.call hrbN hbut
            have hk3 : VK rb N q s (d + 1) g w x false (.slice none 0 0) W3 := ⟨hrd, hv3, (hbut.block q hqX (by have := HQN.out; omega)).trans HX.out.tk⟩
            have HK3 := hid hk3
            have HTK := hid htk
            have hs3 := hbut.size
            have hltr : rb < W3.heap.size := by omega
            have hltN : N < W3.heap.size := by omega
            have hltN1 : N + 1 < W3.heap.size := by omega
            have hltq : q < W3.heap.size := by omega
            have hrs := (parts_ok .paren g (d + 1) t' ts _ hpo).1.length_le
            have hlenA := HAT2.out.len
            simp only [List.length_cons] at hlenA
            clear hv3 hk3 hbut htk
            have hR2 : R = .ok (some (.mk 2 x true (filled ts))) r'' := by rw [HR.out, varOf_index hhd' HXR2.out hx, if_neg (by simpa [maxDeep] using hd100), hpo]
            have HR2 := hid hR2
            clear hR2 hpo
            simp only [List.length_cons] at hrs
            obtain ⟨e3, he3⟩ : ∃ e3, e3 = s.length - (r''.length + 1) := ⟨_, rfl⟩
            have hE : endI .paren s.length (ch3 :: r'') = (e3 : Int) := by rw [he3]; rfl
            rw [hE]
            have he4 : s.length - r''.length = e3 + 1 := by omega
            have he5 : e3 < s.length := by omega
            have HE4 := hid he4
            have hk0 : decide ((e3 : Int) < 0) = false := by rw [decide_eq_false]; omega
            have hwr : IntKind.i64.wrap ((e3 : Int) + 1) = (e3 : Int) + 1 := IntWalk.i64_in _ (by omega)
            clear hE he3 he4
            obtain ⟨c0, c1, c2, c3, c4⟩ := HK3.out.rd.cells
            have z1 := HK3.out.rd.free 1
            go_upto_region 21 with fail
            refine at_world fun W4 hW4 => ?_
            have hqq : rb ≠ q := by have := HQN.out; omega
            have hk4 : VK rb N q s d g w x false (.slice none 0 0) W4 := by rw [hW4]; exact (HK3.out.setrb hrbN _ (by go_num)).below (below1 _ _)
            have ht4 : ToksIs 33 W4 (New X.heap.size) (.slice va vn vc) ts := by
              have hy := HTK.out.keep (w' := W3.setCell ⟨rb, 1, none⟩ (.int .i64 (d : Int))) (fun _ h => h) (fun g hg => Below.heap_setCell _ _ _ _ (fun e => by have hg2 : X.heap.size ≤ g := hg; have e2 : g = rb := e; omega))
              rw [hW4]
              exact hy.fwd (below1 _ _)
            have hs4 : W3.heap.size + 1 = W4.heap.size := by rw [hW4]; simp [World.setCell]
            obtain ⟨Z, hZ⟩ : ∃ Z, Z = W4.setCell ⟨q, 2, none⟩ (.bool true) := ⟨_, rfl⟩
            have hqN2 : N + 1 < q := by have := HQN.out; omega
            have hkZ : VK rb N q s d g w x true (.slice none 0 0) Z := by rw [hZ]; exact hk4.setq2 hqN2
            have htZ : ToksIs 33 Z (New X.heap.size) (.slice va vn vc) ts := by
              rw [hZ]
              exact ht4.keep (fun _ h => h) (fun g hg => Below.heap_setCell _ _ _ _ (fun e => by have hg2 : X.heap.size ≤ g := hg; have e2 : g = q := e; omega))
            have hsZ : Z.heap.size = W4.heap.size := by rw [hZ]; simp [World.setCell]
            have hfil := filledR_fn (.slice va vn vc) ts (w := Z) (ok := New X.heap.size) (fun g hg => show X.heap.size ≤ g by omega) htZ
            have HK4 := hid hk4
            have HKZ := hid hkZ
            have HZE := hid hZ
            have HF := hid hfil
            clear hW4 hk4 ht4 hZ hkZ htZ hfil hrd c0 c1 c2 c3 c4 z1
            obtain ⟨q0, q1, q2, q3⟩ := HK4.out.qc
            have y2 : W4.frozen? ⟨q, 2, none⟩ = false := Lib.frozen_of_heap HK4.out.tk _
            have hlq4 : q < W4.heap.size := (Array.getElem?_eq_some_iff.1 HK4.out.tk).1
            go_wp2_with fail
            rw [← HZE.out]
            (with_reducible refine HF.out.mono ?_); rintro e W5 ⟨v5, rfl, ht5, hb5⟩
            obtain ⟨fa, fn, fc, rfl⟩ : ∃ a n c, v5 = .slice a n c := by
              obtain ⟨a, cap, hv, _⟩ := RowIs.cell ht5
              exact ⟨a, _, cap, hv⟩
            have hk5 := HKZ.out.below hb5
            have HK5 := hid hk5
            have HT5 := hid ht5
            clear q0 q1 q2 q3 y2 hlq4 hk5 ht5 hb5
            obtain ⟨q0, q1, q2, q3⟩ := HK5.out.qc
            have y3 : W5.frozen? ⟨q, 3, none⟩ = false := Lib.frozen_of_heap HK5.out.tk _
            have hlq5 : q < W5.heap.size := (Array.getElem?_eq_some_iff.1 HK5.out.tk).1
            go_upto_region 23 with fail
            refine at_world fun W6 hW6 => ?_
            have hk6 : VK rb N q s d g w x true (.slice fa fn fc) W6 := by rw [hW6]; exact HK5.out.setq3 hqN2
            have ht6 : ToksIs 33 W6 (New X.heap.size) (.slice fa fn fc) (filled ts) := by
              rw [hW6]
              exact HT5.out.keep (fun _ h => h) (fun g hg => Below.heap_setCell _ _ _ _ (fun e => by have hg2 : X.heap.size ≤ g := hg; have e2 : g = q := e; omega))
            have HK6 := hid hk6
            have HT6 := hid ht6
            clear hW6 hk6 ht6 q0 q1 q2 q3 y3 hlq5
            obtain ⟨c0, c1, c2, c3, c4⟩ := HK6.out.rd.cells
            obtain ⟨q0, q1, q2, q3⟩ := HK6.out.qc
            obtain ⟨⟨a0, a1, a2, a3⟩, ⟨b0, b1, b2⟩, hfz⟩ := HK6.out.vb.facts
            have f0 := (hfz 0).1
            have f1 := (hfz 1).1
            have f2 := (hfz 2).1
            have f3 := (hfz 3).1
            have g0 := (hfz 0).2
            have g1 := (hfz 1).2
            have g2 := (hfz 2).2
            clear hfz
            go_wp2
            refine U_begin (late := fun i => decide (5 ≤ i)) (S := fun u => u.cell? ⟨q, 0, none⟩ = some (.int .i64 2) ∧ u.cell? ⟨q, 1, none⟩ = some (.string ⟨x.toArray⟩) ∧ u.cell? ⟨q, 2, none⟩ = some (.bool true) ∧ u.cell? ⟨q, 3, none⟩ = some (.slice fa fn fc)) (by kernel_rfl) ?_
            have S0 := hid HK6.out.drew.qc
            refine U_take2 8 (i := 0) (v := .agg #[.int .i64 2, .string ⟨x.toArray⟩, .bool true, .slice fa fn fc]) rfl (by kernel_rfl) (by kernel_rfl) (by kernel_rfl) (by kernel_rfl) (by kernel_rfl) (fun _ _ _ h => h) (.inl ⟨rfl, fun u hu => (by obtain ⟨h1, h2, h3, h4⟩ := hu; go_simp)⟩) S0.out ?_
            refine U_take2 8 (i := 1) (v := .int .i64 (e3 : Nat)) rfl (by kernel_rfl) (by kernel_rfl) (by kernel_rfl) (by kernel_rfl) (by kernel_rfl) (fun _ _ _ h => h) (.inl ⟨rfl, fun u hu => (by go_simp)⟩) S0.out ?_
            refine U_take2 8 (i := 2) (v := .int .i64 ((e3 : Int) + 1)) rfl (by kernel_rfl) (by kernel_rfl) (by kernel_rfl) (by kernel_rfl) (by kernel_rfl) (fun _ _ _ h => h) (.inl ⟨rfl, fun u hu => (by go_simp)⟩) S0.out ?_
            refine U_step (j := 3) (by kernel_rfl) rfl (fun K hK => ?_)
            go_simp
            (with_reducible refine (hfn _).out.mono ?_); rintro e W7 ⟨rfl, hW7⟩
            have HK7 := hid (show VK rb N q s d g w x true (.slice fa fn fc) W7 by rw [hW7]; exact HK6.out.drew.below (below1 _ _))
            have HT7 := hid (show ToksIs 33 W7 (New X.heap.size) (.slice fa fn fc) (filled ts) by rw [hW7]; exact ToksIs.fwd (HT6.out.keep (w' := W6.drew) (fun _ h => h) (fun _ _ => rfl)) (below1 _ _))
            clear hW7
            have hq3 := HK7.out.qc
            refine hK.out _ _ (.inr hq3) ?_
            clear hK K hq3 c0 c1 c2 c3 c4 q0 q1 q2 q3 a0 a1 a2 a3 b0 b1 b2 f0 f1 f2 f3 g0 g1 g2
            obtain ⟨⟨a0, a1, a2, a3⟩, ⟨b0, b1, b2⟩, hfz⟩ := HK7.out.vb.facts
            have f0 := (hfz 0).1
            have f1 := (hfz 1).1
            have f2 := (hfz 2).1
            have f3 := (hfz 3).1
            have g0 := (hfz 0).2
            have g1 := (hfz 1).2
            have g2 := (hfz 2).2
            clear hfz
            refine U_step (j := 4) (by kernel_rfl) rfl (fun K hK => ?_)
            go_simp
            have hqq : q ≠ N := by have := HQN.out; omega
            refine hK.out _ _ (.inr ?_) ?_
            · have he : ((((W7.setCell ⟨N, 0, none⟩ (.int .i64 2)).setCell ⟨N, 1, none⟩ (.string ⟨x.toArray⟩)).setCell ⟨N, 2, none⟩ (.bool true)).setCell ⟨N, 3, none⟩ (.slice fa fn fc)).heap[q]? = W7.heap[q]? := by
                rw [Below.heap_setCell _ _ _ _ (fun e => hqq e), Below.heap_setCell _ _ _ _ (fun e => hqq e), Below.heap_setCell _ _ _ _ (fun e => hqq e), Below.heap_setCell _ _ _ _ (fun e => hqq e)]
              have he2 := he.trans HK7.out.tk
              exact ⟨by rw [Lib.cell_of_heap he2]; rfl, by rw [Lib.cell_of_heap he2]; rfl, by rw [Lib.cell_of_heap he2]; rfl, by rw [Lib.cell_of_heap he2]; rfl⟩
            clear hK K
            refine U_then (by kernel_rfl) ?_
            refine U_step (j := 5) (by kernel_rfl) rfl (fun K hK => ?_)
            go_simp
            refine hK.out _ _ (.inr trivial) ?_
            clear hK K
            refine U_step (j := 6) (by kernel_rfl) rfl (fun K hK => ?_)
            go_simp
            refine hK.out _ _ (.inr trivial) ?_
            clear hK K
            refine U_done (by kernel_rfl) ?_ _
            go_wp2
            obtain ⟨p1, p2, p3, p4⟩ := HK7.out.vb.put hrbN (.int .i64 2) (.string ⟨x.toArray⟩) (.bool true) (.slice fa fn fc) (.int .i64 0) (.int .i64 0) (.bool false)
            refine bodyPost_ret (results_ctc rfl _ rfl p1 Tryz.underlying33 rfl Tryz.infoT rfl p2 Tryz.underlying63 rfl Tryz.infoF) rfl ?_
            rw [HR2.out]
            refine ⟨_, ret_vii (by have := HE4.out; omega), (p4 rb (by omega) (by omega)).trans HK7.out.rd, HT7.out.keep (fun g hg => show w.heap.size ≤ g by have hg2 : X.heap.size ≤ g := hg; have := HN.out; omega) (fun g hg => p4 g (by have hg2 : X.heap.size ≤ g := hg; omega) (by have hg2 : X.heap.size ≤ g := hg; omega)), ?_⟩
            rw [← HN.out]
            exact p3
          · go_enter Tryz.func38, Tryz.ntmps38
            go_wp2_with fail
            rw [← HW.out, ← HN.out]
            (with_reducible refine HNM.out.mono ?_); rintro e W1 ⟨rfl, hw1⟩; subst W1
            clear c0 c1 c2 c3 c4
            obtain ⟨c0, c1, c2, c3, c4⟩ := HRW.out.cells
            go_upto_region 10 with fail
            refine at_world fun W2 hW2 => ?_
            have hr2 : RrAt W2 rb s d g := by rw [hW2]; exact HRW.out.below (below1 _ _)
            have hv2 : VB rb N s w W2 #[.int .i64 0, .string ⟨#[]⟩, .bool false, .slice none 0 0] := by rw [hW2]; exact HVW.out.below (below1 _ _)
            obtain ⟨q, hq0⟩ : ∃ q, q = W.heap.size := ⟨_, rfl⟩
            have ht2 : W2.heap[q]? = some (.cells #[.int .i64 2, .string ⟨x.toArray⟩, .bool false, .slice none 0 0] 33 (0, 0)) := by rw [hW2, hq0]; exact heap_alloc_new _ _
            have hqN : q = N + 1 + 1 := by rw [hq0]; exact HWS.out
            rw [← hq0]
            have HK2 := hid (VK.mk (x := x) (b := false) (v := .slice none 0 0) hr2 hv2 ht2)
            have HQN := hid hqN
            clear hW2 hr2 hv2 ht2 hqN hq0 c0 c1 c2 c3 c4
            obtain ⟨c0, c1, c2, c3, c4⟩ := HK2.out.rd.cells
            have z1 := HK2.out.rd.free 1
            obtain ⟨X, hXe⟩ : ∃ X, X = W2.setCell ⟨rb, 1, none⟩ (.int .i64 ((d : Int) + 1)) := ⟨_, rfl⟩
            have hX : VK rb N q s (d + 1) g w x false (.slice none 0 0) X := by rw [hXe]; exact HK2.out.setrb hrbN _ (by go_num)
            have hcall : Calls Tryz.prog 33 #[.pointer (some ⟨rb, 0, none⟩), .int .i64 ((en : Int) + 1), .int .u8 41, .bool false] X _ := IH.out t' (by rw [htr] at hll; simp at hll; omega) X rb s (en + 1) false hs (by omega) hX.rd HAT2.out.tail (by intro wi e; cases e)
            have HX := hid hX
            have HXE := hid hXe
            have HC := hid hcall
            clear hX hcall hXe
            go_wp2_with fail
            rw [← HXE.out]
            (with_reducible refine HC.out.mono ?_); intro e W3 h3
            clear c0 c1 c2 c3 c4 z1
            have hXs := HX.out.vb.size
            have hqX : q < X.heap.size := (Array.getElem?_eq_some_iff.1 HX.out.tk).1
            rw [hpo] at h3
            obtain ⟨v, rfl, hrd, htk, hbut⟩ := h3
            obtain ⟨va, vn, vc, rfl⟩ : ∃ a n c, v = .slice a n c := by
              obtain ⟨a, cap, hv, _⟩ := RowIs.cell htk
              exact ⟨a, _, cap, hv⟩
            have hv3 := HX.out.vb.call hrbN hbut
            have hk3 : VK rb N q s (d + 1) g w x false (.slice none 0 0) W3 := ⟨hrd, hv3, (hbut.block q hqX (by have := HQN.out; omega)).trans HX.out.tk⟩
            have HK3 := hid hk3
            have HTK := hid htk
            have hs3 := hbut.size
            have hltr : rb < W3.heap.size := by omega
            have hltN : N < W3.heap.size := by omega
            have hltN1 : N + 1 < W3.heap.size := by omega
            have hltq : q < W3.heap.size := by omega
            have hrs := (parts_ok .paren g (d + 1) t' ts _ hpo).1.length_le
            have hlenA := HAT2.out.len
            simp only [List.length_cons] at hlenA
            clear hv3 hk3 hbut htk
            have hR2 : R = .ok (some (.mk 2 x true (filled ts))) r'' := by rw [HR.out, varOf_index hhd' HXR2.out hx, if_neg (by simpa [maxDeep] using hd100), hpo]
            have HR2 := hid hR2
            clear hR2 hpo
            simp only [List.length_cons] at hrs
            obtain ⟨e3, he3⟩ : ∃ e3, e3 = s.length - (r''.length + 1) := ⟨_, rfl⟩
            have hE : endI .paren s.length (ch3 :: r'') = (e3 : Int) := by rw [he3]; rfl
            rw [hE]
            have he4 : s.length - r''.length = e3 + 1 := by omega
            have he5 : e3 < s.length := by omega
            have HE4 := hid he4
            have hk0 : decide ((e3 : Int) < 0) = false := by rw [decide_eq_false]; omega
            have hwr : IntKind.i64.wrap ((e3 : Int) + 1) = (e3 : Int) + 1 := IntWalk.i64_in _ (by omega)
            clear hE he3 he4
            obtain ⟨c0, c1, c2, c3, c4⟩ := HK3.out.rd.cells
            have z1 := HK3.out.rd.free 1
            go_upto_region 21 with fail
            refine at_world fun W4 hW4 => ?_
            have hqq : rb ≠ q := by have := HQN.out; omega
            have hk4 : VK rb N q s d g w x false (.slice none 0 0) W4 := by rw [hW4]; exact (HK3.out.setrb hrbN _ (by go_num)).below (below1 _ _)
            have ht4 : ToksIs 33 W4 (New X.heap.size) (.slice va vn vc) ts := by
              have hy := HTK.out.keep (w' := W3.setCell ⟨rb, 1, none⟩ (.int .i64 (d : Int))) (fun _ h => h) (fun g hg => Below.heap_setCell _ _ _ _ (fun e => by have hg2 : X.heap.size ≤ g := hg; have e2 : g = rb := e; omega))
              rw [hW4]
              exact hy.fwd (below1 _ _)
            have hs4 : W3.heap.size + 1 = W4.heap.size := by rw [hW4]; simp [World.setCell]
            obtain ⟨Z, hZ⟩ : ∃ Z, Z = W4.setCell ⟨q, 2, none⟩ (.bool true) := ⟨_, rfl⟩
            have hqN2 : N + 1 < q := by have := HQN.out; omega
            have hkZ : VK rb N q s d g w x true (.slice none 0 0) Z := by rw [hZ]; exact hk4.setq2 hqN2
            have htZ : ToksIs 33 Z (New X.heap.size) (.slice va vn vc) ts := by
              rw [hZ]
              exact ht4.keep (fun _ h => h) (fun g hg => Below.heap_setCell _ _ _ _ (fun e => by have hg2 : X.heap.size ≤ g := hg; have e2 : g = q := e; omega))
            have hsZ : Z.heap.size = W4.heap.size := by rw [hZ]; simp [World.setCell]
            have hfil := filledR_fn (.slice va vn vc) ts (w := Z) (ok := New X.heap.size) (fun g hg => show X.heap.size ≤ g by omega) htZ
            have HK4 := hid hk4
            have HKZ := hid hkZ
            have HZE := hid hZ
            have HF := hid hfil
            clear hW4 hk4 ht4 hZ hkZ htZ hfil hrd c0 c1 c2 c3 c4 z1
            obtain ⟨q0, q1, q2, q3⟩ := HK4.out.qc
            have y2 : W4.frozen? ⟨q, 2, none⟩ = false := Lib.frozen_of_heap HK4.out.tk _
            have hlq4 : q < W4.heap.size := (Array.getElem?_eq_some_iff.1 HK4.out.tk).1
            go_wp2_with fail
            rw [← HZE.out]
            (with_reducible refine HF.out.mono ?_); rintro e W5 ⟨v5, rfl, ht5, hb5⟩
            obtain ⟨fa, fn, fc, rfl⟩ : ∃ a n c, v5 = .slice a n c := by
              obtain ⟨a, cap, hv, _⟩ := RowIs.cell ht5
              exact ⟨a, _, cap, hv⟩
            have hk5 := HKZ.out.below hb5
            have HK5 := hid hk5
            have HT5 := hid ht5
            clear q0 q1 q2 q3 y2 hlq4 hk5 ht5 hb5
            obtain ⟨q0, q1, q2, q3⟩ := HK5.out.qc
            have y3 : W5.frozen? ⟨q, 3, none⟩ = false := Lib.frozen_of_heap HK5.out.tk _
            have hlq5 : q < W5.heap.size := (Array.getElem?_eq_some_iff.1 HK5.out.tk).1
            go_upto_region 23 with fail
            refine at_world fun W6 hW6 => ?_
            have hk6 : VK rb N q s d g w x true (.slice fa fn fc) W6 := by rw [hW6]; exact HK5.out.setq3 hqN2
            have ht6 : ToksIs 33 W6 (New X.heap.size) (.slice fa fn fc) (filled ts) := by
              rw [hW6]
              exact HT5.out.keep (fun _ h => h) (fun g hg => Below.heap_setCell _ _ _ _ (fun e => by have hg2 : X.heap.size ≤ g := hg; have e2 : g = q := e; omega))
            have HK6 := hid hk6
            have HT6 := hid ht6
            clear hW6 hk6 ht6 q0 q1 q2 q3 y3 hlq5
            obtain ⟨c0, c1, c2, c3, c4⟩ := HK6.out.rd.cells
            obtain ⟨q0, q1, q2, q3⟩ := HK6.out.qc
            obtain ⟨⟨a0, a1, a2, a3⟩, ⟨b0, b1, b2⟩, hfz⟩ := HK6.out.vb.facts
            have f0 := (hfz 0).1
            have f1 := (hfz 1).1
            have f2 := (hfz 2).1
            have f3 := (hfz 3).1
            have g0 := (hfz 0).2
            have g1 := (hfz 1).2
            have g2 := (hfz 2).2
            clear hfz
            go_wp2
            refine U_begin (late := fun i => decide (5 ≤ i)) (S := fun u => u.cell? ⟨q, 0, none⟩ = some (.int .i64 2) ∧ u.cell? ⟨q, 1, none⟩ = some (.string ⟨x.toArray⟩) ∧ u.cell? ⟨q, 2, none⟩ = some (.bool true) ∧ u.cell? ⟨q, 3, none⟩ = some (.slice fa fn fc)) (by kernel_rfl) ?_
            have S0 := hid HK6.out.drew.qc
            refine U_take2 8 (i := 0) (v := .agg #[.int .i64 2, .string ⟨x.toArray⟩, .bool true, .slice fa fn fc]) rfl (by kernel_rfl) (by kernel_rfl) (by kernel_rfl) (by kernel_rfl) (by kernel_rfl) (fun _ _ _ h => h) (.inl ⟨rfl, fun u hu => (by obtain ⟨h1, h2, h3, h4⟩ := hu; go_simp)⟩) S0.out ?_
            refine U_take2 8 (i := 1) (v := .int .i64 (e3 : Nat)) rfl (by kernel_rfl) (by kernel_rfl) (by kernel_rfl) (by kernel_rfl) (by kernel_rfl) (fun _ _ _ h => h) (.inl ⟨rfl, fun u hu => (by go_simp)⟩) S0.out ?_
            refine U_take2 8 (i := 2) (v := .int .i64 ((e3 : Int) + 1)) rfl (by kernel_rfl) (by kernel_rfl) (by kernel_rfl) (by kernel_rfl) (by kernel_rfl) (fun _ _ _ h => h) (.inl ⟨rfl, fun u hu => (by go_simp)⟩) S0.out ?_
            refine U_step (j := 3) (by kernel_rfl) rfl (fun K hK => ?_)
            go_simp
            (with_reducible refine (hfn _).out.mono ?_); rintro e W7 ⟨rfl, hW7⟩
            have HK7 := hid (show VK rb N q s d g w x true (.slice fa fn fc) W7 by rw [hW7]; exact HK6.out.drew.below (below1 _ _))
            have HT7 := hid (show ToksIs 33 W7 (New X.heap.size) (.slice fa fn fc) (filled ts) by rw [hW7]; exact ToksIs.fwd (HT6.out.keep (w' := W6.drew) (fun _ h => h) (fun _ _ => rfl)) (below1 _ _))
            clear hW7
            have hq3 := HK7.out.qc
            refine hK.out _ _ (.inr hq3) ?_
            clear hK K hq3 c0 c1 c2 c3 c4 q0 q1 q2 q3 a0 a1 a2 a3 b0 b1 b2 f0 f1 f2 f3 g0 g1 g2
            obtain ⟨⟨a0, a1, a2, a3⟩, ⟨b0, b1, b2⟩, hfz⟩ := HK7.out.vb.facts
            have f0 := (hfz 0).1
            have f1 := (hfz 1).1
            have f2 := (hfz 2).1
            have f3 := (hfz 3).1
            have g0 := (hfz 0).2
            have g1 := (hfz 1).2
            have g2 := (hfz 2).2
            clear hfz
            refine U_step (j := 4) (by kernel_rfl) rfl (fun K hK => ?_)
            go_simp
            have hqq : q ≠ N := by have := HQN.out; omega
            refine hK.out _ _ (.inr ?_) ?_
            · have he : ((((W7.setCell ⟨N, 0, none⟩ (.int .i64 2)).setCell ⟨N, 1, none⟩ (.string ⟨x.toArray⟩)).setCell ⟨N, 2, none⟩ (.bool true)).setCell ⟨N, 3, none⟩ (.slice fa fn fc)).heap[q]? = W7.heap[q]? := by
                rw [Below.heap_setCell _ _ _ _ (fun e => hqq e), Below.heap_setCell _ _ _ _ (fun e => hqq e), Below.heap_setCell _ _ _ _ (fun e => hqq e), Below.heap_setCell _ _ _ _ (fun e => hqq e)]
              have he2 := he.trans HK7.out.tk
              exact ⟨by rw [Lib.cell_of_heap he2]; rfl, by rw [Lib.cell_of_heap he2]; rfl, by rw [Lib.cell_of_heap he2]; rfl, by rw [Lib.cell_of_heap he2]; rfl⟩
            clear hK K
            refine U_then (by kernel_rfl) ?_
            refine U_step (j := 5) (by kernel_rfl) rfl (fun K hK => ?_)
            go_simp
            refine hK.out _ _ (.inr trivial) ?_
            clear hK K
            refine U_step (j := 6) (by kernel_rfl) rfl (fun K hK => ?_)
            go_simp
            refine hK.out _ _ (.inr trivial) ?_
            clear hK K
            refine U_done (by kernel_rfl) ?_ _
            go_wp2
            obtain ⟨p1, p2, p3, p4⟩ := HK7.out.vb.put hrbN (.int .i64 2) (.string ⟨x.toArray⟩) (.bool true) (.slice fa fn fc) (.int .i64 0) (.int .i64 0) (.bool false)
            refine bodyPost_ret (results_ctc rfl _ rfl p1 Tryz.underlying33 rfl Tryz.infoT rfl p2 Tryz.underlying63 rfl Tryz.infoF) rfl ?_
            rw [HR2.out]
            refine ⟨_, ret_vii (by have := HE4.out; omega), (p4 rb (by omega) (by omega)).trans HK7.out.rd, HT7.out.keep (fun g hg => show w.heap.size ≤ g by have hg2 : X.heap.size ≤ g := hg; have := HN.out; omega) (fun g hg => p4 g (by have hg2 : X.heap.size ≤ g := hg; omega) (by have hg2 : X.heap.size ≤ g := hg; omega)), ?_⟩
            rw [← HN.out]
            exact p3
      · exact absurd hc h40
end Go.Proofs.YtkgpmkkodpjdfaaGreatDoor.Pz
/-
  The reference 06: a variable with braces that are not closed.
-/
namespace Go.Proofs.YtkgpmkkodpjdfaaGreatDoor.Pz
open Go.RowKit
set_option maxRecDepth 100000 in
set_option maxHeartbeats 1000000 in
theorem variableR_E1 {g : Told} {d : Nat} {t : Str} (hu : upTo t = none) : VarRC g d (123 :: t) := by
  intro w rb s i hs hd h ha
  have hrb0 := h.lt
  have hil := ha.lt
  have hlen := ha.len
  simp only [List.length_cons] at hlen
  have hsz : (⟨s.toArray⟩ : ByteArray).size = s.length := Lib.size_mk _
  obtain ⟨N, hN⟩ : ∃ N, N = w.heap.size := ⟨_, rfl⟩
  obtain ⟨R, hR⟩ : ∃ R, R = varOf g d (123 :: t) := ⟨_, rfl⟩
  rw [← hR]
  have HR := hid hR
  have HN := hid hN
  have HA := hid ha
  obtain ⟨W, hW⟩ : ∃ W, W = (w.alloc (.cells #[.int .i64 0, .string ⟨#[]⟩, .bool false, .slice none 0 0] 33)).alloc (.cells #[.int .i64 0, .int .i64 0, .bool false] 63) := ⟨_, rfl⟩
  have hrW : RrAt W rb s d g := by rw [hW]; exact h.below (below2 _ _ _)
  have hvW : VB rb N s w W #[.int .i64 0, .string ⟨#[]⟩, .bool false, .slice none 0 0] := by
    have hn := new2 w (.cells #[.int .i64 0, .string ⟨#[]⟩, .bool false, .slice none 0 0] 33) (.cells #[.int .i64 0, .int .i64 0, .bool false] 63)
    rw [hW, hN]
    exact ⟨hn.1, hn.2, but_of_below (below2 w _ _) rb⟩
  have hWs : W.heap.size = N + 1 + 1 := by rw [hW, hN]; simp
  have hrbN : rb < N := by omega
  obtain ⟨c0, c1, c2, c3, c4⟩ := h.cells
  have hrb1 : rb < w.heap.size + 1 := by omega
  have HW := hid hW
  have HRW := hid hrW
  have HVW := hid hvW
  have HWS := hid hWs
  clear hR h ha hW hrW hvW hWs hN
  have hfn := fun u => hid (fine_fn u)
  have hp : i + 1 < s.length := HA.out.tail.lt
  have hx1 := HA.out.tail.byte
  have hR2 : R = .halt (.lacks (t.length + 1 + 1)) := by rw [HR.out, varOf, if_pos (by simp), List.tail_cons, hu]; rfl
  have hfi : firstI [125] ((i : Int) + 2) 0 s = -1 := by rw [first_brace HA.out, hu]
  have HR2 := hid hR2
  have hfs : Calls Tryz.prog 73 #[.string ⟨#[125]⟩, .string ⟨s.toArray⟩, .int .i64 ((i : Int) + 2)] W fun e w' => e = .returned (.int .i64 (-1)) ∧ w' = W := by
    have := first_fn [125] s ((i : Int) + 2) (by simp) (by omega) (by simp) W
    rw [hfi] at this
    exact this
  have HFS := hid hfs
  have hi2 : s.length - (t.length + 1 + 1) = i := by omega
  clear hfs hR2 hfi hu
  go_enter Tryz.func38, Tryz.ntmps38
  go_wp2_with fail
  rw [← HW.out, ← HN.out]
  (with_reducible refine HFS.out.mono ?_); rintro e W1 ⟨rfl, hw1⟩; subst W1
  clear c0 c1 c2 c3 c4
  obtain ⟨c0, c1, c2, c3, c4⟩ := HRW.out.cells
  obtain ⟨⟨a0, a1, a2, a3⟩, ⟨b0, b1, b2⟩, hfz⟩ := HVW.out.facts
  have f0 := (hfz 0).1
  have f1 := (hfz 1).1
  have f2 := (hfz 2).1
  have f3 := (hfz 3).1
  have g0 := (hfz 0).2
  have g1 := (hfz 1).2
  have g2 := (hfz 2).2
  clear hfz
  go_wp2
  obtain ⟨p1, p2, p3, p4⟩ := HVW.out.put hrbN (.int .i64 0) (.string ⟨#[]⟩) (.bool false) (.slice none 0 0) (.int .i64 2) (.int .i64 (i : Int)) (.bool true)
  refine bodyPost_ret (results_ctc rfl _ rfl p1 Tryz.underlying33 rfl Tryz.infoT rfl p2 Tryz.underlying63 rfl Tryz.infoF) rfl ?_
  rw [HR2.out]
  unfold VarRP
  dsimp only [faultC]
  rw [hi2]
  refine ⟨rfl, .inl ((p4 rb (by omega) (by omega)).trans HRW.out), ?_⟩
  rw [← HN.out]
  exact p3
end Go.Proofs.YtkgpmkkodpjdfaaGreatDoor.Pz
/-
  The reference 06: a variable with braces.
-/
namespace Go.Proofs.YtkgpmkkodpjdfaaGreatDoor.Pz
open Go.RowKit
set_option maxRecDepth 100000 in
set_option maxHeartbeats 1000000 in
theorem variableR_E2 {g : Told} {d : Nat} {t x r : Str} (hu : upTo t = some (x, r)) : VarRC g d (123 :: t) := by
  intro w rb s i hs hd h ha
  have hrb0 := h.lt
  have hil := ha.lt
  have hlen := ha.len
  simp only [List.length_cons] at hlen
  have hsz : (⟨s.toArray⟩ : ByteArray).size = s.length := Lib.size_mk _
  obtain ⟨N, hN⟩ : ∃ N, N = w.heap.size := ⟨_, rfl⟩
  obtain ⟨R, hR⟩ : ∃ R, R = varOf g d (123 :: t) := ⟨_, rfl⟩
  rw [← hR]
  have HR := hid hR
  have HN := hid hN
  have HA := hid ha
  obtain ⟨W, hW⟩ : ∃ W, W = (w.alloc (.cells #[.int .i64 0, .string ⟨#[]⟩, .bool false, .slice none 0 0] 33)).alloc (.cells #[.int .i64 0, .int .i64 0, .bool false] 63) := ⟨_, rfl⟩
  have hrW : RrAt W rb s d g := by rw [hW]; exact h.below (below2 _ _ _)
  have hvW : VB rb N s w W #[.int .i64 0, .string ⟨#[]⟩, .bool false, .slice none 0 0] := by
    have hn := new2 w (.cells #[.int .i64 0, .string ⟨#[]⟩, .bool false, .slice none 0 0] 33) (.cells #[.int .i64 0, .int .i64 0, .bool false] 63)
    rw [hW, hN]
    exact ⟨hn.1, hn.2, but_of_below (below2 w _ _) rb⟩
  have hWs : W.heap.size = N + 1 + 1 := by rw [hW, hN]; simp
  have hrbN : rb < N := by omega
  obtain ⟨c0, c1, c2, c3, c4⟩ := h.cells
  have hrb1 : rb < w.heap.size + 1 := by omega
  have HW := hid hW
  have HRW := hid hrW
  have HVW := hid hvW
  have HWS := hid hWs
  clear hR h ha hW hrW hvW hWs hN
  have hfn := fun u => hid (fine_fn u)
  have hp : i + 1 < s.length := HA.out.tail.lt
  have hx1 := HA.out.tail.byte
  have hR2 : R = .ok (some (.mk 2 x false [])) r := by rw [HR.out, varOf, if_pos (by simp), List.tail_cons, hu]
  have hut := upTo_text t x r hu
  obtain ⟨kk, hkk⟩ : ∃ kk, kk = i + 2 + x.length := ⟨_, rfl⟩
  have hfi : firstI [125] ((i : Int) + 2) 0 s = (kk : Nat) := by rw [first_brace HA.out, hu, hkk]
  have HR2 := hid hR2
  have hfs : Calls Tryz.prog 73 #[.string ⟨#[125]⟩, .string ⟨s.toArray⟩, .int .i64 ((i : Int) + 2)] W fun e w' => e = .returned (.int .i64 (kk : Nat)) ∧ w' = W := by
    have := first_fn [125] s ((i : Int) + 2) (by simp) (by omega) (by simp) W
    rw [hfi] at this
    exact this
  have HFS := hid hfs
  have hext : (⟨s.toArray⟩ : ByteArray).extract (i + 2) kk = ⟨x.toArray⟩ := by
    have h1 := HA.out.tail.tail
    rw [hut] at h1
    have h2 := h1.text
    rw [show i + 2 = i + 1 + 1 from rfl, hkk]
    exact h2
  have hlen2 : t.length = x.length + (r.length + 1) := by rw [hut]; simp
  have hk1 : i + 2 ≤ kk := by omega
  have hk2 : kk + (r.length + 1) = s.length := by omega
  have hk0 : decide ((kk : Int) < 0) = false := by rw [decide_eq_false]; omega
  have hw1 : IntKind.i64.wrap ((kk : Int) + 1) = (kk : Int) + 1 := IntWalk.i64_in _ (by omega)
  have hw2 : IntKind.i64.wrap ((i : Int) + 2) = (i : Int) + 2 := IntWalk.i64_in _ (by omega)
  have hk3 : kk ≤ s.length := by omega
  clear hfs hR2 hfi hu hut hkk hlen hlen2
  go_enter Tryz.func38, Tryz.ntmps38
  go_wp2_with fail
  rw [← HW.out, ← HN.out]
  (with_reducible refine HFS.out.mono ?_); rintro e W1 ⟨rfl, hw1⟩; subst W1
  clear c0 c1 c2 c3 c4
  obtain ⟨c0, c1, c2, c3, c4⟩ := HRW.out.cells
  obtain ⟨⟨a0, a1, a2, a3⟩, ⟨b0, b1, b2⟩, hfz⟩ := HVW.out.facts
  have f0 := (hfz 0).1
  have f1 := (hfz 1).1
  have f2 := (hfz 2).1
  have f3 := (hfz 3).1
  have g0 := (hfz 0).2
  have g1 := (hfz 1).2
  have g2 := (hfz 2).2
  clear hfz
  go_wp2
  refine U_begin (late := fun i => decide (13 ≤ i)) (S := fun u => u.cell? ⟨rb, 0, none⟩ = some (.string ⟨s.toArray⟩)) (by kernel_rfl) ?_
  have S0 := hid (show W.drew.cell? ⟨rb, 0, none⟩ = some (.string ⟨s.toArray⟩) from c0)
  refine U_take2 18 (i := 0) (v := .pointer (some ⟨rb, 0, none⟩)) rfl (by kernel_rfl) (by kernel_rfl) (by kernel_rfl) (by kernel_rfl) (by kernel_rfl) (fun _ _ _ h => h) (.inl ⟨rfl, fun u hu => (by go_simp)⟩) S0.out ?_
  refine U_take2 18 (i := 1) (v := .pointer (some ⟨rb, 0, none⟩)) rfl (by kernel_rfl) (by kernel_rfl) (by kernel_rfl) (by kernel_rfl) (by kernel_rfl) (fun _ _ _ h => h) (.inl ⟨rfl, fun u hu => (by go_simp)⟩) S0.out ?_
  refine U_take2 18 (i := 2) (v := .pointer (some ⟨rb, 0, none⟩)) rfl (by kernel_rfl) (by kernel_rfl) (by kernel_rfl) (by kernel_rfl) (by kernel_rfl) (fun _ _ _ h => h) (.inl ⟨rfl, fun u hu => (by go_simp)⟩) S0.out ?_
  refine U_take2 18 (i := 3) (v := .string ⟨s.toArray⟩) rfl (by kernel_rfl) (by kernel_rfl) (by kernel_rfl) (by kernel_rfl) (by kernel_rfl) (fun _ _ _ h => h) (.inl ⟨rfl, fun u hu => (by have h1 := hu; go_simp)⟩) S0.out ?_
  refine U_take2 18 (i := 4) (v := .int .i64 (i : Nat)) rfl (by kernel_rfl) (by kernel_rfl) (by kernel_rfl) (by kernel_rfl) (by kernel_rfl) (fun _ _ _ h => h) (.inl ⟨rfl, fun u hu => (by go_simp)⟩) S0.out ?_
  refine U_take2 18 (i := 5) (v := .int .i64 ((i : Int) + 2)) rfl (by kernel_rfl) (by kernel_rfl) (by kernel_rfl) (by kernel_rfl) (by kernel_rfl) (fun _ _ _ h => h) (.inl ⟨rfl, fun u hu => (by go_simp)⟩) S0.out ?_
  refine U_take2 18 (i := 6) (v := .int .i64 (kk : Nat)) rfl (by kernel_rfl) (by kernel_rfl) (by kernel_rfl) (by kernel_rfl) (by kernel_rfl) (fun _ _ _ h => h) (.inl ⟨rfl, fun u hu => (by go_simp)⟩) S0.out ?_
  refine U_take2 18 (i := 7) (v := .string ⟨x.toArray⟩) rfl (by kernel_rfl) (by kernel_rfl) (by kernel_rfl) (by kernel_rfl) (by kernel_rfl) (fun _ _ _ h => h) (.inl ⟨rfl, fun u hu => (by go_simp; rw [if_pos ⟨by omega, by omega⟩, show ((i : Int) + 2).toNat = i + 2 by omega, hext])⟩) S0.out ?_
  refine U_take2 18 (i := 8) (v := .agg #[.int .i64 2, .string ⟨x.toArray⟩, .bool false, .slice none 0 0]) rfl (by kernel_rfl) (by kernel_rfl) (by kernel_rfl) (by kernel_rfl) (by kernel_rfl) (fun _ _ _ h => h) (.inl ⟨rfl, fun u hu => (by go_simp)⟩) S0.out ?_
  refine U_take2 18 (i := 9) (v := .int .i64 (kk : Nat)) rfl (by kernel_rfl) (by kernel_rfl) (by kernel_rfl) (by kernel_rfl) (by kernel_rfl) (fun _ _ _ h => h) (.inl ⟨rfl, fun u hu => (by go_simp)⟩) S0.out ?_
  refine U_take2 18 (i := 10) (v := .int .i64 ((kk : Int) + 1)) rfl (by kernel_rfl) (by kernel_rfl) (by kernel_rfl) (by kernel_rfl) (by kernel_rfl) (fun _ _ _ h => h) (.inl ⟨rfl, fun u hu => (by go_simp)⟩) S0.out ?_
  refine U_step (j := 11) (by kernel_rfl) rfl (fun K hK => ?_)
  go_simp
  (with_reducible refine (hfn _).out.mono ?_); rintro e W3 ⟨rfl, hW3⟩
  have HR3 := hid (show RrAt W3 rb s d g by rw [hW3]; exact RrAt.below (w := W.drew) HRW.out (below1 _ _))
  have HV3 := hid (show VB rb N s w W3 #[.int .i64 0, .string ⟨#[]⟩, .bool false, .slice none 0 0] by rw [hW3]; exact (HVW.out.drewN 1).below (below1 _ _))
  clear hW3
  refine hK.out _ _ (.inr HR3.out.cells.1) ?_
  clear hK K c0 c1 c2 c3 c4 a0 a1 a2 a3 b0 b1 b2 f0 f1 f2 f3 g0 g1 g2
  obtain ⟨⟨a0, a1, a2, a3⟩, ⟨b0, b1, b2⟩, hfz⟩ := HV3.out.facts
  have f0 := (hfz 0).1
  have f1 := (hfz 1).1
  have f2 := (hfz 2).1
  have f3 := (hfz 3).1
  have g0 := (hfz 0).2
  have g1 := (hfz 1).2
  have g2 := (hfz 2).2
  clear hfz
  refine U_step (j := 12) (by kernel_rfl) rfl (fun K hK => ?_)
  go_simp
  have hqq : rb ≠ N := by omega
  refine hK.out _ _ (.inr ?_) ?_
  · have he : ((((W3.setCell ⟨N, 0, none⟩ (.int .i64 2)).setCell ⟨N, 1, none⟩ (.string ⟨x.toArray⟩)).setCell ⟨N, 2, none⟩ (.bool false)).setCell ⟨N, 3, none⟩ (.slice none 0 0)).heap[rb]? = W3.heap[rb]? := by
      rw [Below.heap_setCell _ _ _ _ (fun e => hqq e), Below.heap_setCell _ _ _ _ (fun e => hqq e), Below.heap_setCell _ _ _ _ (fun e => hqq e), Below.heap_setCell _ _ _ _ (fun e => hqq e)]
    have he2 := he.trans HR3.out
    rw [Lib.cell_of_heap he2]; rfl
  clear hK K
  refine U_then (by kernel_rfl) ?_
  refine U_step (j := 13) (by kernel_rfl) rfl (fun K hK => ?_)
  go_simp
  refine hK.out _ _ (.inr trivial) ?_
  clear hK K
  refine U_step (j := 14) (by kernel_rfl) rfl (fun K hK => ?_)
  go_simp
  refine hK.out _ _ (.inr trivial) ?_
  clear hK K
  refine U_done (by kernel_rfl) ?_ _
  go_wp2
  obtain ⟨p1, p2, p3, p4⟩ := HV3.out.put hrbN (.int .i64 2) (.string ⟨x.toArray⟩) (.bool false) (.slice none 0 0) (.int .i64 0) (.int .i64 0) (.bool false)
  refine bodyPost_ret (results_ctc rfl _ rfl p1 Tryz.underlying33 rfl Tryz.infoT rfl p2 Tryz.underlying63 rfl Tryz.infoF) rfl ?_
  rw [HR2.out]
  refine ⟨_, ret_vii (by omega), (p4 rb (by omega) (by omega)).trans HR3.out, RowIs.nil, ?_⟩
  rw [← HN.out]
  exact p3
end Go.Proofs.YtkgpmkkodpjdfaaGreatDoor.Pz
/-
  The reference 06: a variable is read as the reading says.
-/
namespace Go.Proofs.YtkgpmkkodpjdfaaGreatDoor.Pz
theorem variableR {g : Told} {d : Nat} {l : Str} (ih : ∀ l', l'.length < l.length → PartsRC .paren g (d + 1) l') : VarRC g d l := by
  by_cases hb : ∃ t, l = 123 :: t
  · obtain ⟨t, rfl⟩ := hb
    cases hu : upTo t with
    | none => exact variableR_E1 hu
    | some y => exact variableR_E2 (x := y.1) (r := y.2) hu
  · by_cases hxn : (name false l).1 = []
    · exact variableR_A ih hb (fun h => absurd hxn h)
    · by_cases hc : ∃ t, (name false l).2 = 40 :: t
      · by_cases hd : d = 100
        · exact variableR_B ih hb hxn hc hd
        · obtain ⟨t, ht⟩ := hc
          cases hp : parts .paren g (d + 1) t with
          | halt hh => exact variableR_C1 ih hb hxn ⟨t, ht⟩ hd (fun t' e => by rw [ht] at e; injection e with _ e; subst e; exact ⟨hh, hp⟩)
          | ok ts r =>
            cases r with
            | nil => exact variableR_C2 ih hb hxn ⟨t, ht⟩ hd (fun t' e => by rw [ht] at e; injection e with _ e; subst e; exact ⟨ts, hp⟩)
            | cons c r => exact variableR_C3 ih hb hxn ⟨t, ht⟩ hd (fun t' e => by rw [ht] at e; injection e with _ e; subst e; exact ⟨ts, c, r, hp⟩)
      · exact variableR_A ih hb (fun _ => hc)
end Go.Proofs.YtkgpmkkodpjdfaaGreatDoor.Pz
