/-
  What is done with one number, with two numbers.
-/
import Derived.Test.YtkhgoeippamobaaGreatDoorParseFn
namespace Go.Proofs.YtkhgoeippamobaaGreatDoor
open Go.RowKit
/-- a number that an operation made, too long or not -/
def RNum (w : World) (v : Value) (z : Int) : Prop := ∃ n neg lg, NumV w v n neg lg ∧ (lg = false → n = z.natAbs ∧ neg = decide (z < 0)) ∧ (lg = true → big600 ≤ z.natAbs) ∧ nlen n ≤ 1000000
theorem RNum.of_int {w : World} {v : Value} {z : Int} (h : IntV w v z) (hl : nlen z.natAbs ≤ 1000000) : RNum w v z := ⟨_, _, _, h, fun _ => ⟨rfl, rfl⟩, (fun h => by cases h), hl⟩
theorem result_r {v : Value} {z : Int} {w : World} (h : RNum w v z) :
    Calls Tryz.prog 123 #[v] w fun e w' => e = .returned (.tuple #[.string ⟨(resOf z).1.toArray⟩, .int .i64 (resOf z).2]) ∧ Below w.heap.size w w' := by
  obtain ⟨n, neg, lg, h, h1, h2, h3⟩ := h
  cases lg with
  | false =>
    obtain ⟨rfl, rfl⟩ := h1 rfl
    exact result_int h h3
  | true =>
    have hr : resOf z = ([], 4) := by
      unfold resOf
      rw [if_neg (by have := h2 rfl; omega)]
    rw [hr]
    exact result_long h
theorem never_fn {v : Value} {n : Nat} {neg lg : Bool} {w : World} (hv : NumV w v n neg lg) : Calls Tryz.prog 60 #[v] w fun e w' => e = .returned (.int .i64 0) ∧ Below w.heap.size w w' := by
  obtain ⟨s, rfl, h⟩ := hv
  obtain ⟨a, cap, rfl⟩ := h.shape
  go_enter Tryz.func60, Tryz.ntmps60
  go_wp2
  go_ret
  exact ⟨rfl, (Below.refl _ _).alloc (Nat.le_refl _) _⟩
theorem neither_fn {v u : Value} {n m : Nat} {neg lg neg' lg' : Bool} {w : World} (hv : NumV w v n neg lg) (hu : NumV w u m neg' lg') : Calls Tryz.prog 55 #[v, u] w fun e w' => e = .returned (.int .i64 0) ∧ Below w.heap.size w w' := by
  obtain ⟨s, rfl, h⟩ := hv
  obtain ⟨a, cap, rfl⟩ := h.shape
  obtain ⟨s', rfl, h'⟩ := hu
  obtain ⟨a', cap', rfl⟩ := h'.shape
  go_enter Tryz.func55, Tryz.ntmps55
  go_wp2
  go_ret
  exact ⟨rfl, ((Below.refl _ _).alloc (Nat.le_refl _) _).alloc (by simp) _⟩
theorem PNumO.shape {w : World} {base : Nat} {v : Value} {z : Int} (h : PNumO w base v z) : ∃ a n c, v = .agg #[.slice a n c, .bool (decide (z < 0)), .bool (decide (big600 ≤ z.natAbs))] := by
  obtain ⟨s, n, lg, rfl, h1, h2, rfl, h4⟩ := h
  obtain ⟨a, c, rfl⟩ := h1.shape
  exact ⟨a, _, c, rfl⟩
/-- what 'one' answers: s the text, pe the problem, z the number that is made -/
def oneRes (a : List UInt8) (pe : Int) (z : Int) : List UInt8 × Int :=
  if pOK a = true then if pe ≠ 0 then ([], pe) else if big600 ≤ (pVal a).natAbs then ([], 4) else resOf z else ([], 2)
def twoRes (a b : List UInt8) (pe : Int) (z : Int) : List UInt8 × Int :=
  if pOK a = true ∧ pOK b = true then if pe ≠ 0 then ([], pe) else if big600 ≤ (pVal a).natAbs ∨ big600 ≤ (pVal b).natAbs then ([], 4) else resOf z else ([], 2)
def oneDone (a : List UInt8) (pe : Int) : Prop := pOK a = true ∧ pe = 0 ∧ ¬ big600 ≤ (pVal a).natAbs
set_option maxRecDepth 100000 in
set_option maxHeartbeats 4000000 in
theorem one_fn (a : List UInt8) (ha : a.length ≤ 1000000000) (k1 k2 : Nat) (c1 c2 : Array Value) (pe z : Int) (w : World) (B : Nat) (hB : B ≤ w.heap.size)
    (eg1 : ∀ args w, (callFunc k1 args).run Tryz.prog w = .ok (.enter k1 args) w) (eg2 : ∀ args w, (callFunc k2 args).run Tryz.prog w = .ok (.enter k2 args) w)
    (hp : pOK a = true → ∀ w1 v, Below w.heap.size w w1 → PNum w1 v (pVal a) → Calls Tryz.prog k1 (#[v] ++ c1) w1 fun e w' => e = .returned (.int .i64 pe) ∧ Below w1.heap.size w1 w')
    (hd : pOK a = true → pe = 0 → (pVal a).natAbs < big600 → ∀ w1 v, Below w.heap.size w w1 → IntV w1 v (pVal a) → nlen (pVal a).natAbs ≤ 1000 → Calls Tryz.prog k2 (#[v] ++ c2) w1 fun e w' => ∃ u, e = .returned u ∧ RNum w' u z ∧ Below B w1 w') :
    Calls Tryz.prog 59 #[.string ⟨a.toArray⟩, .func (.func k1) #[] c1, .func (.func k2) #[] c2] w fun e w' => e = .returned (.tuple #[.string ⟨(oneRes a pe z).1.toArray⟩, .int .i64 (oneRes a pe z).2]) ∧ Below B w w' := by
  have hc := hid (parse_fn a ha w)
  cases hok : pOK a with
  | false =>
    have hr : oneRes a pe z = ([], 2) := by unfold oneRes; rw [hok]; rfl
    have HR := hid hr
    unfold ParseP at hc
    rw [hok] at hc
    clear hp hd hok hr
    go_enter Tryz.func59, Tryz.ntmps59
    go_wp2_with fail
    (with_reducible refine hc.out.mono ?_); rintro e w1 ⟨v, rfl, hb1, hv, x1, x2, x3, g, h, rfl⟩
    go_wp2
    go_ret2
    exact ⟨by rw [HR.out]; rfl, (hb1.alloc hb1.size _).mono hB⟩
  | true =>
    have hP := hid (hp hok)
    have hD := hid (hd hok)
    have HR := hid (show oneRes a pe z = if pe ≠ 0 then ([], pe) else if big600 ≤ (pVal a).natAbs then ([], 4) else resOf z by unfold oneRes; rw [if_pos hok])
    unfold ParseP at hc
    rw [hok] at hc
    clear hp hd hok
    go_enter Tryz.func59, Tryz.ntmps59
    go_wp2_with fail
    (with_reducible refine hc.out.mono ?_); rintro e w1 ⟨v, rfl, hb1, hv, x1, x2, x3, g, h, rfl⟩
    have hv' := (hv (by first | rfl | trivial)).num
    obtain ⟨a0, n0, c0, he⟩ := (hv (by first | rfl | trivial)).shape
    simp only [Value.agg.injEq, Array.mk.injEq, List.cons.injEq, Value.slice.injEq, Value.bool.injEq, and_true] at he
    obtain ⟨-, hg, hh⟩ := he
    have HH := hid hh
    clear hv a0 n0 c0 hg hh
    have kA := Blk.new w1 #[.slice x1 x2 x3, .bool g, .bool h] 49
    have hbA : Below w.heap.size w (w1.alloc (.cells #[.slice x1 x2 x3, .bool g, .bool h] 49)) := hb1.alloc hb1.size _
    have hvA := hv'.below ((Below.refl _ w1).alloc (Nat.le_refl _) (.cells #[.slice x1 x2 x3, .bool g, .bool h] 49))
    have hpc := hid (hP.out _ _ hbA hvA)
    go_wp2_with fail
    (with_reducible refine hpc.out.mono ?_); rintro e w2 ⟨rfl, hb2⟩
    have hv2 := hvA.below hb2
    have hbB := hbA.trans (hb2.mono hbA.size)
    obtain ⟨⟨r1, r2, r3⟩, r4, r5, r6⟩ := (kA.later hb2).three
    by_cases hpe : pe = 0
    · subst hpe
      cases h with
      | true =>
        have hbig : big600 ≤ (pVal a).natAbs := of_decide_eq_true HH.out.symm
        go_wp2
        go_ret2
        refine ⟨?_, hbB.mono hB⟩
        rw [HR.out, if_neg (by simp), if_pos hbig]
        rfl
      | false =>
        have hsm : ¬ big600 ≤ (pVal a).natAbs := of_decide_eq_false HH.out.symm
        obtain ⟨hI, hn⟩ := hv2.int (by omega)
        have hdc := hid (hD.out rfl (by omega) _ _ hbB hI hn)
        have HR2 := hid (show oneRes a 0 z = resOf z by rw [HR.out, if_neg (by simp), if_neg hsm])
        clear hsm
        go_wp2_with fail
        (with_reducible refine hdc.out.mono ?_); rintro e w3 ⟨u, rfl, hu, hb3⟩
        have hrc := hid (result_r hu)
        go_wp2_with fail
        (with_reducible refine hrc.out.mono ?_); rintro e w4 ⟨rfl, hb4⟩
        go_wp2
        go_ret2
        have h2 := hbB.mono hB
        exact ⟨by rw [HR2.out]; rfl, (h2.trans hb3).trans (hb4.mono (by have := hb3.size; have := h2.size; omega))⟩
    · have hpn : (pe == 0) = false := by simpa using hpe
      have HR2 := hid (show oneRes a pe z = ([], pe) by rw [HR.out, if_pos hpe])
      go_wp2
      go_ret2
      exact ⟨by rw [HR2.out]; rfl, hbB.mono hB⟩
/-- one of two, by a bit -/
def JIf (c : Bool) (p q : Prop) : Prop := (c = true → p) ∧ (c = false → q)
theorem JIf.yes {c : Bool} {p q : Prop} (hc : c = true) (h : p) : JIf c p q := ⟨fun _ => h, fun h' => by rw [hc] at h'; cases h'⟩
theorem JIf.no {c : Bool} {p q : Prop} (hc : c = false) (h : q) : JIf c p q := ⟨(fun h' => by rw [hc] at h'; cases h'), fun _ => h⟩
/-- whether the two numbers came to what is done -/
def twoDone (a b : List UInt8) (pe : Int) : Bool := pOK a && pOK b && decide (pe = 0) && !decide (big600 ≤ (pVal a).natAbs) && !decide (big600 ≤ (pVal b).natAbs)
set_option maxRecDepth 100000 in
set_option maxHeartbeats 4000000 in
theorem two_fnJ (a b : List UInt8) (ha : a.length ≤ 1000000000) (hb : b.length ≤ 1000000000) (k1 k2 : Nat) (c1 c2 : Array Value) (pe z : Int) (w : World) (B : Nat) (hB : B ≤ w.heap.size)
    (J0 J1 : World → Prop) (hJ0 : ∀ w', Below w.heap.size w w' → J0 w') (hJ1 : ∀ w1 w2, J1 w1 → Below w1.heap.size w1 w2 → J1 w2)
    (eg1 : ∀ args w, (callFunc k1 args).run Tryz.prog w = .ok (.enter k1 args) w) (eg2 : ∀ args w, (callFunc k2 args).run Tryz.prog w = .ok (.enter k2 args) w)
    (hp : pOK a = true → pOK b = true → ∀ w1 v u, Below w.heap.size w w1 → PNum w1 v (pVal a) → PNum w1 u (pVal b) → Calls Tryz.prog k1 (#[v, u] ++ c1) w1 fun e w' => e = .returned (.int .i64 pe) ∧ Below w1.heap.size w1 w')
    (hd : pOK a = true → pOK b = true → pe = 0 → (pVal a).natAbs < big600 → (pVal b).natAbs < big600 → ∀ w1 v u, Below w.heap.size w w1 → IntV w1 v (pVal a) → nlen (pVal a).natAbs ≤ 1000 → IntV w1 u (pVal b) → nlen (pVal b).natAbs ≤ 1000 → Calls Tryz.prog k2 (#[v, u] ++ c2) w1 fun e w' => ∃ u, e = .returned u ∧ RNum w' u z ∧ Below B w1 w' ∧ J1 w') :
    Calls Tryz.prog 54 #[.string ⟨a.toArray⟩, .string ⟨b.toArray⟩, .func (.func k1) #[] c1, .func (.func k2) #[] c2] w fun e w' => e = .returned (.tuple #[.string ⟨(twoRes a b pe z).1.toArray⟩, .int .i64 (twoRes a b pe z).2]) ∧ Below B w w' ∧ JIf (twoDone a b pe) (J1 w') (J0 w') := by
  have hc := hid (parse_fn a ha w)
  by_cases hok : pOK a = true ∧ pOK b = true
  · have hP := hid (hp hok.1 hok.2)
    have hD := hid (hd hok.1 hok.2)
    have HR := hid (show twoRes a b pe z = if pe ≠ 0 then ([], pe) else if big600 ≤ (pVal a).natAbs ∨ big600 ≤ (pVal b).natAbs then ([], 4) else resOf z by unfold twoRes; rw [if_pos hok])
    have HT := hid (show twoDone a b pe = (decide (pe = 0) && !decide (big600 ≤ (pVal a).natAbs) && !decide (big600 ≤ (pVal b).natAbs)) by unfold twoDone; rw [hok.1, hok.2]; rfl)
    have HK := hid hok
    unfold ParseP at hc
    rw [hok.1] at hc
    clear hp hd hok
    go_enter Tryz.func54, Tryz.ntmps54
    go_wp2_with fail
    (with_reducible refine hc.out.mono ?_); rintro e w1 ⟨v, rfl, hb1, hv, x1, x2, x3, g, h, rfl⟩
    have hv' := (hv (by first | rfl | trivial)).num
    obtain ⟨a0, n0, c0, he⟩ := (hv (by first | rfl | trivial)).shape
    simp only [Value.agg.injEq, Array.mk.injEq, List.cons.injEq, Value.slice.injEq, Value.bool.injEq, and_true] at he
    obtain ⟨-, hg, hh⟩ := he
    have HH := hid hh
    clear hv a0 n0 c0 hg hh
    have kA := Blk.new w1 #[.slice x1 x2 x3, .bool g, .bool h] 49
    have hbA : Below w.heap.size w (w1.alloc (.cells #[.slice x1 x2 x3, .bool g, .bool h] 49)) := hb1.alloc hb1.size _
    have hvA := hv'.below ((Below.refl _ w1).alloc (Nat.le_refl _) (.cells #[.slice x1 x2 x3, .bool g, .bool h] 49))
    have hcb := hid (parse_fn b hb (w1.alloc (.cells #[.slice x1 x2 x3, .bool g, .bool h] 49)))
    unfold ParseP at hcb
    rw [HK.out.2] at hcb
    go_wp2_with fail
    (with_reducible refine hcb.out.mono ?_); rintro e w2 ⟨v2, rfl, hb2, hv2, y1, y2, y3, g2, h2, rfl⟩
    have hu' := (hv2 (by first | rfl | trivial)).num
    obtain ⟨a0, n0, c0, he⟩ := (hv2 (by first | rfl | trivial)).shape
    simp only [Value.agg.injEq, Array.mk.injEq, List.cons.injEq, Value.slice.injEq, Value.bool.injEq, and_true] at he
    obtain ⟨-, hg, hh⟩ := he
    have HH2 := hid hh
    clear hv2 a0 n0 c0 hg hh
    have kA2 := (kA.later hb2).alloc (.cells #[.slice y1 y2 y3, .bool g2, .bool h2] 49)
    have kB := Blk.new w2 #[.slice y1 y2 y3, .bool g2, .bool h2] 49
    have hbC : Below w2.heap.size w2 (w2.alloc (.cells #[.slice y1 y2 y3, .bool g2, .bool h2] 49)) := (Below.refl _ w2).alloc (Nat.le_refl _) _
    have hvC := (hvA.below hb2).below hbC
    have huC := hu'.below hbC
    have hbD := (hbA.trans (hb2.mono hbA.size)).trans (hbC.mono (Nat.le_trans hbA.size hb2.size))
    obtain ⟨⟨p1, p2, p3⟩, p4, p5, p6⟩ := kA2.three
    have hpc := hid (hP.out _ _ _ hbD hvC huC)
    go_wp2_with fail
    (with_reducible refine hpc.out.mono ?_); rintro e w3 ⟨rfl, hb3⟩
    have hvE := hvC.below hb3
    have huE := huC.below hb3
    have hbE := hbD.trans (hb3.mono hbD.size)
    clear p1 p2 p3 p4 p5 p6
    obtain ⟨⟨p1, p2, p3⟩, p4, p5, p6⟩ := (kA2.later hb3).three
    obtain ⟨⟨q1, q2, q3⟩, q4, q5, q6⟩ := (kB.later hb3).three
    by_cases hpe : pe = 0
    · subst hpe
      cases h with
      | true =>
        have hbig : big600 ≤ (pVal a).natAbs := of_decide_eq_true HH.out.symm
        go_wp2
        go_ret2
        refine ⟨?_, hbE.mono hB, ?_⟩
        · rw [HR.out, if_neg (by simp), if_pos (.inl hbig)]
          rfl
        · exact JIf.no (by rw [HT.out, decide_eq_true hbig]; simp) (hJ0 _ hbE)
      | false =>
        have hsm : ¬ big600 ≤ (pVal a).natAbs := of_decide_eq_false HH.out.symm
        cases h2 with
        | true =>
          have hbig : big600 ≤ (pVal b).natAbs := of_decide_eq_true HH2.out.symm
          go_wp2
          go_ret2
          refine ⟨?_, hbE.mono hB, ?_⟩
          · rw [HR.out, if_neg (by simp), if_pos (.inr hbig)]
            rfl
          · exact JIf.no (by rw [HT.out, decide_eq_true hbig]; simp) (hJ0 _ hbE)
        | false =>
          have hsm2 : ¬ big600 ≤ (pVal b).natAbs := of_decide_eq_false HH2.out.symm
          obtain ⟨hI, hn⟩ := hvE.int (by omega)
          obtain ⟨hI2, hn2⟩ := huE.int (by omega)
          have hdc := hid (hD.out rfl (by omega) (by omega) _ _ _ hbE hI hn hI2 hn2)
          have HR2 := hid (show twoRes a b 0 z = resOf z by rw [HR.out, if_neg (by simp), if_neg (by omega)])
          have HT2 := hid (show twoDone a b 0 = true by rw [HT.out, decide_eq_false hsm, decide_eq_false hsm2]; rfl)
          clear hsm hsm2
          go_wp2_with fail
          (with_reducible refine hdc.out.mono ?_); rintro e w4 ⟨u, rfl, hu, hb4, hj4⟩
          have hrc := hid (result_r hu)
          go_wp2_with fail
          (with_reducible refine hrc.out.mono ?_); rintro e w5 ⟨rfl, hb5⟩
          go_wp2
          go_ret2
          have h2 := hbE.mono hB
          refine ⟨by rw [HR2.out]; rfl, (h2.trans hb4).trans (hb5.mono (by have := hb4.size; have := h2.size; omega)), ?_⟩
          exact JIf.yes HT2.out (hJ1 _ _ hj4 hb5)
    · have hpn : (pe == 0) = false := by simpa using hpe
      have HR2 := hid (show twoRes a b pe z = ([], pe) by rw [HR.out, if_pos hpe])
      have HT2 := hid (show twoDone a b pe = false by rw [HT.out, decide_eq_false hpe]; rfl)
      go_wp2
      go_ret2
      refine ⟨by rw [HR2.out]; rfl, hbE.mono hB, ?_⟩
      exact JIf.no HT2.out (hJ0 _ hbE)
  · have HR := hid (show twoRes a b pe z = ([], 2) by unfold twoRes; rw [if_neg hok])
    have HT := hid (show twoDone a b pe = false by unfold twoDone; cases h1 : pOK a <;> cases h2 : pOK b <;> simp_all)
    clear hp hd
    unfold ParseP at hc
    cases hoa : pOK a with
    | false =>
      rw [hoa] at hc
      clear hoa hok
      go_enter Tryz.func54, Tryz.ntmps54
      go_wp2_with fail
      (with_reducible refine hc.out.mono ?_); rintro e w1 ⟨v, rfl, hb1, hv, x1, x2, x3, g, h, rfl⟩
      have hbA : Below w.heap.size w (w1.alloc (.cells #[.slice x1 x2 x3, .bool g, .bool h] 49)) := hb1.alloc hb1.size _
      have hcb := hid (parse_fn b hb (w1.alloc (.cells #[.slice x1 x2 x3, .bool g, .bool h] 49)))
      unfold ParseP at hcb
      generalize pOK b = ob at hcb
      go_wp2_with fail
      (with_reducible refine hcb.out.mono ?_); rintro e w2 ⟨v2, rfl, hb2, hv2, y1, y2, y3, g2, h2, rfl⟩
      have hbC : Below w2.heap.size w2 (w2.alloc (.cells #[.slice y1 y2 y3, .bool g2, .bool h2] 49)) := (Below.refl _ w2).alloc (Nat.le_refl _) _
      have hbD := (hbA.trans (hb2.mono hbA.size)).trans (hbC.mono (Nat.le_trans hbA.size hb2.size))
      go_wp2
      go_ret2
      exact ⟨by rw [HR.out]; rfl, hbD.mono hB, JIf.no HT.out (hJ0 _ hbD)⟩
    | true =>
      have hob : pOK b = false := by
        cases h : pOK b
        · rfl
        · exact absurd ⟨hoa, h⟩ hok
      have HOB := hid hob
      rw [hoa] at hc
      clear hoa hok hob
      go_enter Tryz.func54, Tryz.ntmps54
      go_wp2_with fail
      (with_reducible refine hc.out.mono ?_); rintro e w1 ⟨v, rfl, hb1, hv, x1, x2, x3, g, h, rfl⟩
      have hbA : Below w.heap.size w (w1.alloc (.cells #[.slice x1 x2 x3, .bool g, .bool h] 49)) := hb1.alloc hb1.size _
      have hcb := hid (parse_fn b hb (w1.alloc (.cells #[.slice x1 x2 x3, .bool g, .bool h] 49)))
      unfold ParseP at hcb
      rw [HOB.out] at hcb
      go_wp2_with fail
      (with_reducible refine hcb.out.mono ?_); rintro e w2 ⟨v2, rfl, hb2, hv2, y1, y2, y3, g2, h2, rfl⟩
      have hbC : Below w2.heap.size w2 (w2.alloc (.cells #[.slice y1 y2 y3, .bool g2, .bool h2] 49)) := (Below.refl _ w2).alloc (Nat.le_refl _) _
      have hbD := (hbA.trans (hb2.mono hbA.size)).trans (hbC.mono (Nat.le_trans hbA.size hb2.size))
      go_wp2
      go_ret2
      exact ⟨by rw [HR.out]; rfl, hbD.mono hB, JIf.no HT.out (hJ0 _ hbD)⟩
/-- the plain case: nothing but the result is told -/
theorem two_fn (a b : List UInt8) (ha : a.length ≤ 1000000000) (hb : b.length ≤ 1000000000) (k1 k2 : Nat) (c1 c2 : Array Value) (pe z : Int) (w : World)
    (eg1 : ∀ args w, (callFunc k1 args).run Tryz.prog w = .ok (.enter k1 args) w) (eg2 : ∀ args w, (callFunc k2 args).run Tryz.prog w = .ok (.enter k2 args) w)
    (hp : pOK a = true → pOK b = true → ∀ w1 v u, Below w.heap.size w w1 → PNum w1 v (pVal a) → PNum w1 u (pVal b) → Calls Tryz.prog k1 (#[v, u] ++ c1) w1 fun e w' => e = .returned (.int .i64 pe) ∧ Below w1.heap.size w1 w')
    (hd : pOK a = true → pOK b = true → pe = 0 → (pVal a).natAbs < big600 → (pVal b).natAbs < big600 → ∀ w1 v u, Below w.heap.size w w1 → IntV w1 v (pVal a) → nlen (pVal a).natAbs ≤ 1000 → IntV w1 u (pVal b) → nlen (pVal b).natAbs ≤ 1000 → Calls Tryz.prog k2 (#[v, u] ++ c2) w1 fun e w' => ∃ u, e = .returned u ∧ RNum w' u z ∧ Below w1.heap.size w1 w') :
    Calls Tryz.prog 54 #[.string ⟨a.toArray⟩, .string ⟨b.toArray⟩, .func (.func k1) #[] c1, .func (.func k2) #[] c2] w fun e w' => e = .returned (.tuple #[.string ⟨(twoRes a b pe z).1.toArray⟩, .int .i64 (twoRes a b pe z).2]) ∧ Below w.heap.size w w' := by
  refine (two_fnJ a b ha hb k1 k2 c1 c2 pe z w w.heap.size (Nat.le_refl _) (fun _ => True) (fun _ => True) (fun _ _ => trivial) (fun _ _ _ _ => trivial) eg1 eg2 hp ?_).mono ?_
  · intro h1 h2 h3 h4 h5 w1 v u h6 h7 h8 h9 h10
    refine (hd h1 h2 h3 h4 h5 w1 v u h6 h7 h8 h9 h10).mono ?_
    rintro e w' ⟨u, h11, h12, h13⟩
    exact ⟨u, h11, h12, h13.mono h6.size, trivial⟩
  · rintro e w' ⟨h1, h2, _⟩
    exact ⟨h1, h2⟩
end Go.Proofs.YtkhgoeippamobaaGreatDoor
