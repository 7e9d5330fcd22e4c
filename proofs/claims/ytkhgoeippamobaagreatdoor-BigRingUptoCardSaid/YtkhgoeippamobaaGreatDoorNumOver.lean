/-
  Quotient and remainder of integers, rounded down.
-/
import Derived.Test.YtkhgoeippamobaaGreatDoorUntil
namespace Go.Proofs.YtkhgoeippamobaaGreatDoor
open Go.RowKit
def sgnInt (neg : Bool) (n : Nat) : Int := if neg then -(n : Int) else (n : Int)
theorem IntV.of {w : World} {s : Value} {n : Nat} (neg : Bool) (h : NatRep w s n) : IntV w (.agg #[s, .bool (neg && decide (0 < n)), .bool false]) (sgnInt neg n) := by
  refine IntV.mk h ?_ ?_
  · cases neg <;> simp [sgnInt]
  · cases neg
    · simp [sgnInt]
    · simp [sgnInt]
/-- rounding down, by sizes -/
theorem fdiv_sizes (a b : Int) (hb : b ≠ 0) :
    (0 < a.natAbs % b.natAbs → (!(decide (a < 0) == decide (b < 0))) = true → a.fdiv b = sgnInt (!(decide (a < 0) == decide (b < 0))) (a.natAbs / b.natAbs) + -1 ∧ a.fmod b = sgnInt (decide (a < 0)) (a.natAbs % b.natAbs) + b) ∧
    ((a.natAbs % b.natAbs = 0 ∨ (!(decide (a < 0) == decide (b < 0))) = false) → a.fdiv b = sgnInt (!(decide (a < 0) == decide (b < 0))) (a.natAbs / b.natAbs) ∧ a.fmod b = sgnInt (decide (a < 0)) (a.natAbs % b.natAbs)) := by
  have h1 := Nat.div_add_mod a.natAbs b.natAbs
  have h2 : a.natAbs % b.natAbs < b.natAbs := Nat.mod_lt _ (by omega)
  generalize hQ : a.natAbs / b.natAbs = Q at *
  generalize hR : a.natAbs % b.natAbs = R at *
  have h3 : (b.natAbs : Int) * (Q : Int) + (R : Int) = (a.natAbs : Int) := by exact_mod_cast h1
  rcases Int.lt_or_gt_of_ne hb with hbn | hbp
  · have e1 : (b.natAbs : Int) = -b := by omega
    rw [e1] at h3
    have e4 : -b * (Q : Int) = -(b * Q) := Int.neg_mul _ _
    rw [e4] at h3
    have hd : decide (b < 0) = true := decide_eq_true hbn
    rw [hd]
    by_cases ha : a < 0
    · have hda : decide (a < 0) = true := decide_eq_true ha
      rw [hda]
      refine ⟨fun _ h => by simp at h, fun _ => ?_⟩
      refine (Int.fdiv_fmod_unique' hbn).2 ⟨?_, ?_, ?_⟩ <;> simp [sgnInt] <;> omega
    · have hda : decide (a < 0) = false := decide_eq_false ha
      rw [hda]
      have e5 : b * -(Q : Int) = -(b * Q) := Int.mul_neg _ _
      have e6 : b * (-(Q : Int) + -1) = -(b * Q) - b := by rw [Int.mul_add, e5]; omega
      refine ⟨fun h0 _ => ?_, fun h => ?_⟩
      · refine (Int.fdiv_fmod_unique' hbn).2 ⟨?_, ?_, ?_⟩ <;> simp [sgnInt] <;> omega
      · refine (Int.fdiv_fmod_unique' hbn).2 ⟨?_, ?_, ?_⟩ <;> simp [sgnInt] at h ⊢ <;> omega
  · have e1 : (b.natAbs : Int) = b := by omega
    rw [e1] at h3
    have hd : decide (b < 0) = false := decide_eq_false (by omega)
    rw [hd]
    by_cases ha : a < 0
    · have hda : decide (a < 0) = true := decide_eq_true ha
      rw [hda]
      have e5 : b * -(Q : Int) = -(b * Q) := Int.mul_neg _ _
      have e6 : b * (-(Q : Int) + -1) = -(b * Q) - b := by rw [Int.mul_add, e5]; omega
      refine ⟨fun h0 _ => ?_, fun h => ?_⟩
      · refine (Int.fdiv_fmod_unique hbp).2 ⟨?_, ?_, ?_⟩ <;> simp [sgnInt] <;> omega
      · refine (Int.fdiv_fmod_unique hbp).2 ⟨?_, ?_, ?_⟩ <;> simp [sgnInt] at h ⊢ <;> omega
    · have hda : decide (a < 0) = false := decide_eq_false ha
      rw [hda]
      refine ⟨fun _ h => by simp at h, fun _ => ?_⟩
      refine (Int.fdiv_fmod_unique hbp).2 ⟨?_, ?_, ?_⟩ <;> simp [sgnInt] <;> omega
theorem OwnInt.shape4 {w : World} {base : Nat} {v : Value} {z : Int} (h : OwnInt w base v z) : ∃ a n c b, v = .agg #[.slice a n c, .bool b, .bool false] := by
  obtain ⟨s, rfl, h⟩ := h
  obtain ⟨a, c, rfl⟩ := h.shape
  exact ⟨_, _, _, _, rfl⟩
theorem OwnInt.keep {w w' : World} {base : Nat} {v : Value} {z : Int} (h : OwnInt w base v z) (hb : Below w.heap.size w w') : OwnInt w' base v z := by
  obtain ⟨s, rfl, h⟩ := h
  exact ⟨s, rfl, h.keep hb (Nat.le_refl _)⟩
theorem OwnInt.mono {w : World} {base base' : Nat} {v : Value} {z : Int} (h : OwnInt w base v z) (hb : base' ≤ base) : OwnInt w base' v z := by
  obtain ⟨s, rfl, h⟩ := h
  exact ⟨s, rfl, h.mono hb⟩
theorem OwnInt.set3 {w : World} {base b : Nat} {v : Value} {z : Int} (h : OwnInt w base v z) (hb : b < base) (x y t : Value) : OwnInt (((w.setCell ⟨b, 0, none⟩ x).setCell ⟨b, 1, none⟩ y).setCell ⟨b, 2, none⟩ t) base v z := by
  obtain ⟨s, rfl, h⟩ := h
  exact ⟨s, rfl, own_set3 h x y t hb⟩
theorem OwnInt.of {w : World} {base : Nat} {s : Value} {n : Nat} (neg : Bool) (h : Own .u32 75 w base s (nlen n) (D n)) : OwnInt w base (.agg #[s, .bool (neg && decide (0 < n)), .bool false]) (sgnInt neg n) := by
  refine OwnInt.mk h ?_ ?_
  · cases neg <;> simp [sgnInt]
  · cases neg <;> simp [sgnInt]
theorem IntV.shape4 {w : World} {v : Value} {z : Int} (h : IntV w v z) : ∃ a n c b, v = .agg #[.slice a n c, .bool b, .bool false] := by
  obtain ⟨a, c, rfl, _⟩ := h.shape
  exact ⟨_, _, _, _, rfl⟩
theorem natAbs_sgnInt (neg : Bool) (n : Nat) : (sgnInt neg n).natAbs = n := by cases neg <;> simp [sgnInt]
theorem one_rep (W : World) : NatRep (W.alloc (.cells #[.int .u32 1] 75)).drew (.slice (some ⟨W.heap.size, 0, none⟩) 1 1) 1 := by
  have hn : nlen 1 = 1 := by decide
  refine ⟨some ⟨W.heap.size, 0, none⟩, 1, by rw [hn], by rw [hn]; exact Nat.le_refl _, fun _ => ⟨W.heap.size, 0, rfl, by simp [World.drew], fun i hi => ?_⟩⟩
  rw [hn] at hi
  obtain rfl : i = 0 := by omega
  exact (Blk.new W #[.int .u32 1] 75).cell 0
set_option maxRecDepth 100000 in
set_option maxHeartbeats 40000000 in
theorem overN {v u : Value} {a b : Int} {w : World} (hv : IntV w v a) (hu : IntV w u b) (hm : nlen a.natAbs ≤ 1000000) (hn : nlen b.natAbs ≤ 1000000) (hb0 : b ≠ 0) :
    Calls Tryz.prog 76 #[v, u] w fun e w' => ∃ q r, e = .returned (.tuple #[q, r]) ∧ OwnInt w' w.heap.size q (a.fdiv b) ∧ OwnInt w' w.heap.size r (a.fmod b) ∧ Below w.heap.size w w' := by
  obtain ⟨a1, c1, rfl, hs⟩ := hv.shape
  obtain ⟨a2, c2, rfl, ht⟩ := hu.shape
  have hsz := fdiv_sizes a b hb0
  have hnb : 0 < b.natAbs := by omega
  have hHV := hid hv
  have hHU := hid hu
  clear hv hu
  generalize decide (a < 0) = sa at *
  generalize decide (b < 0) = sb at *
  have HS := hid hsz
  clear hsz
  have k1 := Blk.new w #[.slice a1 (nlen a.natAbs) c1, .bool sa, .bool false] 49
  have k2 := Blk.new (w.alloc (.cells #[.slice a1 (nlen a.natAbs) c1, .bool sa, .bool false] 49)) #[.slice a2 (nlen b.natAbs) c2, .bool sb, .bool false] 49
  have k3 := Blk.new ((w.alloc (.cells #[.slice a1 (nlen a.natAbs) c1, .bool sa, .bool false] 49)).alloc (.cells #[.slice a2 (nlen b.natAbs) c2, .bool sb, .bool false] 49)) #[.slice none 0 0, .bool false, .bool false] 49
  have k4 := Blk.new (((w.alloc (.cells #[.slice a1 (nlen a.natAbs) c1, .bool sa, .bool false] 49)).alloc (.cells #[.slice a2 (nlen b.natAbs) c2, .bool sb, .bool false] 49)).alloc (.cells #[.slice none 0 0, .bool false, .bool false] 49)) #[.slice none 0 0, .bool false, .bool false] 49
  simp only [World.size_alloc] at k2 k3 k4
  replace k1 := ((k1.alloc (.cells #[.slice a2 (nlen b.natAbs) c2, .bool sb, .bool false] 49)).alloc (.cells #[.slice none 0 0, .bool false, .bool false] 49)).alloc (.cells #[.slice none 0 0, .bool false, .bool false] 49)
  replace k2 := (k2.alloc (.cells #[.slice none 0 0, .bool false, .bool false] 49)).alloc (.cells #[.slice none 0 0, .bool false, .bool false] 49)
  replace k3 := k3.alloc (.cells #[.slice none 0 0, .bool false, .bool false] 49)
  have hb0 : Below w.heap.size w ((((w.alloc (.cells #[.slice a1 (nlen a.natAbs) c1, .bool sa, .bool false] 49)).alloc (.cells #[.slice a2 (nlen b.natAbs) c2, .bool sb, .bool false] 49)).alloc (.cells #[.slice none 0 0, .bool false, .bool false] 49)).alloc (.cells #[.slice none 0 0, .bool false, .bool false] 49)) := ((((Below.refl _ _).alloc (Nat.le_refl _) _).alloc (by simp) _).alloc (by simp; omega) _).alloc (by simp; omega) _
  go_enter Tryz.func76, Tryz.ntmps76
  go_wp2_with fail
  generalize (((w.alloc (.cells #[.slice a1 (nlen a.natAbs) c1, .bool sa, .bool false] 49)).alloc (.cells #[.slice a2 (nlen b.natAbs) c2, .bool sb, .bool false] 49)).alloc (.cells #[.slice none 0 0, .bool false, .bool false] 49)).alloc (.cells #[.slice none 0 0, .bool false, .bool false] 49) = w0 at *
  refine (over_nat (hs.below hb0) (ht.below hb0) (by omega) (by omega) hnb).mono ?_
  rintro e w1 ⟨⟨q, r, rfl, hq, hr⟩, hb1⟩
  have hqn : nlen (a.natAbs / b.natAbs) ≤ nlen a.natAbs := nlen_mono (Nat.div_le_self _ _)
  have hrn : nlen (a.natAbs % b.natAbs) ≤ nlen b.natAbs := nlen_mono (Nat.le_of_lt (Nat.mod_lt _ hnb))
  generalize a.natAbs / b.natAbs = Q at *
  generalize a.natAbs % b.natAbs = R at *
  obtain ⟨qa, qc, rfl⟩ := hq.shape
  obtain ⟨ra, rc, rfl⟩ := hr.shape
  replace k1 := k1.later hb1
  replace k2 := k2.later hb1
  replace k3 := k3.later hb1
  have hz4 := k4.lt
  replace k4 := k4.later hb1
  have hbw1 : Below w.heap.size w w1 := hb0.trans (hb1.mono hb0.size)
  obtain ⟨⟨p1, p2, p3⟩, _⟩ := k1.three
  obtain ⟨⟨q1, q2, q3⟩, _⟩ := k2.three
  have p2d : w1.drew.cell? ⟨w.heap.size, 1, none⟩ = some (.bool sa) := p2
  have q2d : w1.drew.cell? ⟨w.heap.size + 1, 1, none⟩ = some (.bool sb) := q2
  have hq0 := hq.nat
  have hr0 := hr.nat
  have HQ := hid hqn
  have HR := hid hrn
  have HC1 := hid (fun (neg : Bool) => of_nat (hq0.below (Below.refl _ _).drew) neg (by omega))
  clear hqn hrn
  go_wp2
  go_region_held3 (fun w' => w'.cell? ⟨w.heap.size, 1, none⟩ = some (.bool sa) ∧ w'.cell? ⟨w.heap.size + 1, 1, none⟩ = some (.bool sb))
    (first | with_reducible exact ⟨p2d, q2d⟩ | with_reducible exact ⟨p2', q2'⟩ | with_reducible exact ⟨p2'', q2''⟩ | with_reducible exact ⟨(cell_set3 _ _ _ _ (by omega)).trans p2'', (cell_set3 _ _ _ _ (by omega)).trans q2''⟩ | with_reducible exact ⟨(cell_set3 _ _ _ _ (by omega)).trans ((cell_set3 _ _ _ _ (by omega)).trans p2''), (cell_set3 _ _ _ _ (by omega)).trans ((cell_set3 _ _ _ _ (by omega)).trans q2'')⟩)
    (first
    | (go_at_call 84; (with_reducible refine (HC1.out _).mono ?_); rintro e w2 ⟨rfl, hb2⟩; have k1' := k1.drew.later hb2; have k2' := k2.drew.later hb2; have k3' := k3.drew.later hb2; have k4' := k4.drew.later hb2; have hr1 : Own .u32 75 w2 w0.heap.size (.slice ra (nlen R) rc) (nlen R) (D R) := Own.keep (w := w1.drew) hr hb2 (Nat.le_refl _); have hq1 : Own .u32 75 w2 w0.heap.size (.slice qa (nlen Q) qc) (nlen Q) (D Q) := Own.keep (w := w1.drew) hq hb2 (Nat.le_refl _); have HC2 := hid (fun (neg : Bool) => of_nat hr1.nat neg (by have := HR.out; omega)); obtain ⟨⟨p1', p2', p3'⟩, _⟩ := k1'.three; obtain ⟨⟨q1', q2', q3'⟩, _⟩ := k2'.three)
    | (go_at_call 84; (with_reducible refine (HC2.out _).mono ?_); rintro e w3 ⟨rfl, hb3⟩; have k1'' := k1'.later hb3; have k2'' := k2'.later hb3; have k3'' := k3'.later hb3; have k4'' := k4'.later hb3; have hr2 := hr1.keep hb3 (Nat.le_refl _); have hq2 := hq1.keep hb3 (Nat.le_refl _); obtain ⟨⟨p1'', p2'', p3''⟩, _⟩ := k1''.three; obtain ⟨⟨q1'', q2'', q3''⟩, _⟩ := k2''.three; obtain ⟨⟨x1, x2, x3⟩, ⟨y1, y2, y3⟩⟩ := k3''.three; obtain ⟨⟨z1, z2, z3⟩, ⟨v1, v2, v3⟩⟩ := k4''.three))
  have hz1 := hb1.size
  have hz2 := hb2.size
  have hz3 := hb3.size
  have hbw3 : Below w.heap.size w w3 := hbw1.trans ((Below.refl _ _).drew.trans ((hb2.mono hbw1.size).trans (hb3.mono (Nat.le_trans hbw1.size hz2))))
  have hq3 := own_set3 (own_set3 hq2 (.slice qa (nlen Q) qc) (.bool (!(sa == sb) && decide (0 < Q))) (.bool false) (b := w.heap.size + 1 + 1) (by omega)) (.slice ra (nlen R) rc) (.bool (sa && decide (0 < R))) (.bool false) (b := w.heap.size + 1 + 1 + 1) (by omega)
  have hr3 := own_set3 (own_set3 hr2 (.slice qa (nlen Q) qc) (.bool (!(sa == sb) && decide (0 < Q))) (.bool false) (b := w.heap.size + 1 + 1) (by omega)) (.slice ra (nlen R) rc) (.bool (sa && decide (0 < R))) (.bool false) (b := w.heap.size + 1 + 1 + 1) (by omega)
  have K1 := ((k1''.set3_ne (b := w.heap.size + 1 + 1) (by omega) (.slice qa (nlen Q) qc) (.bool (!(sa == sb) && decide (0 < Q))) (.bool false)).set3_ne (b := w.heap.size + 1 + 1 + 1) (by omega) (.slice ra (nlen R) rc) (.bool (sa && decide (0 < R))) (.bool false))
  have K2 := ((k2''.set3_ne (b := w.heap.size + 1 + 1) (by omega) (.slice qa (nlen Q) qc) (.bool (!(sa == sb) && decide (0 < Q))) (.bool false)).set3_ne (b := w.heap.size + 1 + 1 + 1) (by omega) (.slice ra (nlen R) rc) (.bool (sa && decide (0 < R))) (.bool false))
  have K3 := ((k3''.set3 (.slice qa (nlen Q) qc) (.bool (!(sa == sb) && decide (0 < Q))) (.bool false)).set3_ne (b := w.heap.size + 1 + 1 + 1) (by omega) (.slice ra (nlen R) rc) (.bool (sa && decide (0 < R))) (.bool false))
  have K4 := ((k4''.set3_ne (b := w.heap.size + 1 + 1) (by omega) (.slice qa (nlen Q) qc) (.bool (!(sa == sb) && decide (0 < Q))) (.bool false)).set3 (.slice ra (nlen R) rc) (.bool (sa && decide (0 < R))) (.bool false))
  have hbW := ((((((hbw3.setCell (p := ⟨w.heap.size + 1 + 1, 0, none⟩) (by simp; omega) (.slice qa (nlen Q) qc)).setCell (p := ⟨w.heap.size + 1 + 1, 1, none⟩) (by simp; omega) (.bool (!(sa == sb) && decide (0 < Q)))).setCell (p := ⟨w.heap.size + 1 + 1, 2, none⟩) (by simp; omega) (.bool false)).setCell (p := ⟨w.heap.size + 1 + 1 + 1, 0, none⟩) (by simp; omega) (.slice ra (nlen R) rc)).setCell (p := ⟨w.heap.size + 1 + 1 + 1, 1, none⟩) (by simp; omega) (.bool (sa && decide (0 < R)))).setCell (p := ⟨w.heap.size + 1 + 1 + 1, 2, none⟩) (by simp; omega) (.bool false))
  generalize ((((((w3.setCell ⟨w.heap.size + 1 + 1, 0, none⟩ (.slice qa (nlen Q) qc)).setCell ⟨w.heap.size + 1 + 1, 1, none⟩ (.bool (!(sa == sb) && decide (0 < Q)))).setCell ⟨w.heap.size + 1 + 1, 2, none⟩ (.bool false)).setCell ⟨w.heap.size + 1 + 1 + 1, 0, none⟩ (.slice ra (nlen R) rc)).setCell ⟨w.heap.size + 1 + 1 + 1, 1, none⟩ (.bool (sa && decide (0 < R)))).setCell ⟨w.heap.size + 1 + 1 + 1, 2, none⟩ (.bool false)) = W at *
  clear k1 k2 k3 k4 k1' k2' k3' k4' k1'' k2'' k3'' k4'' p1 p2 p3 q1 q2 q3 p1' p2' p3' q1' q2' q3' p1'' p2'' p3'' q1'' q2'' q3'' x1 x2 x3 y1 y2 y3 z1 z2 z3 v1 v2 v3 hq hr hq0 hr0 hq1 hr1 hq2 hr2 HC1 HC2 p2d q2d
  obtain ⟨⟨p1, p2, p3⟩, _⟩ := K1.three
  obtain ⟨⟨q1, q2, q3⟩, _⟩ := K2.three
  obtain ⟨⟨x1, x2, x3⟩, ⟨y1, y2, y3⟩⟩ := K3.three
  obtain ⟨⟨z1, z2, z3⟩, ⟨v1, v2, v3⟩⟩ := K4.three
  have hIQ := IntV.of (!(sa == sb)) hq3.nat
  have hIR := IntV.of sa hr3.nat
  by_cases hcond : 0 < R ∧ (!(sa == sb)) = true
  · have hd := hid (HS.out.1 hcond.1 hcond.2)
    have hsab := hcond.2
    have hn1 : 0 < nlen R := by have := nlen_eq_zero R; omega
    clear hcond hq3 hr3
    rw [hsab, Bool.true_and] at hIQ
    rw [hsab] at hd
    rw [hsab, Bool.true_and] at K3 x2
    generalize decide (0 < Q) = bq at *
    generalize (sa && decide (0 < R)) = br at *
    have hone := hid (one_rep W)
    have HC1 := hid (of_nat (one_rep W) true (by decide))
    have L3 := hid K3.lt
    have L4 := hid K4.lt
    have L2 := hid K2.lt
    have HU2 := hid (hHU.out.below hbW)
    have bq1 : nlen (sgnInt true Q).natAbs ≤ 1000000 := by rw [natAbs_sgnInt]; have := HQ.out; omega
    have br1 : nlen (sgnInt sa R).natAbs ≤ 1000000 := by rw [natAbs_sgnInt]; have := HR.out; omega
    have bo1 : nlen (-1 : Int).natAbs ≤ 1000000 := by decide
    have BQ := hid bq1
    have BR := hid br1
    have BO := hid bo1
    clear bq1 br1 bo1
    go_wp2
    refine U_begin (late := fun i => decide (6 ≤ i)) (S := fun u => Blk u (w.heap.size + 1) #[.slice a2 (nlen b.natAbs) c2, .bool sb, .bool false] 49 ∧ Blk u (w.heap.size + 1 + 1) #[.slice qa (nlen Q) qc, .bool bq, .bool false] 49 ∧ Blk u (w.heap.size + 1 + 1 + 1) #[.slice ra (nlen R) rc, .bool br, .bool false] 49) (by kernel_rfl) ?_
    refine U_take (i := 0) (v := .agg #[.slice qa (nlen Q) qc, .bool bq, .bool false]) rfl (by kernel_rfl) (by kernel_rfl) (by kernel_rfl) (by kernel_rfl) (by kernel_rfl) (fun _ _ _ h => h) (.inl ⟨rfl, fun u hu => (by obtain ⟨⟨h1, h2, h3⟩, _⟩ := hu.2.1.three; go_simp)⟩) ⟨K2.drew, K3.drew, K4.drew⟩ ?_
    refine U_take (i := 4) (v := .agg #[.slice ra (nlen R) rc, .bool br, .bool false]) rfl (by kernel_rfl) (by kernel_rfl) (by kernel_rfl) (by kernel_rfl) (by kernel_rfl) (fun _ _ _ h => h) (.inl ⟨rfl, fun u hu => (by obtain ⟨⟨h1, h2, h3⟩, _⟩ := hu.2.2.three; go_simp)⟩) ⟨K2.drew, K3.drew, K4.drew⟩ ?_
    refine U_take (i := 5) (v := .agg #[.slice a2 (nlen b.natAbs) c2, .bool sb, .bool false]) rfl (by kernel_rfl) (by kernel_rfl) (by kernel_rfl) (by kernel_rfl) (by kernel_rfl) (fun _ _ _ h => h) (.inl ⟨rfl, fun u hu => (by obtain ⟨⟨h1, h2, h3⟩, _⟩ := hu.1.three; go_simp)⟩) ⟨K2.drew, K3.drew, K4.drew⟩ ?_
    refine U_step (j := 1) (by kernel_rfl) rfl (fun K hK => ?_)
    go_simp
    refine hK.out _ _ (.inr ⟨(K2.alloc _).drew, (K3.alloc _).drew, (K4.alloc _).drew⟩) ?_
    clear hK K
    refine U_step (j := 2) (by kernel_rfl) rfl (fun K hK => ?_)
    go_simp
    (with_reducible refine HC1.out.mono ?_); rintro e w4 ⟨rfl, hb4⟩
    have hb4' : Below W.heap.size W w4 := ((Below.refl _ W).alloc (Nat.le_refl _) _).drew.trans (hb4.mono (by simp))
    have hI1 : IntV w4 (.agg #[.slice (some ⟨W.heap.size, 0, none⟩) 1 1, .bool true, .bool false]) (-1) := IntV.of true (hone.out.below hb4)
    have PL1 := hid (plusN_int (hIQ.below hb4') hI1 BQ.out BO.out)
    refine hK.out _ _ (.inr ⟨K2.later hb4', K3.later hb4', K4.later hb4'⟩) ?_
    clear hK K
    refine U_step (j := 3) (by kernel_rfl) rfl (fun K hK => ?_)
    go_simp
    (with_reducible refine PL1.out.mono ?_); rintro e w5 ⟨v5, rfl, hI5, hb5⟩
    obtain ⟨a5, n5, c5, g5, rfl⟩ := hI5.shape4
    have hb5' := hb4'.trans (hb5.mono hb4'.size)
    have PL2 := hid (plusN_int (hIR.below hb5') (HU2.out.below hb5') BR.out hn)
    refine hK.out _ _ (.inr ⟨K2.later hb5', K3.later hb5', K4.later hb5'⟩) ?_
    clear hK K
    refine U_step (j := 6) (by kernel_rfl) rfl (fun K hK => ?_)
    go_simp
    (with_reducible refine PL2.out.mono ?_); rintro e w6 ⟨v6, rfl, hI6, hb6⟩
    obtain ⟨a6, n6, c6, g6, rfl⟩ := hI6.shape4
    have hb6' := hb5'.trans (hb6.mono hb5'.size)
    have M3 := K3.later hb6'
    have M4 := K4.later hb6'
    obtain ⟨⟨u1, u2, u3⟩, ⟨u4, u5, u6⟩⟩ := M3.three
    obtain ⟨⟨u7, u8, u9⟩, ⟨u10, u11, u12⟩⟩ := M4.three
    refine hK.out _ _ (.inl rfl) ?_
    clear hK K
    refine U_step (j := 7) (by kernel_rfl) rfl (fun K hK => ?_)
    go_simp
    refine hK.out _ _ (.inl rfl) ?_
    clear hK K
    refine U_step (j := 8) (by kernel_rfl) rfl (fun K hK => ?_)
    go_simp
    refine hK.out _ _ (.inl rfl) ?_
    clear hK K
    refine U_done (by kernel_rfl) ?_ _
    go_wp2
    have l3 := K3.lt
    have l4 := K4.lt
    have hs4 := hb4'.size
    have hs5 := hb5.size
    have hF5 : OwnInt _ W.heap.size _ (sgnInt true Q + -1) := (((hI5.keep hb6).mono hs4).set3 (b := w.heap.size + 1 + 1) l3 (.slice a5 n5 c5) (.bool g5) (.bool false)).set3 (b := w.heap.size + 1 + 1 + 1) l4 (.slice a6 n6 c6) (.bool g6) (.bool false)
    have hF6 : OwnInt _ W.heap.size _ (sgnInt sa R + b) := ((hI6.mono (Nat.le_trans hs4 hs5)).set3 (b := w.heap.size + 1 + 1) l3 (.slice a5 n5 c5) (.bool g5) (.bool false)).set3 (b := w.heap.size + 1 + 1 + 1) l4 (.slice a6 n6 c6) (.bool g6) (.bool false)
    have hbF := ((((((hbW.trans (hb6'.mono hbW.size)).setCell (p := ⟨w.heap.size + 1 + 1, 0, none⟩) (by simp; omega) (.slice a5 n5 c5)).setCell (p := ⟨w.heap.size + 1 + 1, 1, none⟩) (by simp; omega) (.bool g5)).setCell (p := ⟨w.heap.size + 1 + 1, 2, none⟩) (by simp; omega) (.bool false)).setCell (p := ⟨w.heap.size + 1 + 1 + 1, 0, none⟩) (by simp; omega) (.slice a6 n6 c6)).setCell (p := ⟨w.heap.size + 1 + 1 + 1, 1, none⟩) (by simp; omega) (.bool g6)).setCell (p := ⟨w.heap.size + 1 + 1 + 1, 2, none⟩) (by simp; omega) (.bool false)
    rw [← hd.out.1] at hF5
    rw [← hd.out.2] at hF6
    exact bodyPost_ret (v := .tuple #[.agg #[.slice a5 n5 c5, .bool g5, .bool false], .agg #[.slice a6 n6 c6, .bool g6, .bool false]]) (by simp [results, Tryz.results76, go_sem, u1, u2, u3, u7, u8, u9]) rfl ⟨_, _, rfl, hF5.mono hbW.size, hF6.mono hbW.size, hbF⟩
  · have hd := hid (HS.out.2 (by
      by_cases h0 : R = 0
      · exact .inl h0
      · right
        cases hb : (!(sa == sb))
        · rfl
        · exact absurd ⟨Nat.pos_of_ne_zero h0, hb⟩ hcond))
    by_cases h0 : R = 0
    · have hn0 : decide ((0 : Int) < (nlen R : Int)) = false := by rw [h0]; rfl
      have hn1 : ¬ (0 < nlen R) := by rw [h0]; decide
      clear hcond h0
      go_wp2
      go_region
      all_goals
        go_wp2
        have hqF := own_set3 (own_set3 hq3 (.slice qa (nlen Q) qc) (.bool (!(sa == sb) && decide (0 < Q))) (.bool false) (b := w.heap.size + 1 + 1) (by omega)) (.slice ra (nlen R) rc) (.bool (sa && decide (0 < R))) (.bool false) (b := w.heap.size + 1 + 1 + 1) (by omega)
        have hrF := own_set3 (own_set3 hr3 (.slice qa (nlen Q) qc) (.bool (!(sa == sb) && decide (0 < Q))) (.bool false) (b := w.heap.size + 1 + 1) (by omega)) (.slice ra (nlen R) rc) (.bool (sa && decide (0 < R))) (.bool false) (b := w.heap.size + 1 + 1 + 1) (by omega)
        have hbF := ((((((hbW.setCell (p := ⟨w.heap.size + 1 + 1, 0, none⟩) (by simp; omega) (.slice qa (nlen Q) qc)).setCell (p := ⟨w.heap.size + 1 + 1, 1, none⟩) (by simp; omega) (.bool (!(sa == sb) && decide (0 < Q)))).setCell (p := ⟨w.heap.size + 1 + 1, 2, none⟩) (by simp; omega) (.bool false)).setCell (p := ⟨w.heap.size + 1 + 1 + 1, 0, none⟩) (by simp; omega) (.slice ra (nlen R) rc)).setCell (p := ⟨w.heap.size + 1 + 1 + 1, 1, none⟩) (by simp; omega) (.bool (sa && decide (0 < R)))).setCell (p := ⟨w.heap.size + 1 + 1 + 1, 2, none⟩) (by simp; omega) (.bool false)).drew
        refine bodyPost_ret (v := .tuple #[.agg #[.slice qa (nlen Q) qc, .bool (!(sa == sb) && decide (0 < Q)), .bool false], .agg #[.slice ra (nlen R) rc, .bool (sa && decide (0 < R)), .bool false]]) (by simp [results, Tryz.results76, go_sem, x1, x2, x3, z1, z2, z3]) rfl ⟨_, _, rfl, ?_, ?_, hbF⟩
        · rw [hd.out.1]
          have hi : OwnInt _ w.heap.size _ _ := OwnInt.of (!(sa == sb)) (Own.mono (hqF.keep (Below.refl _ _).drew (Nat.le_refl _)) hb0.size)
          exact hi
        · rw [hd.out.2]
          exact OwnInt.of sa (Own.mono (hrF.keep (Below.refl _ _).drew (Nat.le_refl _)) hb0.size)
    · have hsab : (!(sa == sb)) = false := by
        cases hb : (!(sa == sb))
        · rfl
        · exact absurd ⟨Nat.pos_of_ne_zero h0, hb⟩ hcond
      have hn1 : 0 < nlen R := by have := nlen_eq_zero R; omega
      clear hcond h0
      go_wp2
      go_region
      all_goals
        go_wp2
        have hqF := own_set3 (own_set3 hq3 (.slice qa (nlen Q) qc) (.bool false) (.bool false) (b := w.heap.size + 1 + 1) (by omega)) (.slice ra (nlen R) rc) (.bool (sa && decide (0 < R))) (.bool false) (b := w.heap.size + 1 + 1 + 1) (by omega)
        have hrF := own_set3 (own_set3 hr3 (.slice qa (nlen Q) qc) (.bool false) (.bool false) (b := w.heap.size + 1 + 1) (by omega)) (.slice ra (nlen R) rc) (.bool (sa && decide (0 < R))) (.bool false) (b := w.heap.size + 1 + 1 + 1) (by omega)
        have hbF := ((((((hbW.setCell (p := ⟨w.heap.size + 1 + 1, 0, none⟩) (by simp; omega) (.slice qa (nlen Q) qc)).setCell (p := ⟨w.heap.size + 1 + 1, 1, none⟩) (by simp; omega) (.bool false)).setCell (p := ⟨w.heap.size + 1 + 1, 2, none⟩) (by simp; omega) (.bool false)).setCell (p := ⟨w.heap.size + 1 + 1 + 1, 0, none⟩) (by simp; omega) (.slice ra (nlen R) rc)).setCell (p := ⟨w.heap.size + 1 + 1 + 1, 1, none⟩) (by simp; omega) (.bool (sa && decide (0 < R)))).setCell (p := ⟨w.heap.size + 1 + 1 + 1, 2, none⟩) (by simp; omega) (.bool false)).drew
        refine bodyPost_ret (v := .tuple #[.agg #[.slice qa (nlen Q) qc, .bool false, .bool false], .agg #[.slice ra (nlen R) rc, .bool (sa && decide (0 < R)), .bool false]]) (by simp [results, Tryz.results76, go_sem, x1, x2, x3, z1, z2, z3]) rfl ⟨_, _, rfl, ?_, ?_, hbF⟩
        · rw [hd.out.1]
          have hi : OwnInt _ w.heap.size _ _ := OwnInt.of (!(sa == sb)) (Own.mono (hqF.keep (Below.refl _ _).drew (Nat.le_refl _)) hb0.size)
          rw [hsab] at hi ⊢
          exact hi
        · rw [hd.out.2]
          exact OwnInt.of sa (Own.mono (hrF.keep (Below.refl _ _).drew (Nat.le_refl _)) hb0.size)
end Go.Proofs.YtkhgoeippamobaaGreatDoor
