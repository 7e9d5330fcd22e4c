/-
  The operations: Div, Base.
-/
import Derived.Test.YtkhgoeippamobaaGreatDoorOps1
namespace Go.Proofs.YtkhgoeippamobaaGreatDoor
open Go.RowKit
theorem fmod_abs (a b : Int) (hb : b ≠ 0) : (a.fmod b).natAbs ≤ b.natAbs := by
  obtain ⟨h1, h2⟩ := fdiv_sizes a b hb
  have hlt : a.natAbs % b.natAbs < b.natAbs := Nat.mod_lt _ (by omega)
  by_cases hc : 0 < a.natAbs % b.natAbs ∧ (!(decide (a < 0) == decide (b < 0))) = true
  · rw [(h1 hc.1 hc.2).2]
    have h3 := hc.2
    generalize a.natAbs % b.natAbs = R at *
    by_cases ha : a < 0
    · by_cases hb2 : b < 0
      · rw [decide_eq_true ha, decide_eq_true hb2] at h3; cases h3
      · rw [decide_eq_true ha]; unfold sgnInt; rw [if_pos rfl]; omega
    · by_cases hb2 : b < 0
      · rw [decide_eq_false ha]; unfold sgnInt; rw [if_neg (by decide)]; omega
      · rw [decide_eq_false ha, decide_eq_false hb2] at h3; cases h3
  · rw [(h2 (by
      by_cases h0 : 0 < a.natAbs % b.natAbs
      · right
        cases hh : (!(decide (a < 0) == decide (b < 0)))
        · rfl
        · exact absurd ⟨h0, hh⟩ hc
      · left; omega)).2, sgnInt_abs]
    omega
set_option maxRecDepth 100000 in
set_option maxHeartbeats 2000000 in
theorem div1 {v u : Value} {x y : Int} {w : World} (hv : PNum w v x) (hu : PNum w u y) (pe : Int) (hpe : pe = if y = 0 then 10 else 0) : Calls Tryz.prog 74 #[v, u] w fun e w' => e = .returned (.int .i64 pe) ∧ Below w.heap.size w w' := by
  obtain ⟨n1, l1, ⟨s1, rfl, h1⟩, -⟩ := hv
  obtain ⟨n, lg, hN, e1, e2, -⟩ := hu
  have HPE := hid hpe
  clear hpe
  have hs : sgn n (decide (y < 0)) lg = 0 ↔ y = 0 := by
    have hp := big600_pos
    unfold sgn
    by_cases hy : y < 0
    · rw [decide_eq_true hy]; simp; omega
    · rw [decide_eq_false hy]
      cases lg with
      | false =>
        have h2 := e1 rfl
        by_cases h3 : 0 < n
        · simp [h3]; omega
        · simp [h3]; omega
      | true =>
        have h2 : big600 ≤ y.natAbs := of_decide_eq_true e2.symm
        simp; omega
  have HS := hid hs
  clear hs e1 e2
  have hb0 : ∀ o1 o2 : Obj, Below w.heap.size w ((w.alloc o1).alloc o2) := fun o1 o2 => ((Below.refl _ _).alloc (Nat.le_refl _) _).alloc (by simp) _
  have hc := fun o1 o2 => hid (sign_nat (hN.below (hb0 o1 o2)))
  obtain ⟨a1, c1, rfl⟩ := h1.shape
  obtain ⟨s, rfl, h⟩ := hN
  obtain ⟨a2, c2, rfl⟩ := h.shape
  generalize sgn n (decide (y < 0)) lg = S at *
  have hb1 := hb0 (.cells #[.slice a1 (nlen n1) c1, .bool (decide (x < 0)), .bool l1] 49) (.cells #[.slice a2 (nlen n) c2, .bool (decide (y < 0)), .bool lg] 49)
  clear hb0
  by_cases hS : S = 0
  · have hy := HS.out.1 hS
    have HE := hid (show pe = 10 by rw [HPE.out, if_pos hy])
    subst hS
    clear hy
    go_enter Tryz.func74, Tryz.ntmps74
    go_wp2_with fail
    (with_reducible refine (hc _ _).out.mono ?_); rintro e w1 ⟨rfl, hb2⟩
    go_wp2
    go_ret
    exact ⟨by rw [HE.out]; rfl, hb1.trans (hb2.mono hb1.size)⟩
  · have hy := fun h => hS (HS.out.2 h)
    have HE := hid (show pe = 0 by rw [HPE.out, if_neg hy])
    have hS' : (S == 0) = false := by rw [beq_eq_false_iff_ne]; exact hS
    clear hy
    go_enter Tryz.func74, Tryz.ntmps74
    go_wp2_with fail
    (with_reducible refine (hc _ _).out.mono ?_); rintro e w1 ⟨rfl, hb2⟩
    go_wp2
    go_ret
    exact ⟨by rw [HE.out]; rfl, hb1.trans (hb2.mono hb1.size)⟩
set_option maxRecDepth 100000 in
set_option maxHeartbeats 4000000 in
theorem div2 {v u : Value} {x y : Int} {w : World} (hv : IntV w v x) (hu : IntV w u y) (hx : nlen x.natAbs ≤ 1000) (hy : nlen y.natAbs ≤ 1000) (hy0 : y ≠ 0) : Calls Tryz.prog 75 #[v, u] w fun e w' => ∃ s, e = .returned s ∧ IntV w' s (x.fdiv y) ∧ Below w.heap.size w w' := by
  have hb0 : ∀ o1 o2 o3 : Obj, Below w.heap.size w (((w.alloc o1).alloc o2).alloc o3) := fun o1 o2 o3 => (((Below.refl _ _).alloc (Nat.le_refl _) _).alloc (by simp) _).alloc (by simp; omega) _
  have hc := fun o1 o2 o3 => hid (overN (hv.below (hb0 o1 o2 o3)) (hu.below (hb0 o1 o2 o3)) (by omega) (by omega) hy0)
  obtain ⟨a1, m, c1, sa, rfl⟩ := hv.shape4
  obtain ⟨a2, n, c2, sb, rfl⟩ := hu.shape4
  have k3 := Blk.new ((w.alloc (.cells #[.slice a1 m c1, .bool sa, .bool false] 49)).alloc (.cells #[.slice a2 n c2, .bool sb, .bool false] 49)) #[.slice none 0 0, .bool false, .bool false] 49
  have hbA := hb0 (.cells #[.slice a1 m c1, .bool sa, .bool false] 49) (.cells #[.slice a2 n c2, .bool sb, .bool false] 49) (.cells #[.slice none 0 0, .bool false, .bool false] 49)
  simp only [World.size_alloc] at k3
  go_enter Tryz.func75, Tryz.ntmps75
  go_wp2_with fail
  (with_reducible refine (hc _ _ _).out.mono ?_); rintro e w1 ⟨q, r, rfl, hq, hr, hb1⟩
  have hsz0 := hbA.size
  have hsz3 := k3.lt
  have hz1 := hb1.size
  obtain ⟨qa, qn, qc, qb, rfl⟩ := hq.shape4
  obtain ⟨ra, rn, rc, rb, rfl⟩ := hr.shape4
  have hbB : Below w1.heap.size w1 ((w1.alloc (.cells #[.slice qa qn qc, .bool qb, .bool false] 49)).alloc (.cells #[.slice ra rn rc, .bool rb, .bool false] 49)) := ((Below.refl _ _).alloc (Nat.le_refl _) _).alloc (by simp) _
  have kE := (k3.later hb1).later hbB
  obtain ⟨⟨r1, r2, r3⟩, ⟨s1, s2, s3⟩⟩ := kE.three
  have hqE := (hq.keep hbB).mono (Nat.le_trans (show w.heap.size + 1 + 1 + 1 ≤ _ from hsz3) (Nat.le_refl _))
  have hrE := (hr.keep hbB).mono (Nat.le_trans (show w.heap.size + 1 + 1 + 1 ≤ _ from hsz3) (Nat.le_refl _))
  have hbE := hbA.trans ((hb1.mono hsz0).trans (hbB.mono (Nat.le_trans hsz0 hz1)))
  clear hc hb0 k3
  have hF := hqE.set3 (b := w.heap.size + 1 + 1) (Nat.lt_succ_self _) (.slice qa qn qc) (.bool qb) (.bool false)
  have hbF := ((hbE.setCell (p := ⟨w.heap.size + 1 + 1, 0, none⟩) (by simp; omega) (.slice qa qn qc)).setCell (p := ⟨w.heap.size + 1 + 1, 1, none⟩) (by simp; omega) (.bool qb)).setCell (p := ⟨w.heap.size + 1 + 1, 2, none⟩) (by simp; omega) (.bool false)
  go_wp2
  exact bodyPost_ret (v := .agg #[.slice qa qn qc, .bool qb, .bool false]) (by simp [results, Tryz.results75, go_sem, r1, r2, r3]) rfl ⟨_, rfl, hF.int, hbF⟩
set_option maxRecDepth 100000 in
set_option maxHeartbeats 4000000 in
theorem div3 {v u : Value} {x y : Int} {w : World} (hv : IntV w v x) (hu : IntV w u y) (hx : nlen x.natAbs ≤ 1000) (hy : nlen y.natAbs ≤ 1000) (hy0 : y ≠ 0) : Calls Tryz.prog 77 #[v, u] w fun e w' => ∃ s, e = .returned s ∧ IntV w' s (x.fmod y) ∧ Below w.heap.size w w' := by
  have hb0 : ∀ o1 o2 o3 : Obj, Below w.heap.size w (((w.alloc o1).alloc o2).alloc o3) := fun o1 o2 o3 => (((Below.refl _ _).alloc (Nat.le_refl _) _).alloc (by simp) _).alloc (by simp; omega) _
  have hc := fun o1 o2 o3 => hid (overN (hv.below (hb0 o1 o2 o3)) (hu.below (hb0 o1 o2 o3)) (by omega) (by omega) hy0)
  obtain ⟨a1, m, c1, sa, rfl⟩ := hv.shape4
  obtain ⟨a2, n, c2, sb, rfl⟩ := hu.shape4
  have k3 := Blk.new ((w.alloc (.cells #[.slice a1 m c1, .bool sa, .bool false] 49)).alloc (.cells #[.slice a2 n c2, .bool sb, .bool false] 49)) #[.slice none 0 0, .bool false, .bool false] 49
  have hbA := hb0 (.cells #[.slice a1 m c1, .bool sa, .bool false] 49) (.cells #[.slice a2 n c2, .bool sb, .bool false] 49) (.cells #[.slice none 0 0, .bool false, .bool false] 49)
  simp only [World.size_alloc] at k3
  go_enter Tryz.func77, Tryz.ntmps77
  go_wp2_with fail
  (with_reducible refine (hc _ _ _).out.mono ?_); rintro e w1 ⟨q, r, rfl, hq, hr, hb1⟩
  have hsz0 := hbA.size
  have hsz3 := k3.lt
  have hz1 := hb1.size
  obtain ⟨qa, qn, qc, qb, rfl⟩ := hq.shape4
  obtain ⟨ra, rn, rc, rb, rfl⟩ := hr.shape4
  have hbB : Below w1.heap.size w1 ((w1.alloc (.cells #[.slice qa qn qc, .bool qb, .bool false] 49)).alloc (.cells #[.slice ra rn rc, .bool rb, .bool false] 49)) := ((Below.refl _ _).alloc (Nat.le_refl _) _).alloc (by simp) _
  have kE := (k3.later hb1).later hbB
  obtain ⟨⟨r1, r2, r3⟩, ⟨s1, s2, s3⟩⟩ := kE.three
  have hqE := (hq.keep hbB).mono (Nat.le_trans (show w.heap.size + 1 + 1 + 1 ≤ _ from hsz3) (Nat.le_refl _))
  have hrE := (hr.keep hbB).mono (Nat.le_trans (show w.heap.size + 1 + 1 + 1 ≤ _ from hsz3) (Nat.le_refl _))
  have hbE := hbA.trans ((hb1.mono hsz0).trans (hbB.mono (Nat.le_trans hsz0 hz1)))
  clear hc hb0 k3
  have hF := hrE.set3 (b := w.heap.size + 1 + 1) (Nat.lt_succ_self _) (.slice ra rn rc) (.bool rb) (.bool false)
  have hbF := ((hbE.setCell (p := ⟨w.heap.size + 1 + 1, 0, none⟩) (by simp; omega) (.slice ra rn rc)).setCell (p := ⟨w.heap.size + 1 + 1, 1, none⟩) (by simp; omega) (.bool rb)).setCell (p := ⟨w.heap.size + 1 + 1, 2, none⟩) (by simp; omega) (.bool false)
  go_wp2
  exact bodyPost_ret (v := .agg #[.slice ra rn rc, .bool rb, .bool false]) (by simp [results, Tryz.results77, go_sem, r1, r2, r3]) rfl ⟨_, rfl, hF.int, hbF⟩
/-- Div's error that comes first -/
def divPe (b : List UInt8) : Int := if pVal b = 0 then 10 else 0
def quoRes (a b : List UInt8) : List UInt8 × Int := twoRes a b (divPe b) ((pVal a).fdiv (pVal b))
def remRes (a b : List UInt8) : List UInt8 × Int := twoRes a b (divPe b) ((pVal a).fmod (pVal b))
/-- what 'Div' answers -/
def divVal (a b : List UInt8) : Value := if (quoRes a b).2 = 0 then .tuple #[.string ⟨(quoRes a b).1.toArray⟩, .string ⟨(remRes a b).1.toArray⟩, .int .i64 (remRes a b).2] else .tuple #[.string ⟨#[]⟩, .string ⟨#[]⟩, .int .i64 (quoRes a b).2]
set_option maxRecDepth 100000 in
set_option maxHeartbeats 2000000 in
theorem div_fn (a b : List UInt8) (ha : a.length ≤ 1000000000) (hb : b.length ≤ 1000000000) (w : World) :
    Calls Tryz.prog 25 #[.string ⟨a.toArray⟩, .string ⟨b.toArray⟩] w fun e w' => e = .returned (divVal a b) ∧ Below w.heap.size w w' := by
  have hne : divPe b = 0 → pVal b ≠ 0 := fun h h0 => by unfold divPe at h; rw [if_pos h0] at h; cases h
  have hq := fun w => hid (two_fn a b ha hb 74 75 #[] #[] (divPe b) ((pVal a).fdiv (pVal b)) w (enters_of Tryz.func74 (by kernel_rfl) rfl) (enters_of Tryz.func75 (by kernel_rfl) rfl)
    (fun _ _ w1 v u _ h1 h2 => div1 h1 h2 _ rfl)
    (fun _ _ h0 s1 s2 w1 v u _ h1 h2 h3 h4 => (div2 h1 h3 h2 h4 (hne h0)).mono fun e w' h => by
      obtain ⟨s, rfl, hs, hb⟩ := h
      refine ⟨s, rfl, RNum.of_int hs ?_, hb⟩
      have := nlen_mono (Int.natAbs_fdiv_le_natAbs (pVal a) (pVal b))
      omega))
  have hr := fun w => hid (two_fn a b ha hb 74 77 #[] #[] (divPe b) ((pVal a).fmod (pVal b)) w (enters_of Tryz.func74 (by kernel_rfl) rfl) (enters_of Tryz.func77 (by kernel_rfl) rfl)
    (fun _ _ w1 v u _ h1 h2 => div1 h1 h2 _ rfl)
    (fun _ _ h0 s1 s2 w1 v u _ h1 h2 h3 h4 => (div3 h1 h3 h2 h4 (hne h0)).mono fun e w' h => by
      obtain ⟨s, rfl, hs, hb⟩ := h
      refine ⟨s, rfl, RNum.of_int hs ?_, hb⟩
      have := nlen_mono (fmod_abs (pVal a) (pVal b) (hne h0))
      omega))
  have hQ : ∀ w, Hid (Calls Tryz.prog 54 #[.string ⟨a.toArray⟩, .string ⟨b.toArray⟩, .func (.func 74) #[] #[], .func (.func 75) #[] #[]] w fun e w' => e = .returned (.tuple #[.string ⟨(quoRes a b).1.toArray⟩, .int .i64 (quoRes a b).2]) ∧ Below w.heap.size w w') := hq
  have hR : ∀ w, Hid (Calls Tryz.prog 54 #[.string ⟨a.toArray⟩, .string ⟨b.toArray⟩, .func (.func 74) #[] #[], .func (.func 77) #[] #[]] w fun e w' => e = .returned (.tuple #[.string ⟨(remRes a b).1.toArray⟩, .int .i64 (remRes a b).2]) ∧ Below w.heap.size w w') := hr
  have HV := hid (show divVal a b = if (quoRes a b).2 = 0 then .tuple #[.string ⟨(quoRes a b).1.toArray⟩, .string ⟨(remRes a b).1.toArray⟩, .int .i64 (remRes a b).2] else .tuple #[.string ⟨#[]⟩, .string ⟨#[]⟩, .int .i64 (quoRes a b).2] from rfl)
  clear hq hr hne
  generalize divVal a b = V at *
  generalize quoRes a b = q at *
  generalize remRes a b = r at *
  obtain ⟨q1, q2⟩ := q
  obtain ⟨r1, r2⟩ := r
  have HQ := fun w => hid (hQ w).out
  have HR := fun w => hid (hR w).out
  clear hQ hR
  by_cases h0 : q2 = 0
  · subst h0
    go_enter Tryz.func25, Tryz.ntmps25
    go_wp2_with fail
    (with_reducible refine (HQ _).out.mono ?_); rintro e w1 ⟨rfl, hb1⟩
    go_wp2_with fail
    (with_reducible refine (HR _).out.mono ?_); rintro e w2 ⟨rfl, hb2⟩
    go_wp2
    refine bodyPost_ret (v := .tuple #[.string ⟨q1.toArray⟩, .string ⟨r1.toArray⟩, .int .i64 r2]) (by simp [results, Tryz.results25, go_sem]) rfl ⟨by rw [HV.out]; rfl, hb1.trans (hb2.mono hb1.size)⟩
  · have hq0 : (q2 == 0) = false := by rw [beq_eq_false_iff_ne]; exact h0
    have HV2 := hid (show V = .tuple #[.string ⟨#[]⟩, .string ⟨#[]⟩, .int .i64 q2] by rw [HV.out, if_neg h0])
    go_enter Tryz.func25, Tryz.ntmps25
    go_wp2_with fail
    (with_reducible refine (HQ _).out.mono ?_); rintro e w1 ⟨rfl, hb1⟩
    go_wp2
    refine bodyPost_ret (v := .tuple #[.string ⟨#[]⟩, .string ⟨#[]⟩, .int .i64 q2]) (by simp [results, Tryz.results25, go_sem]) rfl ⟨by rw [HV2.out], hb1⟩
end Go.Proofs.YtkhgoeippamobaaGreatDoor
