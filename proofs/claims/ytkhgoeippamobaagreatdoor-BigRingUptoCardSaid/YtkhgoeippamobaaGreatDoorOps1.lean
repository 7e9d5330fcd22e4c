/-
  The operations: Canonical, Valid, Add, Sub, Mul.
-/
import Derived.Test.YtkhgoeippamobaaGreatDoorTwo
import Derived.Test.YtkhgoeippamobaaGreatDoorNumInt
namespace Go.Proofs.YtkhgoeippamobaaGreatDoor
open Go.RowKit
theorem nlen_of_lt (n e : Nat) (h : n < 2 ^ e) : nlen n ≤ e / 32 + 1 := by
  rw [nlen_le_iff]
  exact Nat.lt_of_lt_of_le h (Nat.pow_le_pow_right (by decide) (by omega))
theorem nlen_sq (n : Nat) (h : n < big600 * big600) : nlen n ≤ 1000 := by
  have key : ∀ e, e = 2010 → big600 ≤ 2 ^ e → nlen n ≤ 1000 := by
    intro e he hb
    have h1 := Nat.mul_le_mul hb hb
    rw [← Nat.pow_add] at h1
    have h2 := nlen_of_lt n _ (Nat.lt_of_lt_of_le h h1)
    omega
  exact key _ rfl big600_le
theorem big600_two : 2 ≤ big600 := by
  unfold big600
  have h1 : 10 ≤ (10 ^ 60 : Nat) := by decide
  have h2 : 10 ≤ ((10 ^ 60) ^ 2 : Nat) := Nat.le_trans h1 (Nat.le_self_pow (by decide) _)
  have h3 : 10 ≤ (((10 ^ 60) ^ 2) ^ 5 : Nat) := Nat.le_trans h2 (Nat.le_self_pow (by decide) _)
  omega
theorem sum_sq (n m : Nat) (hn : n < big600) (hm : m < big600) : n + m < big600 * big600 := by
  have h := big600_two
  have := Nat.mul_le_mul_right big600 h
  omega
theorem IntV.fresh {z : Int} {w : World} {e : Ending} {w' : World} (h : FreshInt z w e w') (hl : nlen z.natAbs ≤ 1000000) : ∃ u, e = .returned u ∧ RNum w' u z ∧ Below w.heap.size w w' := by
  obtain ⟨v, rfl, h1, h2⟩ := h
  exact ⟨v, rfl, RNum.of_int h1.int hl, h2⟩
def canRes (a : List UInt8) : List UInt8 × Int := oneRes a 0 (pVal a)
def addRes (a b : List UInt8) : List UInt8 × Int := twoRes a b 0 (pVal a + pVal b)
def subRes (a b : List UInt8) : List UInt8 × Int := twoRes a b 0 (pVal a - pVal b)
def mulRes (a b : List UInt8) : List UInt8 × Int := twoRes a b 0 (pVal a * pVal b)
set_option maxRecDepth 100000 in
set_option maxHeartbeats 2000000 in
theorem canonical1 {v : Value} {z : Int} {w : World} (hv : IntV w v z) : Calls Tryz.prog 61 #[v] w fun e w' => ∃ u, e = .returned u ∧ IntV w' u z ∧ Below w.heap.size w w' := by
  obtain ⟨a, cap, rfl, h⟩ := hv.shape
  have hb : Below w.heap.size w ((w.alloc (.cells #[.slice a (nlen z.natAbs) cap, .bool (decide (z < 0)), .bool false] 49)).alloc (.cells #[.slice none 0 0, .bool false, .bool false] 49)) := ((Below.refl _ _).alloc (Nat.le_refl _) _).alloc (by simp) _
  go_enter Tryz.func61, Tryz.ntmps61
  go_wp2
  exact bodyPost_ret (v := .agg #[.slice a (nlen z.natAbs) cap, .bool (decide (z < 0)), .bool false]) (by simp [results, Tryz.results61, go_sem]) rfl ⟨_, rfl, hv.below ((Below.refl _ _).alloc (Nat.le_refl _) _ |>.alloc (by simp) _), (Below.refl _ _).alloc (Nat.le_refl _) _ |>.alloc (by simp) _⟩
theorem OwnInt.shape {w : World} {base : Nat} {v : Value} {z : Int} (h : OwnInt w base v z) : ∃ a c, v = .agg #[.slice a (nlen z.natAbs) c, .bool (decide (z < 0)), .bool false] := by
  obtain ⟨s, rfl, h1⟩ := h
  obtain ⟨a, c, rfl⟩ := h1.shape
  exact ⟨a, c, rfl⟩
set_option maxRecDepth 100000 in
set_option maxHeartbeats 4000000 in
theorem sub1 {v u : Value} {x y : Int} {w : World} (hv : IntV w v x) (hu : IntV w u y) (hx : nlen x.natAbs ≤ 1000) (hy : nlen y.natAbs ≤ 1000) (hxy : nlen (x + -y).natAbs ≤ 1000) : Calls Tryz.prog 57 #[v, u] w fun e w' => ∃ s, e = .returned s ∧ IntV w' s (x + -y) ∧ Below w.heap.size w w' := by
  obtain ⟨a1, m, c1, sa, rfl⟩ := hv.shape4
  obtain ⟨a2, n, c2, sb, rfl⟩ := hu.shape4
  have k1 := Blk.new w #[.slice a1 m c1, .bool sa, .bool false] 49
  have k2 := Blk.new (w.alloc (.cells #[.slice a1 m c1, .bool sa, .bool false] 49)) #[.slice a2 n c2, .bool sb, .bool false] 49
  have k3 := Blk.new ((w.alloc (.cells #[.slice a1 m c1, .bool sa, .bool false] 49)).alloc (.cells #[.slice a2 n c2, .bool sb, .bool false] 49)) #[.slice none 0 0, .bool false, .bool false] 49
  simp only [World.size_alloc] at k2 k3
  have k1' := (k1.alloc (.cells #[.slice a2 n c2, .bool sb, .bool false] 49)).alloc (.cells #[.slice none 0 0, .bool false, .bool false] 49)
  have k2' := k2.alloc (.cells #[.slice none 0 0, .bool false, .bool false] 49)
  have hb0 : Below w.heap.size w (((w.alloc (.cells #[.slice a1 m c1, .bool sa, .bool false] 49)).alloc (.cells #[.slice a2 n c2, .bool sb, .bool false] 49)).alloc (.cells #[.slice none 0 0, .bool false, .bool false] 49)) := (((Below.refl _ _).alloc (Nat.le_refl _) _).alloc (by simp) _).alloc (by simp; omega) _
  go_enter Tryz.func57, Tryz.ntmps57
  go_wp2_with fail
  generalize ((w.alloc (.cells #[.slice a1 m c1, .bool sa, .bool false] 49)).alloc (.cells #[.slice a2 n c2, .bool sb, .bool false] 49)).alloc (.cells #[.slice none 0 0, .bool false, .bool false] 49) = w0 at *
  clear k1 k2
  have hvd := hv.below hb0.drew
  have hud := hu.below hb0.drew
  have hc1 := hid (opposite_int hud (by omega))
  have hsz0 := hb0.size
  have hsz3 := k3.lt
  refine U_begin (late := fun i => decide (4 ≤ i)) (S := fun u => Blk u w.heap.size #[.slice a1 m c1, .bool sa, .bool false] 49 ∧ Blk u (w.heap.size + 1) #[.slice a2 n c2, .bool sb, .bool false] 49) (by kernel_rfl) ?_
  refine U_take (i := 0) (v := .agg #[.slice a1 m c1, .bool sa, .bool false]) rfl (by kernel_rfl) (by kernel_rfl) (by kernel_rfl) (by kernel_rfl) (by kernel_rfl) (fun _ _ _ h => h) (.inl ⟨rfl, fun u hu => (by obtain ⟨⟨h1, h2, h3⟩, _⟩ := hu.1.three; go_simp)⟩) ⟨k1'.drew, k2'.drew⟩ ?_
  refine U_take (i := 1) (v := .agg #[.slice a2 n c2, .bool sb, .bool false]) rfl (by kernel_rfl) (by kernel_rfl) (by kernel_rfl) (by kernel_rfl) (by kernel_rfl) (fun _ _ _ h => h) (.inl ⟨rfl, fun u hu => (by obtain ⟨⟨h1, h2, h3⟩, _⟩ := hu.2.three; go_simp)⟩) ⟨k1'.drew, k2'.drew⟩ ?_
  refine U_step (j := 2) (by kernel_rfl) rfl (fun K hK => ?_)
  go_simp
  (with_reducible refine hc1.out.mono ?_); rintro e w1 ⟨r, rfl, hr, hb1⟩
  have hc2 := hid (plusN_int (hvd.below hb1) hr (by omega) (by rw [Int.natAbs_neg]; omega))
  have k31 := k3.drew.later hb1
  obtain ⟨ra, rn, rc, rb, rfl⟩ := hr.shape4
  refine hK.out _ _ (.inr ⟨k1'.drew.later hb1, k2'.drew.later hb1⟩) ?_
  clear hK K
  refine U_step (j := 3) (by kernel_rfl) rfl (fun K hK => ?_)
  go_simp
  (with_reducible refine hc2.out.mono ?_); rintro e w2 ⟨s, rfl, hs, hb2⟩
  obtain ⟨sa1, sn, sc1, sb1, rfl⟩ := hs.shape4
  refine hK.out _ _ (.inr ⟨(k1'.drew.later hb1).later hb2, (k2'.drew.later hb1).later hb2⟩) ?_
  clear hK K
  obtain ⟨⟨r1, r2, r3⟩, ⟨s1, s2, s3⟩⟩ := (k31.later hb2).three
  refine U_step (j := 4) (by kernel_rfl) rfl (fun K hK => ?_)
  go_simp
  refine hK.out _ _ (.inl rfl) ?_
  clear hK K
  refine U_done (by kernel_rfl) ?_ _
  go_wp2
  have hbE : Below w.heap.size w w2 := hb0.drew.trans ((hb1.mono hsz0).trans (hb2.mono (Nat.le_trans hsz0 hb1.size)))
  have hF := (hs.mono (Nat.le_trans (show w.heap.size + 1 + 1 + 1 ≤ w0.heap.size from hsz3) hb1.size)).set3 (b := w.heap.size + 1 + 1) (Nat.lt_succ_self _) (.slice sa1 sn sc1) (.bool sb1) (.bool false)
  have hbF := ((hbE.setCell (p := ⟨w.heap.size + 1 + 1, 0, none⟩) (by simp; omega) (.slice sa1 sn sc1)).setCell (p := ⟨w.heap.size + 1 + 1, 1, none⟩) (by simp; omega) (.bool sb1)).setCell (p := ⟨w.heap.size + 1 + 1, 2, none⟩) (by simp; omega) (.bool false)
  exact bodyPost_ret (v := .agg #[.slice sa1 sn sc1, .bool sb1, .bool false]) (by simp [results, Tryz.results57, go_sem, r1, r2, r3]) rfl ⟨_, rfl, hF.int, hbF⟩
theorem add_fn (a b : List UInt8) (ha : a.length ≤ 1000000000) (hb : b.length ≤ 1000000000) (w : World) :
    Calls Tryz.prog 12 #[.string ⟨a.toArray⟩, .string ⟨b.toArray⟩] w fun e w' => e = .returned (.tuple #[.string ⟨(addRes a b).1.toArray⟩, .int .i64 (addRes a b).2]) ∧ Below w.heap.size w w' := by
  have hc := hid (two_fn a b ha hb 55 56 #[] #[] 0 (pVal a + pVal b) w (enters_of Tryz.func55 (by kernel_rfl) rfl) (enters_of Tryz.func56 (by kernel_rfl) rfl)
    (fun _ _ w1 v u _ h1 h2 => by
      obtain ⟨n, lg, h1, _⟩ := h1
      obtain ⟨m, lg', h2, _⟩ := h2
      exact neither_fn h1 h2)
    (fun _ _ _ s1 s2 w1 v u _ h1 h2 h3 h4 => (plusN_int h1 h3 (by omega) (by omega)).mono fun e w' h => IntV.fresh h (by
      have := nlen_sq _ (sum_sq _ _ s1 s2)
      have := nlen_mono (Int.natAbs_add_le (pVal a) (pVal b))
      omega)))
  go_enter Tryz.func12, Tryz.ntmps12
  go_wp2_with fail
  (with_reducible refine hc.out.mono ?_); rintro e w1 ⟨rfl, hb1⟩
  go_wp2
  go_ret2
  exact ⟨rfl, hb1⟩
theorem sub_fn (a b : List UInt8) (ha : a.length ≤ 1000000000) (hb : b.length ≤ 1000000000) (w : World) :
    Calls Tryz.prog 13 #[.string ⟨a.toArray⟩, .string ⟨b.toArray⟩] w fun e w' => e = .returned (.tuple #[.string ⟨(subRes a b).1.toArray⟩, .int .i64 (subRes a b).2]) ∧ Below w.heap.size w w' := by
  have hc := hid (two_fn a b ha hb 55 57 #[] #[] 0 (pVal a - pVal b) w (enters_of Tryz.func55 (by kernel_rfl) rfl) (enters_of Tryz.func57 (by kernel_rfl) rfl)
    (fun _ _ w1 v u _ h1 h2 => by
      obtain ⟨n, lg, h1, _⟩ := h1
      obtain ⟨m, lg', h2, _⟩ := h2
      exact neither_fn h1 h2)
    (fun _ _ _ s1 s2 w1 v u _ h1 h2 h3 h4 => by
      have hn : nlen (pVal a + -pVal b).natAbs ≤ 1000 := by
        have h5 := nlen_sq _ (sum_sq _ _ s1 s2)
        have h6 := nlen_mono (Int.natAbs_add_le (pVal a) (-pVal b))
        rw [Int.natAbs_neg] at h6
        omega
      refine (sub1 h1 h3 h2 h4 hn).mono ?_
      rintro e w' ⟨s, rfl, hs, hb⟩
      exact ⟨s, rfl, RNum.of_int hs (Nat.le_trans hn (by decide)), hb⟩))
  go_enter Tryz.func13, Tryz.ntmps13
  go_wp2_with fail
  (with_reducible refine hc.out.mono ?_); rintro e w1 ⟨rfl, hb1⟩
  go_wp2
  go_ret2
  exact ⟨rfl, hb1⟩
theorem mul_fn (a b : List UInt8) (ha : a.length ≤ 1000000000) (hb : b.length ≤ 1000000000) (w : World) :
    Calls Tryz.prog 15 #[.string ⟨a.toArray⟩, .string ⟨b.toArray⟩] w fun e w' => e = .returned (.tuple #[.string ⟨(mulRes a b).1.toArray⟩, .int .i64 (mulRes a b).2]) ∧ Below w.heap.size w w' := by
  have hc := hid (two_fn a b ha hb 55 62 #[] #[] 0 (pVal a * pVal b) w (enters_of Tryz.func55 (by kernel_rfl) rfl) (enters_of Tryz.func62 (by kernel_rfl) rfl)
    (fun _ _ w1 v u _ h1 h2 => by
      obtain ⟨n, lg, h1, _⟩ := h1
      obtain ⟨m, lg', h2, _⟩ := h2
      exact neither_fn h1 h2)
    (fun _ _ _ s1 s2 w1 v u _ h1 h2 h3 h4 => (timesN_int h1 h3 (by omega) (by omega)).mono fun e w' h => IntV.fresh h (by
      rw [Int.natAbs_mul]
      have := nlen_sq _ (Nat.mul_lt_mul'' s1 s2)
      omega)))
  go_enter Tryz.func15, Tryz.ntmps15
  go_wp2_with fail
  (with_reducible refine hc.out.mono ?_); rintro e w1 ⟨rfl, hb1⟩
  go_wp2
  go_ret2
  exact ⟨rfl, hb1⟩
theorem can_fn (a : List UInt8) (ha : a.length ≤ 1000000000) (w : World) :
    Calls Tryz.prog 14 #[.string ⟨a.toArray⟩] w fun e w' => e = .returned (.tuple #[.string ⟨(canRes a).1.toArray⟩, .int .i64 (canRes a).2]) ∧ Below w.heap.size w w' := by
  have hc := hid (one_fn a ha 60 61 #[] #[] 0 (pVal a) w w.heap.size (Nat.le_refl _) (enters_of Tryz.func60 (by kernel_rfl) rfl) (enters_of Tryz.func61 (by kernel_rfl) rfl)
    (fun _ w1 v _ h1 => by
      obtain ⟨n, lg, h1, _⟩ := h1
      exact never_fn h1)
    (fun _ _ _ w1 v hb h1 h2 => (canonical1 h1).mono fun e w' h => by
      obtain ⟨u, rfl, h3, h4⟩ := h
      exact ⟨u, rfl, RNum.of_int h3 (by omega), h4.mono hb.size⟩))
  go_enter Tryz.func14, Tryz.ntmps14
  go_wp2_with fail
  (with_reducible refine hc.out.mono ?_); rintro e w1 ⟨rfl, hb1⟩
  go_wp2
  go_ret2
  exact ⟨rfl, hb1⟩
/-- whether a text is a number that is not too long -/
def validRes (a : List UInt8) : Bool := (canRes a).2 == 0
theorem valid_fn (a : List UInt8) (ha : a.length ≤ 1000000000) (w : World) :
    Calls Tryz.prog 18 #[.string ⟨a.toArray⟩] w fun e w' => e = .returned (.bool (validRes a)) ∧ Below w.heap.size w w' := by
  have hc := hid (can_fn a ha w)
  unfold validRes
  generalize canRes a = r at hc ⊢
  obtain ⟨r1, r2⟩ := r
  have hc := hid hc.out
  go_enter Tryz.func18, Tryz.ntmps18
  go_wp2_with fail
  (with_reducible refine hc.out.mono ?_); rintro e w1 ⟨rfl, hb1⟩
  go_wp2
  go_ret
  exact ⟨rfl, hb1⟩
end Go.Proofs.YtkhgoeippamobaaGreatDoor
