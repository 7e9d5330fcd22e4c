/-
  Sums of integers.
-/
import Derived.Test.YtkhgoeippamobaaGreatDoorNum
import Derived.Deep.RegionHeld3
namespace Go.Proofs.YtkhgoeippamobaaGreatDoor
open Go.RowKit
theorem nlen_add_le (m n : Nat) : nlen (m + n) ≤ max (nlen m) (nlen n) + 1 := (nlen_le_iff _ _).2 (sum_lt m n)
theorem cell_set3 {w : World} {b c : Nat} (i : Nat) (x y z : Value) (h : c ≠ b) : (((w.setCell ⟨b, 0, none⟩ x).setCell ⟨b, 1, none⟩ y).setCell ⟨b, 2, none⟩ z).cell? ⟨c, i, none⟩ = w.cell? ⟨c, i, none⟩ :=
  World.cell?_of_block (a := ⟨c, i, none⟩) (((Below.heap_setCell _ _ _ _ h).trans (Below.heap_setCell _ _ _ _ h)).trans (Below.heap_setCell _ _ _ _ h))
theorem Blk.set3 {w : World} {b : Nat} {x y z : Value} {t : TypeId} (h : Blk w b #[x, y, z] t) (x' y' z' : Value) : Blk (((w.setCell ⟨b, 0, none⟩ x').setCell ⟨b, 1, none⟩ y').setCell ⟨b, 2, none⟩ z') b #[x', y', z'] t := by
  have h0 : w.heap[b]? = _ := h
  have h1 := heap_setCell_same w b 0 _ t x' h0
  have h2 := heap_setCell_same _ b 1 _ t y' h1
  have h3 := heap_setCell_same _ b 2 _ t z' h2
  exact h3
theorem Blk.set3_ne {w : World} {b c : Nat} {cs : Array Value} {t : TypeId} (h : Blk w c cs t) (hne : c ≠ b) (x y z : Value) : Blk (((w.setCell ⟨b, 0, none⟩ x).setCell ⟨b, 1, none⟩ y).setCell ⟨b, 2, none⟩ z) c cs t :=
  ((Below.heap_setCell _ _ _ _ hne).trans ((Below.heap_setCell _ _ _ _ hne).trans (Below.heap_setCell _ _ _ _ hne))).trans h
theorem own_set3 {ik : IntKind} {e : TypeId} {w : World} {base b n : Nat} {v : Value} {f : Nat → Nat} (h : Own ik e w base v n f) (x y z : Value) (hb : b < base) : Own ik e (((w.setCell ⟨b, 0, none⟩ x).setCell ⟨b, 1, none⟩ y).setCell ⟨b, 2, none⟩ z) base v n f :=
  ownsRow_setCell_below (ownsRow_setCell_below (ownsRow_setCell_below h (a := ⟨b, 0, none⟩) hb x) (a := ⟨b, 1, none⟩) hb y) (a := ⟨b, 2, none⟩) hb z
/-- a number, whatever its sign, that is not too long, in new memory -/
def FreshNum (n : Nat) (neg : Bool) (w : World) (e : Ending) (w' : World) : Prop := ∃ s, e = .returned (.agg #[s, .bool (neg && decide (0 < n)), .bool false]) ∧ Own .u32 75 w' w.heap.size s (nlen n) (D n) ∧ Below w.heap.size w w'
set_option maxRecDepth 100000 in
set_option maxHeartbeats 4000000 in
theorem plus_same {a1 a2 : Option Addr} {c1 c2 m n : Nat} {w : World} (hs : NatRep w (.slice a1 (nlen m) c1) m) (ht : NatRep w (.slice a2 (nlen n) c2) n) (hm : nlen m ≤ 1000000) (hn : nlen n ≤ 1000000) (sa sb : Bool) (hsg : (sa == sb) = true) :
    Calls Tryz.prog 56 #[.agg #[.slice a1 (nlen m) c1, .bool sa, .bool false], .agg #[.slice a2 (nlen n) c2, .bool sb, .bool false]] w (FreshNum (m + n) sa w) := by
  have k1 := Blk.new w #[.slice a1 (nlen m) c1, .bool sa, .bool false] 49
  have k2 := Blk.new (w.alloc (.cells #[.slice a1 (nlen m) c1, .bool sa, .bool false] 49)) #[.slice a2 (nlen n) c2, .bool sb, .bool false] 49
  have k3 := Blk.new ((w.alloc (.cells #[.slice a1 (nlen m) c1, .bool sa, .bool false] 49)).alloc (.cells #[.slice a2 (nlen n) c2, .bool sb, .bool false] 49)) #[.slice none 0 0, .bool false, .bool false] 49
  simp only [World.size_alloc] at k2 k3
  have k1' := (k1.alloc (.cells #[.slice a2 (nlen n) c2, .bool sb, .bool false] 49)).alloc (.cells #[.slice none 0 0, .bool false, .bool false] 49)
  have k2' := k2.alloc (.cells #[.slice none 0 0, .bool false, .bool false] 49)
  have hb0 : Below w.heap.size w (((w.alloc (.cells #[.slice a1 (nlen m) c1, .bool sa, .bool false] 49)).alloc (.cells #[.slice a2 (nlen n) c2, .bool sb, .bool false] 49)).alloc (.cells #[.slice none 0 0, .bool false, .bool false] 49)) := (((Below.refl _ _).alloc (Nat.le_refl _) _).alloc (by simp) _).alloc (by simp; omega) _
  have hmn : nlen (m + n) ≤ 2000001 := by have := nlen_add_le m n; omega
  go_enter Tryz.func56, Tryz.ntmps56
  go_wp2_with fail
  generalize ((w.alloc (.cells #[.slice a1 (nlen m) c1, .bool sa, .bool false] 49)).alloc (.cells #[.slice a2 (nlen n) c2, .bool sb, .bool false] 49)).alloc (.cells #[.slice none 0 0, .bool false, .bool false] 49) = w0 at *
  clear k1 k2
  refine (compare_nat (hs.below hb0) (ht.below hb0) (by omega) (by omega)).mono ?_
  rintro e w' ⟨rfl, rfl⟩
  obtain ⟨⟨p1, p2, p3⟩, _⟩ := k1'.three
  obtain ⟨⟨q1, q2, q3⟩, _⟩ := k2'.three
  go_wp2
  go_region_held3 (fun w' => w'.cell? ⟨w.heap.size, 0, none⟩ = some (.slice a1 (nlen m) c1) ∧ w'.cell? ⟨w.heap.size, 1, none⟩ = some (.bool sa) ∧ w'.cell? ⟨w.heap.size + 1, 0, none⟩ = some (.slice a2 (nlen n) c2))
    (first | exact ⟨p1, p2, q1⟩ | exact ⟨p1', p2', q1'⟩ | exact ⟨p1'', p2'', q1''⟩ | exact ⟨(cell_set3 _ _ _ _ (by omega)).trans p1'', (cell_set3 _ _ _ _ (by omega)).trans p2'', (cell_set3 _ _ _ _ (by omega)).trans q1''⟩)
    (first
    | (go_at_call 112; refine (plus_nat (hs.below hb0.drew) (ht.below hb0.drew) (by omega) (by omega)).mono ?_; rintro e w1 ⟨r, rfl, hr, hb1⟩; obtain ⟨ra, rc, rfl⟩ := hr.shape; have k3' := k3.drew.later hb1; have k1'' := k1'.drew.later hb1; have k2'' := k2'.drew.later hb1; obtain ⟨⟨p1', p2', p3'⟩, _⟩ := k1''.three; obtain ⟨⟨q1', q2', q3'⟩, _⟩ := k2''.three)
    | (go_at_call 84; refine (of_nat hr.nat _ (by omega)).mono ?_; rintro e w2 ⟨rfl, hb2⟩; obtain ⟨⟨p1'', p2'', p3''⟩, _⟩ := (k1''.later hb2).three; obtain ⟨⟨q1'', q2'', q3''⟩, _⟩ := (k2''.later hb2).three; obtain ⟨⟨r1, r2, r3⟩, ⟨s1, s2, s3⟩⟩ := (k3'.later hb2).three))
  go_wp2
  have hz1 := hb1.size
  have hz3 := k3.lt
  have hbe : Below w.heap.size w w2 := hb0.trans ((Below.drew (Below.refl _ _)).trans ((hb1.mono (by have := hb0.size; exact this)).trans (hb2.mono (Nat.le_trans hb0.size hz1))))
  have hbf := ((hbe.setCell (p := ⟨w.heap.size + 1 + 1, 0, none⟩) (by simp; omega) (.slice ra (nlen (m + n)) rc)).setCell (p := ⟨w.heap.size + 1 + 1, 1, none⟩) (by simp; omega) (.bool (sa && decide (0 < m + n)))).setCell (p := ⟨w.heap.size + 1 + 1, 2, none⟩) (by simp; omega) (.bool false)
  exact bodyPost_ret (v := .agg #[.slice ra (nlen (m + n)) rc, .bool (sa && decide (0 < m + n)), .bool false]) (by simp [results, Tryz.results56, go_sem, r1, r2, r3]) rfl ⟨_, rfl, (own_set3 (hr.keep hb2 (Nat.le_refl _)) _ _ _ hz3).mono hb0.size, hbf⟩
set_option maxRecDepth 100000 in
set_option maxHeartbeats 4000000 in
theorem plus_big {a1 a2 : Option Addr} {c1 c2 m n : Nat} {w : World} (hs : NatRep w (.slice a1 (nlen m) c1) m) (ht : NatRep w (.slice a2 (nlen n) c2) n) (hm : nlen m ≤ 1000000) (hn : nlen n ≤ 1000000) (sa sb : Bool) (hnm : n ≤ m) (hsg : (sa == sb) = false) :
    Calls Tryz.prog 56 #[.agg #[.slice a1 (nlen m) c1, .bool sa, .bool false], .agg #[.slice a2 (nlen n) c2, .bool sb, .bool false]] w (FreshNum (m - n) sa w) := by
  have k1 := Blk.new w #[.slice a1 (nlen m) c1, .bool sa, .bool false] 49
  have k2 := Blk.new (w.alloc (.cells #[.slice a1 (nlen m) c1, .bool sa, .bool false] 49)) #[.slice a2 (nlen n) c2, .bool sb, .bool false] 49
  have k3 := Blk.new ((w.alloc (.cells #[.slice a1 (nlen m) c1, .bool sa, .bool false] 49)).alloc (.cells #[.slice a2 (nlen n) c2, .bool sb, .bool false] 49)) #[.slice none 0 0, .bool false, .bool false] 49
  simp only [World.size_alloc] at k2 k3
  have k1' := (k1.alloc (.cells #[.slice a2 (nlen n) c2, .bool sb, .bool false] 49)).alloc (.cells #[.slice none 0 0, .bool false, .bool false] 49)
  have k2' := k2.alloc (.cells #[.slice none 0 0, .bool false, .bool false] 49)
  have hb0 : Below w.heap.size w (((w.alloc (.cells #[.slice a1 (nlen m) c1, .bool sa, .bool false] 49)).alloc (.cells #[.slice a2 (nlen n) c2, .bool sb, .bool false] 49)).alloc (.cells #[.slice none 0 0, .bool false, .bool false] 49)) := (((Below.refl _ _).alloc (Nat.le_refl _) _).alloc (by simp) _).alloc (by simp; omega) _
  have hmn : nlen (m - n) ≤ nlen m := nlen_mono (Nat.sub_le m n)
  have hcm : 0 ≤ cmpN m n := by unfold cmpN; split <;> (try split) <;> omega
  go_enter Tryz.func56, Tryz.ntmps56
  go_wp2_with fail
  generalize ((w.alloc (.cells #[.slice a1 (nlen m) c1, .bool sa, .bool false] 49)).alloc (.cells #[.slice a2 (nlen n) c2, .bool sb, .bool false] 49)).alloc (.cells #[.slice none 0 0, .bool false, .bool false] 49) = w0 at *
  clear k1 k2
  refine (compare_nat (hs.below hb0) (ht.below hb0) (by omega) (by omega)).mono ?_
  rintro e w' ⟨rfl, rfl⟩
  obtain ⟨⟨p1, p2, p3⟩, _⟩ := k1'.three
  obtain ⟨⟨q1, q2, q3⟩, _⟩ := k2'.three
  go_wp2
  go_region_held3 (fun w' => w'.cell? ⟨w.heap.size, 0, none⟩ = some (.slice a1 (nlen m) c1) ∧ w'.cell? ⟨w.heap.size, 1, none⟩ = some (.bool sa) ∧ w'.cell? ⟨w.heap.size + 1, 0, none⟩ = some (.slice a2 (nlen n) c2))
    (first | exact ⟨p1, p2, q1⟩ | exact ⟨p1', p2', q1'⟩ | exact ⟨p1'', p2'', q1''⟩ | exact ⟨(cell_set3 _ _ _ _ (by omega)).trans p1'', (cell_set3 _ _ _ _ (by omega)).trans p2'', (cell_set3 _ _ _ _ (by omega)).trans q1''⟩)
    (first
    | (go_at_call 124; refine (minus_nat (hs.below hb0.drew) (ht.below hb0.drew) (by omega) (by omega) hnm).mono ?_; rintro e w1 ⟨r, rfl, hr, hb1⟩; obtain ⟨ra, rc, rfl⟩ := hr.shape; have k3' := k3.drew.later hb1; have k1'' := k1'.drew.later hb1; have k2'' := k2'.drew.later hb1; obtain ⟨⟨p1', p2', p3'⟩, _⟩ := k1''.three; obtain ⟨⟨q1', q2', q3'⟩, _⟩ := k2''.three)
    | (go_at_call 84; refine (of_nat hr.nat _ (by omega)).mono ?_; rintro e w2 ⟨rfl, hb2⟩; obtain ⟨⟨p1'', p2'', p3''⟩, _⟩ := (k1''.later hb2).three; obtain ⟨⟨q1'', q2'', q3''⟩, _⟩ := (k2''.later hb2).three; obtain ⟨⟨r1, r2, r3⟩, ⟨s1, s2, s3⟩⟩ := (k3'.later hb2).three))
  go_wp2
  have hz1 := hb1.size
  have hz3 := k3.lt
  have hbe : Below w.heap.size w w2 := hb0.trans ((Below.drew (Below.refl _ _)).trans ((hb1.mono (by have := hb0.size; exact this)).trans (hb2.mono (Nat.le_trans hb0.size hz1))))
  have hbf := ((hbe.setCell (p := ⟨w.heap.size + 1 + 1, 0, none⟩) (by simp; omega) (.slice ra (nlen (m - n)) rc)).setCell (p := ⟨w.heap.size + 1 + 1, 1, none⟩) (by simp; omega) (.bool (sa && decide (0 < m - n)))).setCell (p := ⟨w.heap.size + 1 + 1, 2, none⟩) (by simp; omega) (.bool false)
  exact bodyPost_ret (v := .agg #[.slice ra (nlen (m - n)) rc, .bool (sa && decide (0 < m - n)), .bool false]) (by simp [results, Tryz.results56, go_sem, r1, r2, r3]) rfl ⟨_, rfl, (own_set3 (hr.keep hb2 (Nat.le_refl _)) _ _ _ hz3).mono hb0.size, hbf⟩
set_option maxRecDepth 100000 in
set_option maxHeartbeats 4000000 in
theorem plus_less {a1 a2 : Option Addr} {c1 c2 m n : Nat} {w : World} (hs : NatRep w (.slice a1 (nlen m) c1) m) (ht : NatRep w (.slice a2 (nlen n) c2) n) (hm : nlen m ≤ 1000000) (hn : nlen n ≤ 1000000) (sa sb : Bool) (hnm : m < n) (hsg : (sa == sb) = false) :
    Calls Tryz.prog 56 #[.agg #[.slice a1 (nlen m) c1, .bool sa, .bool false], .agg #[.slice a2 (nlen n) c2, .bool sb, .bool false]] w (FreshNum (n - m) sb w) := by
  have k1 := Blk.new w #[.slice a1 (nlen m) c1, .bool sa, .bool false] 49
  have k2 := Blk.new (w.alloc (.cells #[.slice a1 (nlen m) c1, .bool sa, .bool false] 49)) #[.slice a2 (nlen n) c2, .bool sb, .bool false] 49
  have k3 := Blk.new ((w.alloc (.cells #[.slice a1 (nlen m) c1, .bool sa, .bool false] 49)).alloc (.cells #[.slice a2 (nlen n) c2, .bool sb, .bool false] 49)) #[.slice none 0 0, .bool false, .bool false] 49
  simp only [World.size_alloc] at k2 k3
  have k1' := (k1.alloc (.cells #[.slice a2 (nlen n) c2, .bool sb, .bool false] 49)).alloc (.cells #[.slice none 0 0, .bool false, .bool false] 49)
  have k2' := k2.alloc (.cells #[.slice none 0 0, .bool false, .bool false] 49)
  have hb0 : Below w.heap.size w (((w.alloc (.cells #[.slice a1 (nlen m) c1, .bool sa, .bool false] 49)).alloc (.cells #[.slice a2 (nlen n) c2, .bool sb, .bool false] 49)).alloc (.cells #[.slice none 0 0, .bool false, .bool false] 49)) := (((Below.refl _ _).alloc (Nat.le_refl _) _).alloc (by simp) _).alloc (by simp; omega) _
  have hmn : nlen (n - m) ≤ nlen n := nlen_mono (Nat.sub_le n m)
  have hcm : cmpN m n < 0 := by unfold cmpN; split <;> (try split) <;> omega
  go_enter Tryz.func56, Tryz.ntmps56
  go_wp2_with fail
  generalize ((w.alloc (.cells #[.slice a1 (nlen m) c1, .bool sa, .bool false] 49)).alloc (.cells #[.slice a2 (nlen n) c2, .bool sb, .bool false] 49)).alloc (.cells #[.slice none 0 0, .bool false, .bool false] 49) = w0 at *
  clear k1 k2
  refine (compare_nat (hs.below hb0) (ht.below hb0) (by omega) (by omega)).mono ?_
  rintro e w' ⟨rfl, rfl⟩
  obtain ⟨⟨p1, p2, p3⟩, _⟩ := k1'.three
  obtain ⟨⟨q1, q2, q3⟩, _⟩ := k2'.three
  go_wp2
  go_region_held3 (fun w' => w'.cell? ⟨w.heap.size, 0, none⟩ = some (.slice a1 (nlen m) c1) ∧ w'.cell? ⟨w.heap.size + 1, 1, none⟩ = some (.bool sb) ∧ w'.cell? ⟨w.heap.size + 1, 0, none⟩ = some (.slice a2 (nlen n) c2))
    (first | exact ⟨p1, q2, q1⟩ | exact ⟨p1', q2', q1'⟩ | exact ⟨p1'', q2'', q1''⟩ | exact ⟨(cell_set3 _ _ _ _ (by omega)).trans p1'', (cell_set3 _ _ _ _ (by omega)).trans q2'', (cell_set3 _ _ _ _ (by omega)).trans q1''⟩)
    (first
    | (go_at_call 124; refine (minus_nat (ht.below hb0.drew) (hs.below hb0.drew) (by omega) (by omega) (Nat.le_of_lt hnm)).mono ?_; rintro e w1 ⟨r, rfl, hr, hb1⟩; obtain ⟨ra, rc, rfl⟩ := hr.shape; have k3' := k3.drew.later hb1; have k1'' := k1'.drew.later hb1; have k2'' := k2'.drew.later hb1; obtain ⟨⟨p1', p2', p3'⟩, _⟩ := k1''.three; obtain ⟨⟨q1', q2', q3'⟩, _⟩ := k2''.three)
    | (go_at_call 84; refine (of_nat hr.nat _ (by omega)).mono ?_; rintro e w2 ⟨rfl, hb2⟩; obtain ⟨⟨p1'', p2'', p3''⟩, _⟩ := (k1''.later hb2).three; obtain ⟨⟨q1'', q2'', q3''⟩, _⟩ := (k2''.later hb2).three; obtain ⟨⟨r1, r2, r3⟩, ⟨s1, s2, s3⟩⟩ := (k3'.later hb2).three))
  go_wp2
  have hz1 := hb1.size
  have hz3 := k3.lt
  have hbe : Below w.heap.size w w2 := hb0.trans ((Below.drew (Below.refl _ _)).trans ((hb1.mono (by have := hb0.size; exact this)).trans (hb2.mono (Nat.le_trans hb0.size hz1))))
  have hbf := ((hbe.setCell (p := ⟨w.heap.size + 1 + 1, 0, none⟩) (by simp; omega) (.slice ra (nlen (n - m)) rc)).setCell (p := ⟨w.heap.size + 1 + 1, 1, none⟩) (by simp; omega) (.bool (sb && decide (0 < n - m)))).setCell (p := ⟨w.heap.size + 1 + 1, 2, none⟩) (by simp; omega) (.bool false)
  exact bodyPost_ret (v := .agg #[.slice ra (nlen (n - m)) rc, .bool (sb && decide (0 < n - m)), .bool false]) (by simp [results, Tryz.results56, go_sem, r1, r2, r3]) rfl ⟨_, rfl, (own_set3 (hr.keep hb2 (Nat.le_refl _)) _ _ _ hz3).mono hb0.size, hbf⟩
end Go.Proofs.YtkhgoeippamobaaGreatDoor
