/-
  Products of integers.
-/
import Derived.Test.YtkhgoeippamobaaGreatDoorNumPlus2
namespace Go.Proofs.YtkhgoeippamobaaGreatDoor
open Go.RowKit
set_option maxRecDepth 100000 in
set_option maxHeartbeats 4000000 in
theorem timesN {a1 a2 : Option Addr} {c1 c2 m n : Nat} {w : World} (hs : NatRep w (.slice a1 (nlen m) c1) m) (ht : NatRep w (.slice a2 (nlen n) c2) n) (hm : nlen m ≤ 1000000) (hn : nlen n ≤ 1000000) (sa sb : Bool) :
    Calls Tryz.prog 62 #[.agg #[.slice a1 (nlen m) c1, .bool sa, .bool false], .agg #[.slice a2 (nlen n) c2, .bool sb, .bool false]] w (FreshNum (m * n) (!(sa == sb)) w) := by
  have k1 := Blk.new w #[.slice a1 (nlen m) c1, .bool sa, .bool false] 49
  have k2 := Blk.new (w.alloc (.cells #[.slice a1 (nlen m) c1, .bool sa, .bool false] 49)) #[.slice a2 (nlen n) c2, .bool sb, .bool false] 49
  have k3 := Blk.new ((w.alloc (.cells #[.slice a1 (nlen m) c1, .bool sa, .bool false] 49)).alloc (.cells #[.slice a2 (nlen n) c2, .bool sb, .bool false] 49)) #[.slice none 0 0, .bool false, .bool false] 49
  simp only [World.size_alloc] at k2 k3
  have k1' := (k1.alloc (.cells #[.slice a2 (nlen n) c2, .bool sb, .bool false] 49)).alloc (.cells #[.slice none 0 0, .bool false, .bool false] 49)
  have k2' := k2.alloc (.cells #[.slice none 0 0, .bool false, .bool false] 49)
  have hb0 : Below w.heap.size w (((w.alloc (.cells #[.slice a1 (nlen m) c1, .bool sa, .bool false] 49)).alloc (.cells #[.slice a2 (nlen n) c2, .bool sb, .bool false] 49)).alloc (.cells #[.slice none 0 0, .bool false, .bool false] 49)) := (((Below.refl _ _).alloc (Nat.le_refl _) _).alloc (by simp) _).alloc (by simp; omega) _
  have hmn : nlen (m * n) ≤ 2000000 := by have := (nlen_le_iff _ _).2 (mul_lt_pow m n); omega
  go_enter Tryz.func62, Tryz.ntmps62
  go_wp2_with fail
  generalize ((w.alloc (.cells #[.slice a1 (nlen m) c1, .bool sa, .bool false] 49)).alloc (.cells #[.slice a2 (nlen n) c2, .bool sb, .bool false] 49)).alloc (.cells #[.slice none 0 0, .bool false, .bool false] 49) = w0 at *
  clear k1 k2
  obtain ⟨⟨p1, p2, p3⟩, _⟩ := k1'.three
  obtain ⟨⟨q1, q2, q3⟩, _⟩ := k2'.three
  go_region_held3 (fun w' => w'.cell? ⟨w.heap.size, 0, none⟩ = some (.slice a1 (nlen m) c1) ∧ w'.cell? ⟨w.heap.size, 1, none⟩ = some (.bool sa) ∧ w'.cell? ⟨w.heap.size + 1, 1, none⟩ = some (.bool sb) ∧ w'.cell? ⟨w.heap.size + 1, 0, none⟩ = some (.slice a2 (nlen n) c2))
    (first | exact ⟨p1, p2, q2, q1⟩ | exact ⟨p1', p2', q2', q1'⟩ | exact ⟨p1'', p2'', q2'', q1''⟩ | exact ⟨(cell_set3 _ _ _ _ (by omega)).trans p1'', (cell_set3 _ _ _ _ (by omega)).trans p2'', (cell_set3 _ _ _ _ (by omega)).trans q2'', (cell_set3 _ _ _ _ (by omega)).trans q1''⟩)
    (first
    | (go_at_call 114; refine (times_nat (hs.below hb0.drew) (ht.below hb0.drew) (by omega) (by omega)).mono ?_; rintro e w1 ⟨r, rfl, hr, hb1⟩; obtain ⟨ra, rc, rfl⟩ := hr.shape; have k3' := k3.drew.later hb1; have k1'' := k1'.drew.later hb1; have k2'' := k2'.drew.later hb1; obtain ⟨⟨p1', p2', p3'⟩, _⟩ := k1''.three; obtain ⟨⟨q1', q2', q3'⟩, _⟩ := k2''.three)
    | (go_at_call 84; refine (of_nat hr.nat _ (by omega)).mono ?_; rintro e w2 ⟨rfl, hb2⟩; obtain ⟨⟨p1'', p2'', p3''⟩, _⟩ := (k1''.later hb2).three; obtain ⟨⟨q1'', q2'', q3''⟩, _⟩ := (k2''.later hb2).three; obtain ⟨⟨r1, r2, r3⟩, ⟨s1, s2, s3⟩⟩ := (k3'.later hb2).three))
  go_wp2
  have hz1 := hb1.size
  have hz3 := k3.lt
  have hbe : Below w.heap.size w w2 := hb0.trans ((Below.drew (Below.refl _ _)).trans ((hb1.mono (by have := hb0.size; exact this)).trans (hb2.mono (Nat.le_trans hb0.size hz1))))
  have hbf := ((hbe.setCell (p := ⟨w.heap.size + 1 + 1, 0, none⟩) (by simp; omega) (.slice ra (nlen (m * n)) rc)).setCell (p := ⟨w.heap.size + 1 + 1, 1, none⟩) (by simp; omega) (.bool ((!(sa == sb)) && decide (0 < m * n)))).setCell (p := ⟨w.heap.size + 1 + 1, 2, none⟩) (by simp; omega) (.bool false)
  exact bodyPost_ret (v := .agg #[.slice ra (nlen (m * n)) rc, .bool ((!(sa == sb)) && decide (0 < m * n)), .bool false]) (by simp [results, Tryz.results62, go_sem, r1, r2, r3]) rfl ⟨_, rfl, (own_set3 (hr.keep hb2 (Nat.le_refl _)) _ _ _ hz3).mono hb0.size, hbf⟩
end Go.Proofs.YtkhgoeippamobaaGreatDoor
