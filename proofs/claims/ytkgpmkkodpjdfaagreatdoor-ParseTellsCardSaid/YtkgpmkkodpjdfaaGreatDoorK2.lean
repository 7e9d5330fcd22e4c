/-
  Part K2 of the proofs of this seat: contracts of functions and plain facts, merged from 9 texts.
-/
import Derived.LoopN
import Derived.StillTailTactics
import Derived.Test.YtkgpmkkodpjdfaaGreatDoorK0
import Derived.Test.YtkgpmkkodpjdfaaGreatDoorK1
/-
  A token is put behind the others.
-/
namespace Go.Proofs.YtkgpmkkodpjdfaaGreatDoor.Pz
open Go.RowKit
theorem Tryz.infoTok : (Tryz.prog.info? 33).map (fun i => (i.zero, i.size, i.bytes)) = some (some (.agg #[.int .i64 0, .string ⟨#[]⟩, .bool false, .slice none 0 0]), 4, 56) := by kernel_rfl
set_option maxRecDepth 100000 in
set_option maxHeartbeats 4000000 in
theorem add_a {w : World} {ob mb B : Nat} {v : Value} {ts : List Tok} {x : Tok} {k : Nat} {s : Str} {hb : Bool} {ia : Option Addr} {iN ic : Nat}
    (hob : w.heap[ob]? = some (.cells #[v] 91 (0, 0))) (hout : OutIs w B v ts) (hmb : w.heap[mb]? = some (.cells #[.int .i64 (k : Nat), .string ⟨s.toArray⟩, .bool hb, .slice ia iN ic] 33 (0, 0)))
    (hx : TokIs 33 w (fun g => B ≤ g ∧ v.ownBlock ≠ some g) [.int .i64 (k : Nat), .string ⟨s.toArray⟩, .bool hb, .slice ia iN ic] x) (hn : ts.length ≤ 1000000) (hBw : B ≤ w.heap.size) (hk : k ≠ 1) (_hk9 : k ≤ 9) :
    Calls Tryz.prog 55 #[.pointer (some ⟨ob, 0, none⟩), .slice (some ⟨mb, 0, none⟩) 1 1] w fun e w' => e = .returned (.tuple #[]) ∧ ∃ v', w'.heap[ob]? = some (.cells #[v'] 91 (0, 0)) ∧ OutIs w' B v' (ts ++ [x]) ∧ Grew v v' w.heap.size ∧ Two ob v.ownBlock w w' := by
  obtain ⟨a, cap, rfl, hvb⟩ := hout.shape
  obtain ⟨i0, hi, hz0, hz1, hz2⟩ := info_parts Tryz.infoTok
  have c0 : w.cell? ⟨ob, 0, none⟩ = some (.slice a ts.length cap) := by rw [Lib.cell_of_heap hob]; rfl
  have f0 : w.frozen? ⟨ob, 0, none⟩ = false := Lib.frozen_of_heap hob 0
  have m0 : w.cell? ⟨mb, 0, none⟩ = some (.int .i64 (k : Nat)) := by rw [Lib.cell_of_heap hmb]; rfl
  have m1 : w.cell? ⟨mb, 1, none⟩ = some (.string ⟨s.toArray⟩) := by rw [Lib.cell_of_heap hmb]; rfl
  have m2 : w.cell? ⟨mb, 2, none⟩ = some (.bool hb) := by rw [Lib.cell_of_heap hmb]; rfl
  have m3 : w.cell? ⟨mb, 3, none⟩ = some (.slice ia iN ic) := by rw [Lib.cell_of_heap hmb]; rfl
  have hk1 : ((k : Int) == 1) = false := by rw [beq_eq_false_iff_ne]; omega
  have hobl : ob < w.heap.size := (Array.getElem?_eq_some_iff.1 hob).1
  have hmbl : mb < w.heap.size := (Array.getElem?_eq_some_iff.1 hmb).1
  go_enter Tryz.func55, Tryz.ntmps55
  go_wp2
  refine wp_loop_rounds 2 ?_
  rw [rounds_succ]
  go_wp2
  have hobv : (Value.slice a ts.length cap).ownBlock ≠ some ob := by
    intro e
    obtain ⟨css, h1, _⟩ := hout
    obtain ⟨_, cur, h2⟩ := ownsRow_lt h1 ob e
    rw [h2] at hob
    simp at hob
  have hnbv : (Value.slice a ts.length cap).ownBlock ≠ some w.heap.size := fun e => by have := (hvb _ e).2; omega
  have HOB := hid hobv
  have HNB := hid hnbv
  have HVB := hid hvb
  have HOUT := hid hout
  have HMB := hid hmb
  have HX := hid hx
  clear hobv hnbv hvb hout hmb hx
  obtain ⟨W, hW⟩ : ∃ W, W = w.alloc (.cells #[.int .i64 (k : Nat), .string ⟨s.toArray⟩, .bool hb, .slice ia iN ic] 33) := ⟨_, rfl⟩
  obtain ⟨N, hN⟩ : ∃ N, N = w.heap.size := ⟨_, rfl⟩
  have hNW : W.heap.size = N + 1 := by rw [hW, hN]; simp
  have hbW : Below N w W := by rw [hW, hN]; exact (Below.refl _ _).alloc (Nat.le_refl _) _
  have hbox : W.heap[N]? = some (.cells #[.int .i64 (k : Nat), .string ⟨s.toArray⟩, .bool hb, .slice ia iN ic] 33) := by rw [hW, hN]; exact heap_alloc_new w _
  have hobW : W.heap[ob]? = some (.cells #[.slice a ts.length cap] 91 (0, 0)) := (hbW.block ob (by omega)).trans hob
  obtain ⟨css, hrow, hrb, hcl, hel⟩ := HOUT.out
  have hrW : W.ownsRow 0 33 4 (.slice a ts.length cap) ts.length css.flatten := by rw [hW]; exact World.ownsRow.alloc hrow _
  rw [← hW, ← hN]
  rw [← hN] at hobl hmbl HNB HVB hBw
  have HNW := hid hN
  clear hW hN c0 f0 m0 m1 m2 m3
  have HN := hid hNW
  have HBW := hid hbW
  have HBOX := hid hbox
  have HOBW := hid hobW
  have HRW := hid hrW
  have HR0 := hid hrow
  have HOB0 := hid hob
  clear hNW hbW hbox hobW hrow hrW hob
  have HS : Hid (∀ X : World, X.heap[ob]? = some (.cells #[.slice a ts.length cap] 91 (0, 0)) → X.heap[N]? = some (.cells #[.int .i64 (k : Nat), .string ⟨s.toArray⟩, .bool hb, .slice ia iN ic] 33) → (fun u => u.cell? ⟨ob, 0, none⟩ = some (.slice a ts.length cap) ∧ u.cell? ⟨N, 0, none⟩ = some (.int .i64 (k : Nat)) ∧ u.cell? ⟨N, 1, none⟩ = some (.string ⟨s.toArray⟩) ∧ u.cell? ⟨N, 2, none⟩ = some (.bool hb) ∧ u.cell? ⟨N, 3, none⟩ = some (.slice ia iN ic)) X) := by
    refine hid ?_
    intro X h1 h2
    refine ⟨by rw [Lib.cell_of_heap h1]; rfl, by rw [Lib.cell_of_heap h2]; rfl, by rw [Lib.cell_of_heap h2]; rfl, by rw [Lib.cell_of_heap h2]; rfl, by rw [Lib.cell_of_heap h2]; rfl⟩
  refine U_begin (late := fun i => decide (7 ≤ i)) (S := fun u => u.cell? ⟨ob, 0, none⟩ = some (.slice a ts.length cap) ∧ u.cell? ⟨N, 0, none⟩ = some (.int .i64 (k : Nat)) ∧ u.cell? ⟨N, 1, none⟩ = some (.string ⟨s.toArray⟩) ∧ u.cell? ⟨N, 2, none⟩ = some (.bool hb) ∧ u.cell? ⟨N, 3, none⟩ = some (.slice ia iN ic)) (by kernel_rfl) ?_
  refine U_take (i := 0) (v := .pointer (some ⟨ob, 0, none⟩)) rfl (by kernel_rfl) (by kernel_rfl) (by kernel_rfl) (by kernel_rfl) (by kernel_rfl) (fun _ _ _ h => h) (.inl ⟨rfl, fun u hu => (by go_simp)⟩) (HS.out _ HOBW.out HBOX.out) ?_
  refine U_take (i := 1) (v := .pointer (some ⟨ob, 0, none⟩)) rfl (by kernel_rfl) (by kernel_rfl) (by kernel_rfl) (by kernel_rfl) (by kernel_rfl) (fun _ _ _ h => h) (.inl ⟨rfl, fun u hu => (by go_simp)⟩) (HS.out _ HOBW.out HBOX.out) ?_
  refine U_take (i := 2) (v := .pointer (some ⟨ob, 0, none⟩)) rfl (by kernel_rfl) (by kernel_rfl) (by kernel_rfl) (by kernel_rfl) (by kernel_rfl) (fun _ _ _ h => h) (.inl ⟨rfl, fun u hu => (by go_simp)⟩) (HS.out _ HOBW.out HBOX.out) ?_
  refine U_take (i := 3) (v := .slice a ts.length cap) rfl (by kernel_rfl) (by kernel_rfl) (by kernel_rfl) (by kernel_rfl) (by kernel_rfl) (fun _ _ _ h => h) (.inl ⟨rfl, fun u hu => (by obtain ⟨h1, h2, h3, h4, h5⟩ := hu; go_simp)⟩) (HS.out _ HOBW.out HBOX.out) ?_
  refine U_take (i := 4) (v := .agg #[.int .i64 (k : Nat), .string ⟨s.toArray⟩, .bool hb, .slice ia iN ic]) rfl (by kernel_rfl) (by kernel_rfl) (by kernel_rfl) (by kernel_rfl) (by kernel_rfl) (fun _ _ _ h => h) (.inl ⟨rfl, fun u hu => (by obtain ⟨h1, h2, h3, h4, h5⟩ := hu; go_simp)⟩) (HS.out _ HOBW.out HBOX.out) ?_
  refine U_take (i := 5) (v := .int .i64 (ts.length : Nat)) rfl (by kernel_rfl) (by kernel_rfl) (by kernel_rfl) (by kernel_rfl) (by kernel_rfl) (fun _ _ _ h => h) (.inl ⟨rfl, fun u hu => (by go_simp)⟩) (HS.out _ HOBW.out HBOX.out) ?_
  refine U_step (j := 6) (by kernel_rfl) rfl (fun K hK => ?_)
  go_simp
  obtain ⟨W2, hW2⟩ : ∃ W2, W2 = (W.alloc (.cells #[.int .i64 0, .string ⟨#[]⟩, .bool false, .slice none 0 0] 33)).drew := ⟨_, rfl⟩
  have hN2 : W2.heap.size = N + 2 := by rw [hW2]; simp; exact HN.out
  have hb2 : Below W.heap.size W W2 := by rw [hW2]; exact ((Below.refl _ _).alloc (Nat.le_refl _) _).drew
  have hzz : W2.heap[W.heap.size]? = some (.cells #[.int .i64 0, .string ⟨#[]⟩, .bool false, .slice none 0 0] 33) := by rw [hW2]; exact heap_alloc_new W _
  have hr2 : W2.ownsRow 0 33 4 (.slice a ts.length cap) ts.length css.flatten := by rw [hW2]; exact World.ownsRow.drew (World.ownsRow.alloc HRW.out _)
  have hN1 := HN.out
  have hob2 := (hb2.block ob (by omega)).trans HOBW.out
  have hbox2 := (hb2.block N (by omega)).trans HBOX.out
  rw [← hW2]
  refine hK.out _ _ (.inr (HS.out _ hob2 hbox2)) ?_
  have HB2 : Hid (Below N w W2) := hid (HBW.out.trans (hb2.mono (by omega)))
  clear hK K hW2
  have hlen : css.flatten.length = ts.length * 4 := by have := HR0.out.1; exact this
  refine U_step (j := 7) (by kernel_rfl) rfl (fun K hK => ?_)
  refine step_append_lies _ rfl (.tmp 54) (.tmp 57) 25 rfl 0 33 i0 (.agg #[.int .i64 0, .string ⟨#[]⟩, .bool false, .slice none 0 0]) 4 56 Tryz.underlying25 hi hz0 hz1 hz2 rfl (by decide) _ ts.length css.flatten (by rfl) hr2 ⟨W.heap.size, 0, none⟩ 1 1 [.int .i64 0, .string ⟨#[]⟩, .bool false, .slice none 0 0] (by rfl) rfl (World.news_of_block hzz) (by intro u hu; simp at hu; rcases hu with rfl | rfl | rfl | rfl <;> rfl) (by decide) (by unfold maxLen; omega) (by omega) (Nat.zero_le _) (N + 2) hN2 ?_
  intro g cap' W3 hrow3 hg3 hgc hglt
  have hob3 := (hg3.block ob (by omega) (fun e => HOB.out e.symm)).trans hob2
  have hbox3 := (hg3.block N (by omega) (fun e => HNB.out e.symm)).trans hbox2
  have q0 : W3.cell? ⟨g, ts.length * 4, none⟩ = some (.int .i64 0) := by rw [hrow3.cellAt _ (by omega), List.getElem?_append_right (by omega), hlen]; simp
  have q1 : W3.cell? ⟨g, ts.length * 4 + 1, none⟩ = some (.string ⟨#[]⟩) := by rw [hrow3.cellAt _ (by omega), List.getElem?_append_right (by omega), hlen]; simp
  have q2 : W3.cell? ⟨g, ts.length * 4 + 2, none⟩ = some (.bool false) := by rw [hrow3.cellAt _ (by omega), List.getElem?_append_right (by omega), hlen]; simp
  have q3 : W3.cell? ⟨g, ts.length * 4 + 3, none⟩ = some (.slice none 0 0) := by rw [hrow3.cellAt _ (by omega), List.getElem?_append_right (by omega), hlen]; simp
  have z0 := hrow3.frozenAt (ts.length * 4)
  have z1 := hrow3.frozenAt (ts.length * 4 + 1)
  have z2 := hrow3.frozenAt (ts.length * 4 + 2)
  have z3 := hrow3.frozenAt (ts.length * 4 + 3)
  have o0 : W3.cell? ⟨ob, 0, none⟩ = some (.slice a ts.length cap) := by rw [Lib.cell_of_heap hob3]; rfl
  have o1 : W3.frozen? ⟨ob, 0, none⟩ = false := Lib.frozen_of_heap hob3 0
  have hgo : g ≠ ob := by
    rcases hgc with h | h
    · rintro rfl; exact HOB.out h
    · omega
  have hb1 : ¬ ((ts.length : Int) + 1 ≤ ts.length) := by omega
  refine hK.out _ _ (.inl rfl) ?_
  clear hK K
  refine U_then (by kernel_rfl) ?_
  refine U_take (i := 8) (v := .pointer (some ⟨g, ts.length * 4, none⟩)) rfl (by kernel_rfl) (by kernel_rfl) (by kernel_rfl) (by kernel_rfl) (by kernel_rfl) (fun _ _ _ h => h) (.inl ⟨rfl, fun u hu => (by go_simp)⟩) trivial ?_
  refine U_take (i := 10) (v := .pointer (some ⟨ob, 0, none⟩)) rfl (by kernel_rfl) (by kernel_rfl) (by kernel_rfl) (by kernel_rfl) (by kernel_rfl) (fun _ _ _ h => h) (.inl ⟨rfl, fun u hu => (by go_simp)⟩) trivial ?_
  refine U_take (i := 11) (v := .pointer (some ⟨ob, 0, none⟩)) rfl (by kernel_rfl) (by kernel_rfl) (by kernel_rfl) (by kernel_rfl) (by kernel_rfl) (fun _ _ _ h => h) (.inl ⟨rfl, fun u hu => (by go_simp)⟩) trivial ?_
  refine U_two (j1 := 9) (j2 := 12) (by kernel_rfl) rfl rfl (fun K hK => ?_) (fun K hK => ?_)
  · go_simp
    refine hK.out _ _ (.inr trivial) ?_
    clear hK K
    refine U_step (j := 12) (by kernel_rfl) rfl (fun K hK => ?_)
    go_simp
    refine hK.out _ _ (.inr trivial) ?_
    clear hK K
    refine U_done (by kernel_rfl) ?_ _
    go_wp2
    rw [rounds_succ]
    go_wp2
    go_end0
    exact ⟨rfl, add_end HNW.out HOB0.out hob3 hrb hcl hel HX.out HB2.out hN2 hBw hlen hrow3 hg3 hgc hgo hobl⟩
  · go_simp
    refine hK.out _ _ (.inr trivial) ?_
    clear hK K
    refine U_step (j := 9) (by kernel_rfl) rfl (fun K hK => ?_)
    go_simp
    refine hK.out _ _ (.inr trivial) ?_
    clear hK K
    refine U_done (by kernel_rfl) ?_ _
    go_wp2
    rw [rounds_succ]
    go_wp2
    go_end0
    have hE := add_end HNW.out HOB0.out hob3 hrb hcl hel HX.out HB2.out hN2 hBw hlen hrow3 hg3 hgc hgo hobl
    rw [setCell_comm _ (a := ⟨g, ts.length * 4 + 3, none⟩) (b := ⟨ob, 0, none⟩) hgo, setCell_comm _ (a := ⟨g, ts.length * 4 + 2, none⟩) (b := ⟨ob, 0, none⟩) hgo, setCell_comm _ (a := ⟨g, ts.length * 4 + 1, none⟩) (b := ⟨ob, 0, none⟩) hgo, setCell_comm _ (a := ⟨g, ts.length * 4, none⟩) (b := ⟨ob, 0, none⟩) hgo] at hE
    exact ⟨rfl, hE⟩
end Go.Proofs.YtkgpmkkodpjdfaaGreatDoor.Pz
/-
  A text is put where there is no token yet.
-/
namespace Go.Proofs.YtkgpmkkodpjdfaaGreatDoor.Pz
open Go.RowKit
set_option maxRecDepth 100000 in
set_option maxHeartbeats 4000000 in
theorem add_b {w : World} {ob mb B : Nat} {v : Value} {ts : List Tok} {x : Tok} {s : Str} {hb : Bool} {ia : Option Addr} {iN ic : Nat}
    (hob : w.heap[ob]? = some (.cells #[v] 91 (0, 0))) (hout : OutIs w B v ts) (hmb : w.heap[mb]? = some (.cells #[.int .i64 1, .string ⟨s.toArray⟩, .bool hb, .slice ia iN ic] 33 (0, 0)))
    (hx : TokIs 33 w (fun g => B ≤ g ∧ v.ownBlock ≠ some g) [.int .i64 1, .string ⟨s.toArray⟩, .bool hb, .slice ia iN ic] x) (hn : ts.length ≤ 1000000) (hBw : B ≤ w.heap.size) (hts : ts = []) :
    Calls Tryz.prog 55 #[.pointer (some ⟨ob, 0, none⟩), .slice (some ⟨mb, 0, none⟩) 1 1] w fun e w' => e = .returned (.tuple #[]) ∧ ∃ v', w'.heap[ob]? = some (.cells #[v'] 91 (0, 0)) ∧ OutIs w' B v' (ts ++ [x]) ∧ Grew v v' w.heap.size ∧ Two ob v.ownBlock w w' := by
  obtain ⟨a, cap, rfl, hvb⟩ := hout.shape
  obtain ⟨i0, hi, hz0, hz1, hz2⟩ := info_parts Tryz.infoTok
  have c0 : w.cell? ⟨ob, 0, none⟩ = some (.slice a ts.length cap) := by rw [Lib.cell_of_heap hob]; rfl
  have f0 : w.frozen? ⟨ob, 0, none⟩ = false := Lib.frozen_of_heap hob 0
  have m0 : w.cell? ⟨mb, 0, none⟩ = some (.int .i64 1) := by rw [Lib.cell_of_heap hmb]; rfl
  have m1 : w.cell? ⟨mb, 1, none⟩ = some (.string ⟨s.toArray⟩) := by rw [Lib.cell_of_heap hmb]; rfl
  have m2 : w.cell? ⟨mb, 2, none⟩ = some (.bool hb) := by rw [Lib.cell_of_heap hmb]; rfl
  have m3 : w.cell? ⟨mb, 3, none⟩ = some (.slice ia iN ic) := by rw [Lib.cell_of_heap hmb]; rfl
  have h0 : ¬ (0 < ts.length) := by rw [hts]; simp
  have h1 : decide (0 < ts.length) = false := by rw [hts]; rfl
  have HTS := hid hts
  clear hts
  have hobl : ob < w.heap.size := (Array.getElem?_eq_some_iff.1 hob).1
  have hmbl : mb < w.heap.size := (Array.getElem?_eq_some_iff.1 hmb).1
  go_enter Tryz.func55, Tryz.ntmps55
  go_wp2
  refine wp_loop_rounds 2 ?_
  rw [rounds_succ]
  go_wp2
  have hobv : (Value.slice a ts.length cap).ownBlock ≠ some ob := by
    intro e
    obtain ⟨css, h1, _⟩ := hout
    obtain ⟨_, cur, h2⟩ := ownsRow_lt h1 ob e
    rw [h2] at hob
    simp at hob
  have hnbv : (Value.slice a ts.length cap).ownBlock ≠ some w.heap.size := fun e => by have := (hvb _ e).2; omega
  have HOB := hid hobv
  have HNB := hid hnbv
  have HVB := hid hvb
  have HOUT := hid hout
  have HMB := hid hmb
  have HX := hid hx
  clear hobv hnbv hvb hout hmb hx
  obtain ⟨W, hW⟩ : ∃ W, W = w.alloc (.cells #[.int .i64 1, .string ⟨s.toArray⟩, .bool hb, .slice ia iN ic] 33) := ⟨_, rfl⟩
  obtain ⟨N, hN⟩ : ∃ N, N = w.heap.size := ⟨_, rfl⟩
  have hNW : W.heap.size = N + 1 := by rw [hW, hN]; simp
  have hbW : Below N w W := by rw [hW, hN]; exact (Below.refl _ _).alloc (Nat.le_refl _) _
  have hbox : W.heap[N]? = some (.cells #[.int .i64 1, .string ⟨s.toArray⟩, .bool hb, .slice ia iN ic] 33) := by rw [hW, hN]; exact heap_alloc_new w _
  have hobW : W.heap[ob]? = some (.cells #[.slice a ts.length cap] 91 (0, 0)) := (hbW.block ob (by omega)).trans hob
  obtain ⟨css, hrow, hrb, hcl, hel⟩ := HOUT.out
  have hrW : W.ownsRow 0 33 4 (.slice a ts.length cap) ts.length css.flatten := by rw [hW]; exact World.ownsRow.alloc hrow _
  rw [← hW, ← hN]
  rw [← hN] at hobl hmbl HNB HVB hBw
  have HNW := hid hN
  clear hW hN c0 f0 m0 m1 m2 m3
  have HN := hid hNW
  have HBW := hid hbW
  have HBOX := hid hbox
  have HOBW := hid hobW
  have HRW := hid hrW
  have HR0 := hid hrow
  have HOB0 := hid hob
  clear hNW hbW hbox hobW hrow hrW hob
  have HS : Hid (∀ X : World, X.heap[ob]? = some (.cells #[.slice a ts.length cap] 91 (0, 0)) → X.heap[N]? = some (.cells #[.int .i64 1, .string ⟨s.toArray⟩, .bool hb, .slice ia iN ic] 33) → (fun u => u.cell? ⟨ob, 0, none⟩ = some (.slice a ts.length cap) ∧ u.cell? ⟨N, 0, none⟩ = some (.int .i64 1) ∧ u.cell? ⟨N, 1, none⟩ = some (.string ⟨s.toArray⟩) ∧ u.cell? ⟨N, 2, none⟩ = some (.bool hb) ∧ u.cell? ⟨N, 3, none⟩ = some (.slice ia iN ic)) X) := by
    refine hid ?_
    intro X h1 h2
    refine ⟨by rw [Lib.cell_of_heap h1]; rfl, by rw [Lib.cell_of_heap h2]; rfl, by rw [Lib.cell_of_heap h2]; rfl, by rw [Lib.cell_of_heap h2]; rfl, by rw [Lib.cell_of_heap h2]; rfl⟩
  refine U_begin (late := fun i => decide (7 ≤ i)) (S := fun u => u.cell? ⟨ob, 0, none⟩ = some (.slice a ts.length cap) ∧ u.cell? ⟨N, 0, none⟩ = some (.int .i64 1) ∧ u.cell? ⟨N, 1, none⟩ = some (.string ⟨s.toArray⟩) ∧ u.cell? ⟨N, 2, none⟩ = some (.bool hb) ∧ u.cell? ⟨N, 3, none⟩ = some (.slice ia iN ic)) (by kernel_rfl) ?_
  refine U_take (i := 0) (v := .pointer (some ⟨ob, 0, none⟩)) rfl (by kernel_rfl) (by kernel_rfl) (by kernel_rfl) (by kernel_rfl) (by kernel_rfl) (fun _ _ _ h => h) (.inl ⟨rfl, fun u hu => (by go_simp)⟩) (HS.out _ HOBW.out HBOX.out) ?_
  refine U_take (i := 1) (v := .pointer (some ⟨ob, 0, none⟩)) rfl (by kernel_rfl) (by kernel_rfl) (by kernel_rfl) (by kernel_rfl) (by kernel_rfl) (fun _ _ _ h => h) (.inl ⟨rfl, fun u hu => (by go_simp)⟩) (HS.out _ HOBW.out HBOX.out) ?_
  refine U_take (i := 2) (v := .pointer (some ⟨ob, 0, none⟩)) rfl (by kernel_rfl) (by kernel_rfl) (by kernel_rfl) (by kernel_rfl) (by kernel_rfl) (fun _ _ _ h => h) (.inl ⟨rfl, fun u hu => (by go_simp)⟩) (HS.out _ HOBW.out HBOX.out) ?_
  refine U_take (i := 3) (v := .slice a ts.length cap) rfl (by kernel_rfl) (by kernel_rfl) (by kernel_rfl) (by kernel_rfl) (by kernel_rfl) (fun _ _ _ h => h) (.inl ⟨rfl, fun u hu => (by obtain ⟨h1, h2, h3, h4, h5⟩ := hu; go_simp)⟩) (HS.out _ HOBW.out HBOX.out) ?_
  refine U_take (i := 4) (v := .agg #[.int .i64 1, .string ⟨s.toArray⟩, .bool hb, .slice ia iN ic]) rfl (by kernel_rfl) (by kernel_rfl) (by kernel_rfl) (by kernel_rfl) (by kernel_rfl) (fun _ _ _ h => h) (.inl ⟨rfl, fun u hu => (by obtain ⟨h1, h2, h3, h4, h5⟩ := hu; go_simp)⟩) (HS.out _ HOBW.out HBOX.out) ?_
  refine U_take (i := 5) (v := .int .i64 (ts.length : Nat)) rfl (by kernel_rfl) (by kernel_rfl) (by kernel_rfl) (by kernel_rfl) (by kernel_rfl) (fun _ _ _ h => h) (.inl ⟨rfl, fun u hu => (by go_simp)⟩) (HS.out _ HOBW.out HBOX.out) ?_
  refine U_step (j := 6) (by kernel_rfl) rfl (fun K hK => ?_)
  go_simp
  obtain ⟨W2, hW2⟩ : ∃ W2, W2 = (W.alloc (.cells #[.int .i64 0, .string ⟨#[]⟩, .bool false, .slice none 0 0] 33)).drew := ⟨_, rfl⟩
  have hN2 : W2.heap.size = N + 2 := by rw [hW2]; simp; exact HN.out
  have hb2 : Below W.heap.size W W2 := by rw [hW2]; exact ((Below.refl _ _).alloc (Nat.le_refl _) _).drew
  have hzz : W2.heap[W.heap.size]? = some (.cells #[.int .i64 0, .string ⟨#[]⟩, .bool false, .slice none 0 0] 33) := by rw [hW2]; exact heap_alloc_new W _
  have hr2 : W2.ownsRow 0 33 4 (.slice a ts.length cap) ts.length css.flatten := by rw [hW2]; exact World.ownsRow.drew (World.ownsRow.alloc HRW.out _)
  have hN1 := HN.out
  have hob2 := (hb2.block ob (by omega)).trans HOBW.out
  have hbox2 := (hb2.block N (by omega)).trans HBOX.out
  rw [← hW2]
  refine hK.out _ _ (.inr (HS.out _ hob2 hbox2)) ?_
  have HB2 : Hid (Below N w W2) := hid (HBW.out.trans (hb2.mono (by omega)))
  clear hK K hW2
  have hlen : css.flatten.length = ts.length * 4 := by have := HR0.out.1; exact this
  refine U_step (j := 7) (by kernel_rfl) rfl (fun K hK => ?_)
  refine step_append_lies _ rfl (.tmp 54) (.tmp 57) 25 rfl 0 33 i0 (.agg #[.int .i64 0, .string ⟨#[]⟩, .bool false, .slice none 0 0]) 4 56 Tryz.underlying25 hi hz0 hz1 hz2 rfl (by decide) _ ts.length css.flatten (by rfl) hr2 ⟨W.heap.size, 0, none⟩ 1 1 [.int .i64 0, .string ⟨#[]⟩, .bool false, .slice none 0 0] (by rfl) rfl (World.news_of_block hzz) (by intro u hu; simp at hu; rcases hu with rfl | rfl | rfl | rfl <;> rfl) (by decide) (by unfold maxLen; omega) (by omega) (Nat.zero_le _) (N + 2) hN2 ?_
  intro g cap' W3 hrow3 hg3 hgc hglt
  have hob3 := (hg3.block ob (by omega) (fun e => HOB.out e.symm)).trans hob2
  have hbox3 := (hg3.block N (by omega) (fun e => HNB.out e.symm)).trans hbox2
  have q0 : W3.cell? ⟨g, ts.length * 4, none⟩ = some (.int .i64 0) := by rw [hrow3.cellAt _ (by omega), List.getElem?_append_right (by omega), hlen]; simp
  have q1 : W3.cell? ⟨g, ts.length * 4 + 1, none⟩ = some (.string ⟨#[]⟩) := by rw [hrow3.cellAt _ (by omega), List.getElem?_append_right (by omega), hlen]; simp
  have q2 : W3.cell? ⟨g, ts.length * 4 + 2, none⟩ = some (.bool false) := by rw [hrow3.cellAt _ (by omega), List.getElem?_append_right (by omega), hlen]; simp
  have q3 : W3.cell? ⟨g, ts.length * 4 + 3, none⟩ = some (.slice none 0 0) := by rw [hrow3.cellAt _ (by omega), List.getElem?_append_right (by omega), hlen]; simp
  have z0 := hrow3.frozenAt (ts.length * 4)
  have z1 := hrow3.frozenAt (ts.length * 4 + 1)
  have z2 := hrow3.frozenAt (ts.length * 4 + 2)
  have z3 := hrow3.frozenAt (ts.length * 4 + 3)
  have o0 : W3.cell? ⟨ob, 0, none⟩ = some (.slice a ts.length cap) := by rw [Lib.cell_of_heap hob3]; rfl
  have o1 : W3.frozen? ⟨ob, 0, none⟩ = false := Lib.frozen_of_heap hob3 0
  have hgo : g ≠ ob := by
    rcases hgc with h | h
    · rintro rfl; exact HOB.out h
    · omega
  have hb1 : ¬ ((ts.length : Int) + 1 ≤ ts.length) := by omega
  refine hK.out _ _ (.inl rfl) ?_
  clear hK K
  refine U_then (by kernel_rfl) ?_
  refine U_take (i := 8) (v := .pointer (some ⟨g, ts.length * 4, none⟩)) rfl (by kernel_rfl) (by kernel_rfl) (by kernel_rfl) (by kernel_rfl) (by kernel_rfl) (fun _ _ _ h => h) (.inl ⟨rfl, fun u hu => (by go_simp)⟩) trivial ?_
  refine U_take (i := 10) (v := .pointer (some ⟨ob, 0, none⟩)) rfl (by kernel_rfl) (by kernel_rfl) (by kernel_rfl) (by kernel_rfl) (by kernel_rfl) (fun _ _ _ h => h) (.inl ⟨rfl, fun u hu => (by go_simp)⟩) trivial ?_
  refine U_take (i := 11) (v := .pointer (some ⟨ob, 0, none⟩)) rfl (by kernel_rfl) (by kernel_rfl) (by kernel_rfl) (by kernel_rfl) (by kernel_rfl) (fun _ _ _ h => h) (.inl ⟨rfl, fun u hu => (by go_simp)⟩) trivial ?_
  refine U_two (j1 := 9) (j2 := 12) (by kernel_rfl) rfl rfl (fun K hK => ?_) (fun K hK => ?_)
  · go_simp
    refine hK.out _ _ (.inr trivial) ?_
    clear hK K
    refine U_step (j := 12) (by kernel_rfl) rfl (fun K hK => ?_)
    go_simp
    refine hK.out _ _ (.inr trivial) ?_
    clear hK K
    refine U_done (by kernel_rfl) ?_ _
    go_wp2
    rw [rounds_succ]
    go_wp2
    go_end0
    exact ⟨rfl, add_end HNW.out HOB0.out hob3 hrb hcl hel HX.out HB2.out hN2 hBw hlen hrow3 hg3 hgc hgo hobl⟩
  · go_simp
    refine hK.out _ _ (.inr trivial) ?_
    clear hK K
    refine U_step (j := 9) (by kernel_rfl) rfl (fun K hK => ?_)
    go_simp
    refine hK.out _ _ (.inr trivial) ?_
    clear hK K
    refine U_done (by kernel_rfl) ?_ _
    go_wp2
    rw [rounds_succ]
    go_wp2
    go_end0
    have hE := add_end HNW.out HOB0.out hob3 hrb hcl hel HX.out HB2.out hN2 hBw hlen hrow3 hg3 hgc hgo hobl
    rw [setCell_comm _ (a := ⟨g, ts.length * 4 + 3, none⟩) (b := ⟨ob, 0, none⟩) hgo, setCell_comm _ (a := ⟨g, ts.length * 4 + 2, none⟩) (b := ⟨ob, 0, none⟩) hgo, setCell_comm _ (a := ⟨g, ts.length * 4 + 1, none⟩) (b := ⟨ob, 0, none⟩) hgo, setCell_comm _ (a := ⟨g, ts.length * 4, none⟩) (b := ⟨ob, 0, none⟩) hgo] at hE
    exact ⟨rfl, hE⟩
end Go.Proofs.YtkgpmkkodpjdfaaGreatDoor.Pz
/-
  A text is put behind a token that is none.
-/
namespace Go.Proofs.YtkgpmkkodpjdfaaGreatDoor.Pz
open Go.RowKit
set_option maxRecDepth 100000 in
set_option maxHeartbeats 4000000 in
theorem add_c {w : World} {ob mb B : Nat} {v : Value} {ts : List Tok} {x : Tok} {s : Str} {hb : Bool} {ia : Option Addr} {iN ic : Nat}
    (hob : w.heap[ob]? = some (.cells #[v] 91 (0, 0))) (hout : OutIs w B v ts) (hmb : w.heap[mb]? = some (.cells #[.int .i64 1, .string ⟨s.toArray⟩, .bool hb, .slice ia iN ic] 33 (0, 0)))
    (hx : TokIs 33 w (fun g => B ≤ g ∧ v.ownBlock ≠ some g) [.int .i64 1, .string ⟨s.toArray⟩, .bool hb, .slice ia iN ic] x) (hn : ts.length ≤ 1000000) (hBw : B ≤ w.heap.size) {lk : Nat} (hlast : ∃ (hne : 0 < ts.length), (ts[ts.length - 1]'(by omega)).kind = lk) (hlk : lk ≠ 1) :
    Calls Tryz.prog 55 #[.pointer (some ⟨ob, 0, none⟩), .slice (some ⟨mb, 0, none⟩) 1 1] w fun e w' => e = .returned (.tuple #[]) ∧ ∃ v', w'.heap[ob]? = some (.cells #[v'] 91 (0, 0)) ∧ OutIs w' B v' (ts ++ [x]) ∧ Grew v v' w.heap.size ∧ Two ob v.ownBlock w w' := by
  obtain ⟨a, cap, rfl, hvb⟩ := hout.shape
  obtain ⟨i0, hi, hz0, hz1, hz2⟩ := info_parts Tryz.infoTok
  obtain ⟨hne, hlast⟩ := hlast
  have hlk1 : ((lk : Int) == 1) = false := by rw [beq_eq_false_iff_ne]; omega
  obtain ⟨la, lc, hv0, _, hcells⟩ := RowIs.cell hout
  obtain ⟨g0, lcs, hla, htk, hcl4, hg0, hcell⟩ := hcells (ts.length - 1) (by omega)
  simp only [Value.slice.injEq] at hv0
  obtain ⟨hal, _, hcp⟩ := hv0
  subst hal hcp hla
  have l0 : w.cell? ⟨g0, (ts.length - 1) * 4, none⟩ = some (.int .i64 (lk : Nat)) := by
    have h := hcell 0 (.int .i64 (lk : Nat))
    rw [Nat.add_zero] at h
    refine h ?_
    rw [← hlast]
    clear h hlast hlk1
    revert htk
    generalize ts[ts.length - 1]'(by omega) = y
    intro htk
    cases htk
    rfl
  clear hcells hcell htk hcl4 hlast
  have c0 : w.cell? ⟨ob, 0, none⟩ = some (.slice (some ⟨g0, 0, none⟩) ts.length cap) := by rw [Lib.cell_of_heap hob]; rfl
  have f0 : w.frozen? ⟨ob, 0, none⟩ = false := Lib.frozen_of_heap hob 0
  have m0 : w.cell? ⟨mb, 0, none⟩ = some (.int .i64 1) := by rw [Lib.cell_of_heap hmb]; rfl
  have m1 : w.cell? ⟨mb, 1, none⟩ = some (.string ⟨s.toArray⟩) := by rw [Lib.cell_of_heap hmb]; rfl
  have m2 : w.cell? ⟨mb, 2, none⟩ = some (.bool hb) := by rw [Lib.cell_of_heap hmb]; rfl
  have m3 : w.cell? ⟨mb, 3, none⟩ = some (.slice ia iN ic) := by rw [Lib.cell_of_heap hmb]; rfl
  have hobl : ob < w.heap.size := (Array.getElem?_eq_some_iff.1 hob).1
  have hmbl : mb < w.heap.size := (Array.getElem?_eq_some_iff.1 hmb).1
  go_enter Tryz.func55, Tryz.ntmps55
  go_wp2
  refine wp_loop_rounds 2 ?_
  rw [rounds_succ]
  go_wp2
  have hobv : (Value.slice (some ⟨g0, 0, none⟩) ts.length cap).ownBlock ≠ some ob := by
    intro e
    obtain ⟨css, h1, _⟩ := hout
    obtain ⟨_, cur, h2⟩ := ownsRow_lt h1 ob e
    rw [h2] at hob
    simp at hob
  have hnbv : (Value.slice (some ⟨g0, 0, none⟩) ts.length cap).ownBlock ≠ some w.heap.size := fun e => by have := (hvb _ e).2; omega
  have HOB := hid hobv
  have HNB := hid hnbv
  have HVB := hid hvb
  have HOUT := hid hout
  have HMB := hid hmb
  have HX := hid hx
  clear hobv hnbv hvb hout hmb hx
  obtain ⟨W, hW⟩ : ∃ W, W = w.alloc (.cells #[.int .i64 1, .string ⟨s.toArray⟩, .bool hb, .slice ia iN ic] 33) := ⟨_, rfl⟩
  obtain ⟨N, hN⟩ : ∃ N, N = w.heap.size := ⟨_, rfl⟩
  have hNW : W.heap.size = N + 1 := by rw [hW, hN]; simp
  have hbW : Below N w W := by rw [hW, hN]; exact (Below.refl _ _).alloc (Nat.le_refl _) _
  have hbox : W.heap[N]? = some (.cells #[.int .i64 1, .string ⟨s.toArray⟩, .bool hb, .slice ia iN ic] 33) := by rw [hW, hN]; exact heap_alloc_new w _
  have hobW : W.heap[ob]? = some (.cells #[.slice (some ⟨g0, 0, none⟩) ts.length cap] 91 (0, 0)) := (hbW.block ob (by omega)).trans hob
  obtain ⟨css, hrow, hrb, hcl, hel⟩ := HOUT.out
  have hrW : W.ownsRow 0 33 4 (.slice (some ⟨g0, 0, none⟩) ts.length cap) ts.length css.flatten := by rw [hW]; exact World.ownsRow.alloc hrow _
  rw [← hW, ← hN]
  rw [← hN] at hobl hmbl HNB HVB hBw
  have HNW := hid hN
  clear hW hN c0 f0 m0 m1 m2 m3 l0
  have HN := hid hNW
  have HBW := hid hbW
  have HBOX := hid hbox
  have HOBW := hid hobW
  have HRW := hid hrW
  have HR0 := hid hrow
  have HOB0 := hid hob
  clear hNW hbW hbox hobW hrow hrW hob
  have HS : Hid (∀ X : World, X.heap[ob]? = some (.cells #[.slice (some ⟨g0, 0, none⟩) ts.length cap] 91 (0, 0)) → X.heap[N]? = some (.cells #[.int .i64 1, .string ⟨s.toArray⟩, .bool hb, .slice ia iN ic] 33) → (fun u => u.cell? ⟨ob, 0, none⟩ = some (.slice (some ⟨g0, 0, none⟩) ts.length cap) ∧ u.cell? ⟨N, 0, none⟩ = some (.int .i64 1) ∧ u.cell? ⟨N, 1, none⟩ = some (.string ⟨s.toArray⟩) ∧ u.cell? ⟨N, 2, none⟩ = some (.bool hb) ∧ u.cell? ⟨N, 3, none⟩ = some (.slice ia iN ic)) X) := by
    refine hid ?_
    intro X h1 h2
    refine ⟨by rw [Lib.cell_of_heap h1]; rfl, by rw [Lib.cell_of_heap h2]; rfl, by rw [Lib.cell_of_heap h2]; rfl, by rw [Lib.cell_of_heap h2]; rfl, by rw [Lib.cell_of_heap h2]; rfl⟩
  refine U_begin (late := fun i => decide (7 ≤ i)) (S := fun u => u.cell? ⟨ob, 0, none⟩ = some (.slice (some ⟨g0, 0, none⟩) ts.length cap) ∧ u.cell? ⟨N, 0, none⟩ = some (.int .i64 1) ∧ u.cell? ⟨N, 1, none⟩ = some (.string ⟨s.toArray⟩) ∧ u.cell? ⟨N, 2, none⟩ = some (.bool hb) ∧ u.cell? ⟨N, 3, none⟩ = some (.slice ia iN ic)) (by kernel_rfl) ?_
  refine U_take (i := 0) (v := .pointer (some ⟨ob, 0, none⟩)) rfl (by kernel_rfl) (by kernel_rfl) (by kernel_rfl) (by kernel_rfl) (by kernel_rfl) (fun _ _ _ h => h) (.inl ⟨rfl, fun u hu => (by go_simp)⟩) (HS.out _ HOBW.out HBOX.out) ?_
  refine U_take (i := 1) (v := .pointer (some ⟨ob, 0, none⟩)) rfl (by kernel_rfl) (by kernel_rfl) (by kernel_rfl) (by kernel_rfl) (by kernel_rfl) (fun _ _ _ h => h) (.inl ⟨rfl, fun u hu => (by go_simp)⟩) (HS.out _ HOBW.out HBOX.out) ?_
  refine U_take (i := 2) (v := .pointer (some ⟨ob, 0, none⟩)) rfl (by kernel_rfl) (by kernel_rfl) (by kernel_rfl) (by kernel_rfl) (by kernel_rfl) (fun _ _ _ h => h) (.inl ⟨rfl, fun u hu => (by go_simp)⟩) (HS.out _ HOBW.out HBOX.out) ?_
  refine U_take (i := 3) (v := .slice (some ⟨g0, 0, none⟩) ts.length cap) rfl (by kernel_rfl) (by kernel_rfl) (by kernel_rfl) (by kernel_rfl) (by kernel_rfl) (fun _ _ _ h => h) (.inl ⟨rfl, fun u hu => (by obtain ⟨h1, h2, h3, h4, h5⟩ := hu; go_simp)⟩) (HS.out _ HOBW.out HBOX.out) ?_
  refine U_take (i := 4) (v := .agg #[.int .i64 1, .string ⟨s.toArray⟩, .bool hb, .slice ia iN ic]) rfl (by kernel_rfl) (by kernel_rfl) (by kernel_rfl) (by kernel_rfl) (by kernel_rfl) (fun _ _ _ h => h) (.inl ⟨rfl, fun u hu => (by obtain ⟨h1, h2, h3, h4, h5⟩ := hu; go_simp)⟩) (HS.out _ HOBW.out HBOX.out) ?_
  refine U_take (i := 5) (v := .int .i64 (ts.length : Nat)) rfl (by kernel_rfl) (by kernel_rfl) (by kernel_rfl) (by kernel_rfl) (by kernel_rfl) (fun _ _ _ h => h) (.inl ⟨rfl, fun u hu => (by go_simp)⟩) (HS.out _ HOBW.out HBOX.out) ?_
  refine U_step (j := 6) (by kernel_rfl) rfl (fun K hK => ?_)
  go_simp
  obtain ⟨W2, hW2⟩ : ∃ W2, W2 = (W.alloc (.cells #[.int .i64 0, .string ⟨#[]⟩, .bool false, .slice none 0 0] 33)).drew := ⟨_, rfl⟩
  have hN2 : W2.heap.size = N + 2 := by rw [hW2]; simp; exact HN.out
  have hb2 : Below W.heap.size W W2 := by rw [hW2]; exact ((Below.refl _ _).alloc (Nat.le_refl _) _).drew
  have hzz : W2.heap[W.heap.size]? = some (.cells #[.int .i64 0, .string ⟨#[]⟩, .bool false, .slice none 0 0] 33) := by rw [hW2]; exact heap_alloc_new W _
  have hr2 : W2.ownsRow 0 33 4 (.slice (some ⟨g0, 0, none⟩) ts.length cap) ts.length css.flatten := by rw [hW2]; exact World.ownsRow.drew (World.ownsRow.alloc HRW.out _)
  have hN1 := HN.out
  have hob2 := (hb2.block ob (by omega)).trans HOBW.out
  have hbox2 := (hb2.block N (by omega)).trans HBOX.out
  rw [← hW2]
  refine hK.out _ _ (.inr (HS.out _ hob2 hbox2)) ?_
  have HB2 : Hid (Below N w W2) := hid (HBW.out.trans (hb2.mono (by omega)))
  clear hK K hW2
  have hlen : css.flatten.length = ts.length * 4 := by have := HR0.out.1; exact this
  refine U_step (j := 7) (by kernel_rfl) rfl (fun K hK => ?_)
  refine step_append_lies _ rfl (.tmp 54) (.tmp 57) 25 rfl 0 33 i0 (.agg #[.int .i64 0, .string ⟨#[]⟩, .bool false, .slice none 0 0]) 4 56 Tryz.underlying25 hi hz0 hz1 hz2 rfl (by decide) _ ts.length css.flatten (by rfl) hr2 ⟨W.heap.size, 0, none⟩ 1 1 [.int .i64 0, .string ⟨#[]⟩, .bool false, .slice none 0 0] (by rfl) rfl (World.news_of_block hzz) (by intro u hu; simp at hu; rcases hu with rfl | rfl | rfl | rfl <;> rfl) (by decide) (by unfold maxLen; omega) (by omega) (Nat.zero_le _) (N + 2) hN2 ?_
  intro g cap' W3 hrow3 hg3 hgc hglt
  have hob3 := (hg3.block ob (by omega) (fun e => HOB.out e.symm)).trans hob2
  have hbox3 := (hg3.block N (by omega) (fun e => HNB.out e.symm)).trans hbox2
  have q0 : W3.cell? ⟨g, ts.length * 4, none⟩ = some (.int .i64 0) := by rw [hrow3.cellAt _ (by omega), List.getElem?_append_right (by omega), hlen]; simp
  have q1 : W3.cell? ⟨g, ts.length * 4 + 1, none⟩ = some (.string ⟨#[]⟩) := by rw [hrow3.cellAt _ (by omega), List.getElem?_append_right (by omega), hlen]; simp
  have q2 : W3.cell? ⟨g, ts.length * 4 + 2, none⟩ = some (.bool false) := by rw [hrow3.cellAt _ (by omega), List.getElem?_append_right (by omega), hlen]; simp
  have q3 : W3.cell? ⟨g, ts.length * 4 + 3, none⟩ = some (.slice none 0 0) := by rw [hrow3.cellAt _ (by omega), List.getElem?_append_right (by omega), hlen]; simp
  have z0 := hrow3.frozenAt (ts.length * 4)
  have z1 := hrow3.frozenAt (ts.length * 4 + 1)
  have z2 := hrow3.frozenAt (ts.length * 4 + 2)
  have z3 := hrow3.frozenAt (ts.length * 4 + 3)
  have o0 : W3.cell? ⟨ob, 0, none⟩ = some (.slice (some ⟨g0, 0, none⟩) ts.length cap) := by rw [Lib.cell_of_heap hob3]; rfl
  have o1 : W3.frozen? ⟨ob, 0, none⟩ = false := Lib.frozen_of_heap hob3 0
  have hgo : g ≠ ob := by
    rcases hgc with h | h
    · rintro rfl; exact HOB.out h
    · omega
  have hb1 : ¬ ((ts.length : Int) + 1 ≤ ts.length) := by omega
  refine hK.out _ _ (.inl rfl) ?_
  clear hK K
  refine U_then (by kernel_rfl) ?_
  refine U_take (i := 8) (v := .pointer (some ⟨g, ts.length * 4, none⟩)) rfl (by kernel_rfl) (by kernel_rfl) (by kernel_rfl) (by kernel_rfl) (by kernel_rfl) (fun _ _ _ h => h) (.inl ⟨rfl, fun u hu => (by go_simp)⟩) trivial ?_
  refine U_take (i := 10) (v := .pointer (some ⟨ob, 0, none⟩)) rfl (by kernel_rfl) (by kernel_rfl) (by kernel_rfl) (by kernel_rfl) (by kernel_rfl) (fun _ _ _ h => h) (.inl ⟨rfl, fun u hu => (by go_simp)⟩) trivial ?_
  refine U_take (i := 11) (v := .pointer (some ⟨ob, 0, none⟩)) rfl (by kernel_rfl) (by kernel_rfl) (by kernel_rfl) (by kernel_rfl) (by kernel_rfl) (fun _ _ _ h => h) (.inl ⟨rfl, fun u hu => (by go_simp)⟩) trivial ?_
  refine U_two (j1 := 9) (j2 := 12) (by kernel_rfl) rfl rfl (fun K hK => ?_) (fun K hK => ?_)
  · go_simp
    refine hK.out _ _ (.inr trivial) ?_
    clear hK K
    refine U_step (j := 12) (by kernel_rfl) rfl (fun K hK => ?_)
    go_simp
    refine hK.out _ _ (.inr trivial) ?_
    clear hK K
    refine U_done (by kernel_rfl) ?_ _
    go_wp2
    rw [rounds_succ]
    go_wp2
    go_end0
    exact ⟨rfl, add_end HNW.out HOB0.out hob3 hrb hcl hel HX.out HB2.out hN2 hBw hlen hrow3 hg3 hgc hgo hobl⟩
  · go_simp
    refine hK.out _ _ (.inr trivial) ?_
    clear hK K
    refine U_step (j := 9) (by kernel_rfl) rfl (fun K hK => ?_)
    go_simp
    refine hK.out _ _ (.inr trivial) ?_
    clear hK K
    refine U_done (by kernel_rfl) ?_ _
    go_wp2
    rw [rounds_succ]
    go_wp2
    go_end0
    have hE := add_end HNW.out HOB0.out hob3 hrb hcl hel HX.out HB2.out hN2 hBw hlen hrow3 hg3 hgc hgo hobl
    rw [setCell_comm _ (a := ⟨g, ts.length * 4 + 3, none⟩) (b := ⟨ob, 0, none⟩) hgo, setCell_comm _ (a := ⟨g, ts.length * 4 + 2, none⟩) (b := ⟨ob, 0, none⟩) hgo, setCell_comm _ (a := ⟨g, ts.length * 4 + 1, none⟩) (b := ⟨ob, 0, none⟩) hgo, setCell_comm _ (a := ⟨g, ts.length * 4, none⟩) (b := ⟨ob, 0, none⟩) hgo] at hE
    exact ⟨rfl, hE⟩
end Go.Proofs.YtkgpmkkodpjdfaaGreatDoor.Pz
/-
  What stands ready is put behind the tokens.
-/
namespace Go.Proofs.YtkgpmkkodpjdfaaGreatDoor.Pz
open Go.RowKit
/-- the last token is no text -/
def LastOk (ts : List Tok) : Prop := ts = [] ∨ ∃ (hne : 0 < ts.length), (ts[ts.length - 1]'(by omega)).kind ≠ 1
theorem LastOk.snoc (ts : List Tok) {x : Tok} (hx : x.kind ≠ 1) : LastOk (ts ++ [x]) := by
  refine .inr ⟨by simp, ?_⟩
  have : (ts ++ [x])[(ts ++ [x]).length - 1]'(by simp) = x := by simp
  rw [this]
  exact hx
theorem Bld.of2 {w w' : World} {b : Nat} {l : Str} (h : Bld w b l) (hk : ∀ (k : Nat) (cs : Array Value) (T : TypeId) (fz : Nat × Nat), w.heap[k]? = some (.cells cs T fz) → (T = 77 ∨ T = 5) → w'.heap[k]? = w.heap[k]?) : Bld w' b l := by
  have go : ∀ p, Lib.BuilderAtF 77 5 b b p (Lib.byteCells l) w → Lib.BuilderAtF 77 5 b b p (Lib.byteCells l) w' := by
    rintro p ⟨hB, v, hb, hown, hne⟩
    refine ⟨hB, v, (hk b _ _ _ hb (.inl rfl)).trans hb, ⟨hown.1, ?_⟩, hne⟩
    rcases hown.2 with hn | ⟨g, cap, cur, fz, hv, hbg, hg, rest⟩
    · exact .inl hn
    · exact .inr ⟨g, cap, cur, fz, hv, hbg, (hk g _ _ _ hg (.inr rfl)).trans hg, rest⟩
  exact h.elim (fun x => .inl (go _ x)) (fun x => .inr (go _ x))
theorem Bld.block {w : World} {b : Nat} {l : Str} (h : Bld w b l) : ∃ cs, w.heap[b]? = some (.cells cs 77 (0, 0)) := by
  obtain ⟨p, _, _, v, hb, _⟩ := h.at
  exact ⟨_, hb⟩
/-- a block of another kind than bytes stands behind a step of the builder -/
theorem Kept.at {b : Nat} {w w' : World} (h : Kept b w w') {l : Str} (hB : Bld w b l) {g : Nat} {cur : Array Value} {T : TypeId} {fz : Nat × Nat} (hg : w.heap[g]? = some (.cells cur T fz)) (h1 : T ≠ 5) (h2 : T ≠ 77) : w'.heap[g]? = some (.cells cur T fz) := by
  refine h.2 g _ hg ?_ ?_
  · intro e
    have := Option.some.inj e
    subst this
    obtain ⟨cs, hb⟩ := hB.block
    rw [hg] at hb
    simp only [Option.some.injEq, Obj.cells.injEq] at hb
    exact h2 hb.2.1
  · intro c f e
    simp only [Obj.cells.injEq] at e
    exact h1 e.2.1
theorem OutIs.kept {w w' : World} {B b : Nat} {v : Value} {ts : List Tok} {l : Str} (h : OutIs w B v ts) (hB : Bld w b l) (hk : Kept b w w') : OutIs w' B v ts :=
  h.keep fun g cur _ hc => hk.at hB hc (by decide) (by decide)
theorem OutIs.below {w w' : World} {B : Nat} {v : Value} {ts : List Tok} (h : OutIs w B v ts) (hb : Below w.heap.size w w') : OutIs w' B v ts :=
  h.keep fun g _ _ hc => (hb.block g (Array.getElem?_eq_some_iff.1 hc).1).trans hc
theorem Two.below {a : Nat} {r : Option Nat} {w w' : World} (h : Two a r w w') {M : Nat} (ha : M ≤ a) (hM : M ≤ w.heap.size) (hr : ∀ g, r = some g → M ≤ g) : Below M w w' :=
  ⟨h.os, h.tape, h.output, h.size, fun k hk => h.block k (by omega) (by omega) (fun e => by have := hr k e.symm; omega)⟩
theorem Bld.two {w w' : World} {b ob : Nat} {l : Str} {v : Value} {B : Nat} {ts : List Tok} {oc : Array Value} (h : Bld w b l) (ht : Two ob v.ownBlock w w') (hout : OutIs w B v ts) (hob : w.heap[ob]? = some (.cells oc 91 (0, 0))) : Bld w' b l := by
  refine h.of2 fun k cs T fz hk hT => ht.block k (Array.getElem?_eq_some_iff.1 hk).1 ?_ ?_
  · rintro rfl
    rw [hk] at hob
    simp only [Option.some.injEq, Obj.cells.injEq] at hob
    rcases hT with rfl | rfl
    · exact absurd hob.2.1 (by decide)
    · exact absurd hob.2.1 (by decide)
  · intro e
    obtain ⟨css, h1, _⟩ := hout
    obtain ⟨_, cur, hc⟩ := ownsRow_lt h1 k e.symm
    rw [hk] at hc
    simp only [Option.some.injEq, Obj.cells.injEq] at hc
    rcases hT with rfl | rfl
    · exact absurd hc.2.1 (by decide)
    · exact absurd hc.2.1 (by decide)
/-- a text is put behind tokens -/
theorem add_text {w : World} {ob mb B : Nat} {v : Value} {ts : List Tok} {s : Str}
    (hob : w.heap[ob]? = some (.cells #[v] 91 (0, 0))) (hout : OutIs w B v ts) (hmb : w.heap[mb]? = some (.cells #[.int .i64 1, .string ⟨s.toArray⟩, .bool false, .slice none 0 0] 33 (0, 0)))
    (hn : ts.length ≤ 1000000) (hBw : B ≤ w.heap.size) (hl : LastOk ts) :
    Calls Tryz.prog 55 #[.pointer (some ⟨ob, 0, none⟩), .slice (some ⟨mb, 0, none⟩) 1 1] w fun e w' => e = .returned (.tuple #[]) ∧ ∃ v', w'.heap[ob]? = some (.cells #[v'] 91 (0, 0)) ∧ OutIs w' B v' (ts ++ [Tok.txt s]) ∧ Grew v v' w.heap.size ∧ Two ob v.ownBlock w w' := by
  have hx : TokIs 33 w (fun g => B ≤ g ∧ v.ownBlock ≠ some g) [.int .i64 1, .string ⟨s.toArray⟩, .bool false, .slice none 0 0] (Tok.txt s) :=
    .mk 1 s false [] (.slice none 0 0) [] (World.ownsRow_nil _ _ _ _) (fun g hg => by simp [Value.ownBlock] at hg) rfl (fun i h1 => by simp at h1)
  rcases hl with hl | ⟨hne, hl⟩
  · exact add_b hob hout hmb hx hn hBw hl
  · exact add_c hob hout hmb hx hn hBw ⟨hne, rfl⟩ hl
set_option maxRecDepth 100000 in
set_option maxHeartbeats 1000000 in
theorem flush_fn {w : World} {ob pb M : Nat} {v : Value} {ts : List Tok} {p : Str} (hB : Bld w pb p) (hob : w.heap[ob]? = some (.cells #[v] 91 (0, 0))) (hout : OutIs w M v ts)
    (hn : ts.length ≤ 1000000) (hMw : M ≤ ob) (hMp : M ≤ pb) (hl : LastOk ts) (hp : p.length ≤ 1000000) :
    Calls Tryz.prog 53 #[.pointer (some ⟨pb, 0, none⟩), .pointer (some ⟨ob, 0, none⟩)] w fun e w' => e = .returned (.tuple #[]) ∧ ∃ v', w'.heap[ob]? = some (.cells #[v'] 91 (0, 0)) ∧ OutIs w' M v' (ts ++ flush p) ∧ Grew v v' w.heap.size ∧ (∀ k cur, w.heap[k]? = some (.cells cur 33 (0, 0)) → v.ownBlock ≠ some k → w'.heap[k]? = some (.cells cur 33 (0, 0))) ∧ Bld w' pb [] ∧ Below M w w' := by
  have hc := hid (len_fn hB)
  have hpl := hB.lt
  by_cases hp0 : p = []
  · subst hp0
    have h0 : ¬ 0 < ([] : Str).length := by simp
    go_enter Tryz.func53, Tryz.ntmps53
    go_wp2_with fail
    (with_reducible refine hc.out.mono ?_); rintro e w' ⟨rfl, rfl⟩
    go_wp2
    go_end0
    exact ⟨rfl, v, hob, by simpa [flush] using hout, .inl rfl, fun _ _ h _ => h, hB, Below.refl _ _⟩
  · have hf : flush p = [Tok.txt p] := by unfold flush; rw [if_neg (by simpa using hp0)]
    rw [hf]
    have hs := hid (str_fn hB)
    have h0n : 0 < p.length := by cases p with | nil => exact absurd rfl hp0 | cons c p => simp
    have h0i : (0 : Int) < (p.length : Nat) := by omega
    clear hf hp0
    have HOB := hid hob
    clear hob
    obtain ⟨n, hn2⟩ : ∃ n, n = p.length := ⟨_, rfl⟩
    rw [← hn2] at hc h0n h0i
    clear hn2
    go_enter Tryz.func53, Tryz.ntmps53
    go_wp2_with fail
    (with_reducible refine hc.out.mono ?_); rintro e w' ⟨rfl, rfl⟩
    go_wp2_with fail
    (with_reducible refine hs.out.mono ?_); rintro e w1 ⟨rfl, hB1, hk1⟩
    have hlit := hid (literal_fn p w1)
    have hob1 := hk1.at hB HOB.out (by decide) (by decide)
    have hout1 := hout.kept hB hk1
    go_wp2_with fail
    (with_reducible refine hlit.out.mono ?_); rintro e w2 ⟨rfl, hw2⟩
    have hb2 : Below w1.heap.size w1 w2 := by rw [hw2]; exact (Below.refl _ _).alloc (Nat.le_refl _) _
    have hmb : w2.heap[w1.heap.size]? = some (.cells #[.int .i64 1, .string ⟨p.toArray⟩, .bool false, .slice none 0 0] 33 (0, 0)) := by rw [hw2]; exact heap_alloc_new w1 _
    have hob2 := (hb2.block ob (Array.getElem?_eq_some_iff.1 hob1).1).trans hob1
    have hout2 := hout1.below hb2
    have hB2 := hB1.below hb2
    have hpl1 := hB1.lt
    have hsz2 := hb2.size
    have ha := hid (add_text hob2 hout2 hmb hn (by omega) hl)
    clear hw2
    go_wp2_with fail
    (with_reducible refine ha.out.mono ?_); rintro e w3 ⟨rfl, v3, hob3, hout3, hg3, ht3⟩
    have hB3 := hB2.two ht3 hout2 hob2
    have hr := hid (reset_fn hB3)
    go_wp2_with fail
    (with_reducible refine hr.out.mono ?_); rintro e w4 ⟨rfl, hB4, hk4⟩
    have hob4 := hk4.at hB3 hob3 (by decide) (by decide)
    have hout4 := hout3.kept hB3 hk4
    have hvb := hout2.shape
    go_wp2
    go_end0
    refine ⟨rfl, v3, hob4, hout4, ?_, ?_, hB4, ?_⟩
    · rcases hg3 with h | ⟨g, h1, h2⟩
      · exact .inl h
      · exact .inr ⟨g, h1, by have := hk1.1.size; omega⟩
    · intro k cur hk hne
      have h1 := hk1.at hB hk (by decide) (by decide)
      have h2 := (hb2.block k (Array.getElem?_eq_some_iff.1 h1).1).trans h1
      have h3 := (ht3.block k (Array.getElem?_eq_some_iff.1 h2).1 (by
        rintro rfl
        rw [h2] at hob2
        simp at hob2) (fun e => hne e.symm)).trans h2
      exact hk4.at hB3 h3 (by decide) (by decide)
    obtain ⟨_, _, _, hvb⟩ := hvb
    exact ((hk1.1.mono hMp).trans (hb2.mono (by omega))).trans ((ht3.below hMw (by omega) (fun g hg => (hvb g hg).1)).trans (hk4.1.mono hMp))
end Go.Proofs.YtkgpmkkodpjdfaaGreatDoor.Pz
/-
  The contracts of the reader's functions; the closures by which 'parts' asks for its end; 'deeper'.
-/
namespace Go.Proofs.YtkgpmkkodpjdfaaGreatDoor.Pz
open Go.RowKit
def stopOf (s : Str) : Halt → List PanicEntry
  | .lacks b => stopAt ((s.length - b : Nat) : Int) 2 true
  | .wrong b => stopAt ((s.length - b : Nat) : Int) 2 false
  | .deep => stopAt 0 4 false
/-- what is new since a world of so many blocks -/
def New (B : Nat) : Nat → Prop := fun g => B ≤ g
def CmdsP (rb : Nat) (s : Str) (d : Nat) (w : World) (R : Res (List Cmd)) (e : Ending) (w' : World) : Prop :=
  match R with
  | .ok cs r => ∃ v, e = .returned v ∧ RdAt w' rb s (s.length - r.length) d all3 ∧ CmdsIs 33 49 47 s.length w' (New w.heap.size) v cs ∧ But rb w.heap.size w w'
  | .halt h => e = .panicked (stopOf s h) ∧ But rb w.heap.size w w'
def CmdP (rb : Nat) (s : Str) (i d : Nat) (w : World) (R : Res (List Wd)) (e : Ending) (w' : World) : Prop :=
  match R with
  | .ok ws r => ∃ v, e = .returned (.agg #[.int .i64 (i : Nat), v]) ∧ RdAt w' rb s (s.length - r.length) d all3 ∧ WdsIs 33 49 w' (New w.heap.size) v ws ∧ But rb w.heap.size w w'
  | .halt h => e = .panicked (stopOf s h) ∧ But rb w.heap.size w w'
def WordP (rb : Nat) (s : Str) (d : Nat) (w : World) (R : Res Wd) (e : Ending) (w' : World) : Prop :=
  match R with
  | .ok x r => ∃ v, e = .returned (.agg #[.bool x.spread, v]) ∧ RdAt w' rb s (s.length - r.length) d all3 ∧ ToksIs 33 w' (New w.heap.size) v x.toks ∧ But rb w.heap.size w w'
  | .halt h => e = .panicked (stopOf s h) ∧ But rb w.heap.size w w'
def PartsP (rb : Nat) (s : Str) (d : Nat) (g : Told) (w : World) (R : Res (List Tok)) (e : Ending) (w' : World) : Prop :=
  match R with
  | .ok ts r => ∃ v, e = .returned v ∧ RdAt w' rb s (s.length - r.length) d g ∧ ToksIs 33 w' (New w.heap.size) v (filled ts) ∧ But rb w.heap.size w w'
  | .halt h => e = .panicked (stopOf s h) ∧ But rb w.heap.size w w'
def ScriptP (rb : Nat) (s : Str) (d : Nat) (g : Told) (w : World) (R : Res Str) (e : Ending) (w' : World) : Prop :=
  match R with
  | .ok x r => e = .returned (.agg #[.int .i64 3, .string ⟨x.toArray⟩, .bool false, .slice none 0 0]) ∧ RdAt w' rb s (s.length - r.length) d g ∧ But rb w.heap.size w w'
  | .halt h => e = .panicked (stopOf s h) ∧ But rb w.heap.size w w'
def VarP (rb : Nat) (s : Str) (i d : Nat) (g : Told) (w : World) (R : Res (Option Tok)) (e : Ending) (w' : World) : Prop :=
  match R with
  | .ok none _ => e = .returned (.tuple #[.agg #[.int .i64 0, .string ⟨#[]⟩, .bool false, .slice none 0 0], .bool false]) ∧ RdAt w' rb s i d g ∧ But rb w.heap.size w w'
  | .ok (some (.mk k x h ix)) r => ∃ v, e = .returned (.tuple #[.agg #[.int .i64 (k : Nat), .string ⟨x.toArray⟩, .bool h, v], .bool true]) ∧ RdAt w' rb s (s.length - r.length) d g ∧ ToksIs 33 w' (New w.heap.size) v ix ∧ But rb w.heap.size w w'
  | .halt h => e = .panicked (stopOf s h) ∧ But rb w.heap.size w w'
/-- a function value that tells where parts end -/
structure EndsBy (f : Upto) (rb : Nat) (w0 : World) (k : Nat) (fst cap : Array Value) : Prop where
  enters : ∀ args w, (callFunc k args).run Tryz.prog w = .ok (.enter k args) w
  tells : ∀ (w : World) (s l : Str) (i d : Nat) (g : Told), But rb w0.heap.size w0 w → RdAt w rb s i d g → At s l i → s.length ≤ 1000000 → Calls Tryz.prog k (fst ++ cap) w fun e w' => e = .returned (.bool (f.ends l)) ∧ ∃ n, w' = w.drewN n
def CmdsC (wi : Bool) (d : Nat) (l : Str) : Prop := ∀ (w : World) (rb : Nat) (s : Str) (i : Nat), s.length ≤ 1000000 → d ≤ 100 → RdAt w rb s i d all3 → At s l i →
  Calls Tryz.prog 50 #[.pointer (some ⟨rb, 0, none⟩), .bool wi] w (CmdsP rb s d w (commands wi d l))
def CmdC (wi : Bool) (d : Nat) (l : Str) : Prop := ∀ (w : World) (rb : Nat) (s : Str) (i : Nat), s.length ≤ 1000000 → d ≤ 100 → RdAt w rb s i d all3 → At s l i → (parted wi l = false → ended wi l = false) →
  Calls Tryz.prog 84 #[.pointer (some ⟨rb, 0, none⟩), .bool wi] w (CmdP rb s i d w (command wi d l))
def WordC (wi : Bool) (d : Nat) (l : Str) : Prop := ∀ (w : World) (rb : Nat) (s : Str) (i : Nat), s.length ≤ 1000000 → d ≤ 100 → RdAt w rb s i d all3 → At s l i → l ≠ [] →
  Calls Tryz.prog 109 #[.pointer (some ⟨rb, 0, none⟩), .bool wi] w (WordP rb s d w (word wi d l))
def PartsC (f : Upto) (g : Told) (d : Nat) (l : Str) : Prop := ∀ (w : World) (rb : Nat) (s : Str) (i k : Nat) (fst cap : Array Value), s.length ≤ 1000000 → d ≤ 100 → RdAt w rb s i d g → At s l i → EndsBy f rb w k fst cap →
  Calls Tryz.prog 31 #[.pointer (some ⟨rb, 0, none⟩), .func (.func k) fst cap] w (PartsP rb s d g w (parts f g d l))
def ScriptC (d : Nat) (l : Str) : Prop := ∀ (w : World) (rb : Nat) (s : Str) (i : Nat) (g : Told), s.length ≤ 1000000 → d ≤ 100 → RdAt w rb s i d g → At s (91 :: l) i →
  Calls Tryz.prog 59 #[.pointer (some ⟨rb, 0, none⟩)] w (ScriptP rb s d g w (script d l))
def VarC (g : Told) (d : Nat) (l : Str) : Prop := ∀ (w : World) (rb : Nat) (s : Str) (i : Nat), s.length ≤ 1000000 → d ≤ 100 → RdAt w rb s i d g → At s (36 :: l) i →
  Calls Tryz.prog 36 #[.pointer (some ⟨rb, 0, none⟩)] w (VarP rb s i d g w (varOf g d l))
/-- a variable in a block of its own -/
def Box (w : World) (p : Nat) (T : TypeId) (v : Value) : Prop := w.heap[p]? = some (.cells #[v] T (0, 0))
theorem Box.cell {w : World} {p : Nat} {T : TypeId} {v : Value} (h : Box w p T v) : w.cell? ⟨p, 0, none⟩ = some v := by rw [Lib.cell_of_heap h]; rfl
theorem Box.free {w : World} {p : Nat} {T : TypeId} {v : Value} (h : Box w p T v) : w.frozen? ⟨p, 0, none⟩ = false := Lib.frozen_of_heap h 0
theorem Box.lt {w : World} {p : Nat} {T : TypeId} {v : Value} (h : Box w p T v) : p < w.heap.size := (Array.getElem?_eq_some_iff.1 h).1
theorem Box.but {w w' : World} {p rb : Nat} {T : TypeId} {v : Value} (h : Box w p T v) (hb : But rb w.heap.size w w') (hp : p ≠ rb) : Box w' p T v := (hb.block p h.lt hp).trans h
theorem Box.new (w : World) (T : TypeId) (v : Value) : Box (w.alloc (.cells #[v] T)) w.heap.size T v := heap_alloc_new w _
theorem Box.set {w : World} {p : Nat} {T : TypeId} {v : Value} (h : Box w p T v) (u : Value) : Box (w.setCell ⟨p, 0, none⟩ u) p T u := by
  unfold Box at *
  simp [World.setCell, Array.getElem?_modify, h]
theorem Box.ne {w : World} {p rb : Nat} {T : TypeId} {v : Value} {s : Str} {i d : Nat} {g : Told} (h : Box w p T v) (hr : RdAt w rb s i d g) : p ≠ rb := by
  rintro rfl
  unfold Box at h
  unfold RdAt at hr
  rw [h] at hr
  simp at hr
set_option maxRecDepth 100000 in
/-- the bare word's end -/
theorem wordEnd_fn {w : World} {rb p q : Nat} {s l : Str} {i d : Nat} {g : Told} {wi : Bool} (hp : Box w p 52 (.pointer (some ⟨rb, 0, none⟩))) (hq : Box w q 4 (.bool wi)) (h : RdAt w rb s i d g) (hat : At s l i) (hs : s.length ≤ 1000000) :
    Calls Tryz.prog 127 #[.pointer (some ⟨p, 0, none⟩), .pointer (some ⟨q, 0, none⟩)] w fun e w' => e = .returned (.bool (ended wi l)) ∧ ∃ n, w' = w.drewN n := by
  have c1 := hp.cell
  have c2 := hq.cell
  have hc := hid (ended_fn h hat hs wi)
  go_enter Tryz.func127, Tryz.ntmps127
  go_wp2_with fail
  (with_reducible refine hc.out.mono ?_); rintro e w1 ⟨rfl, n, rfl⟩
  go_wp2
  go_ret
  exact ⟨rfl, _, rfl⟩
set_option maxRecDepth 100000 in
/-- the quoted word's end -/
theorem quotedEnd_fn {w : World} {rb p : Nat} {s l : Str} {i d : Nat} {g : Told} (hp : Box w p 52 (.pointer (some ⟨rb, 0, none⟩))) (h : RdAt w rb s i d g) (hat : At s l i) (_hs : s.length ≤ 1000000) :
    Calls Tryz.prog 151 #[.pointer (some ⟨p, 0, none⟩)] w fun e w' => e = .returned (.bool (headIs 34 l)) ∧ ∃ n, w' = w.drewN n := by
  have k1 := hp.cell
  obtain ⟨c0, c1, _⟩ := h.cells
  have hsz : (⟨s.toArray⟩ : ByteArray).size = s.length := Lib.size_mk _
  have he : ∀ n, Calls Tryz.prog 32 #[.pointer (some ⟨rb, 0, none⟩)] (w.drewN n) fun e w' => e = .returned (.bool (decide (s.length ≤ i))) ∧ ∃ m, w' = (w.drewN n).drewN m := fun n => end_fn (h.drewN n)
  cases l with
  | nil =>
    have hge : s.length ≤ i := hat.nil_iff.1 rfl
    rw [decide_eq_true hge] at he
    have HE := hid he
    clear he
    go_enter Tryz.func151, Tryz.ntmps151
    go_wp2
    go_quiet ((go_at_call 32; exact Calls.quiet_of (HE.out _)))
    go_wp2
    go_ret
    exact ⟨rfl, _, rfl⟩
  | cons c t =>
    have hlt := hat.lt
    have hx := hat.byte
    rw [decide_eq_false (by omega)] at he
    have HE := hid he
    clear he
    have hh : headIs 34 (c :: t) = ((c.toNat : Int) == 34) := by
      show (c == 34) = _
      by_cases h34 : c = 34
      · subst h34; rfl
      · rw [byte_ne 34 h34 rfl]; simpa using h34
    rw [hh]
    clear hh
    go_enter Tryz.func151, Tryz.ntmps151
    go_wp2
    go_quiet ((go_at_call 32; exact Calls.quiet_of (HE.out _)))
    go_wp2
    go_ret
    exact ⟨rfl, _, rfl⟩
set_option maxRecDepth 100000 in
/-- the index' end -/
theorem indexEnd_fn {w : World} {rb p : Nat} {s l : Str} {i d : Nat} {g : Told} (hp : Box w p 52 (.pointer (some ⟨rb, 0, none⟩))) (h : RdAt w rb s i d g) (hat : At s l i) (_hs : s.length ≤ 1000000) :
    Calls Tryz.prog 72 #[.pointer (some ⟨p, 0, none⟩)] w fun e w' => e = .returned (.bool (headIs 41 l)) ∧ ∃ n, w' = w.drewN n := by
  have k1 := hp.cell
  obtain ⟨c0, c1, _⟩ := h.cells
  have hsz : (⟨s.toArray⟩ : ByteArray).size = s.length := Lib.size_mk _
  have he : ∀ n, Calls Tryz.prog 32 #[.pointer (some ⟨rb, 0, none⟩)] (w.drewN n) fun e w' => e = .returned (.bool (decide (s.length ≤ i))) ∧ ∃ m, w' = (w.drewN n).drewN m := fun n => end_fn (h.drewN n)
  cases l with
  | nil =>
    have hge : s.length ≤ i := hat.nil_iff.1 rfl
    rw [decide_eq_true hge] at he
    have HE := hid he
    clear he
    go_enter Tryz.func72, Tryz.ntmps72
    go_wp2
    go_quiet ((go_at_call 32; exact Calls.quiet_of (HE.out _)))
    go_wp2
    go_ret
    exact ⟨rfl, _, rfl⟩
  | cons c t =>
    have hlt := hat.lt
    have hx := hat.byte
    rw [decide_eq_false (by omega)] at he
    have HE := hid he
    clear he
    have hh : headIs 41 (c :: t) = ((c.toNat : Int) == 41) := by
      show (c == 41) = _
      by_cases h34 : c = 41
      · subst h34; rfl
      · rw [byte_ne 41 h34 rfl]; simpa using h34
    rw [hh]
    clear hh
    go_enter Tryz.func72, Tryz.ntmps72
    go_wp2
    go_quiet ((go_at_call 32; exact Calls.quiet_of (HE.out _)))
    go_wp2
    go_ret
    exact ⟨rfl, _, rfl⟩
end Go.Proofs.YtkgpmkkodpjdfaaGreatDoor.Pz
/-
  'deeper'; a script between brackets.
-/
namespace Go.Proofs.YtkgpmkkodpjdfaaGreatDoor.Pz
open Go.RowKit
set_option maxRecDepth 100000 in
theorem deeper_stop {w : World} {rb : Nat} {s : Str} {i : Nat} {g : Told} {k : Nat} {cap : Array Value} (h : RdAt w rb s i 100 g) :
    Calls Tryz.prog 70 #[.pointer (some ⟨rb, 0, none⟩), .func (.func k) #[] cap] w fun e w' => e = .panicked (stopAt 0 4 false) ∧ w' = w := by
  obtain ⟨c0, c1, c2, _⟩ := h.cells
  go_enter Tryz.func70, Tryz.ntmps70
  go_wp2
  exact ⟨rfl, rfl, rfl⟩
/-- what the deeper reading leaves -/
def DeepOk (rb : Nat) (s : Str) (d : Nat) (R : Ending → World → Prop) : Prop := ∀ e w', R e w' → (∃ v i' g', e = .returned v ∧ RdAt w' rb s i' (d + 1) g') ∨ (∃ ch, e = .panicked ch)
def DeepP (rb d : Nat) (R : Ending → World → Prop) (e : Ending) (w' : World) : Prop := (∃ v w1, R (.returned v) w1 ∧ w' = w1.setCell ⟨rb, 2, none⟩ (.int .i64 (d : Nat)) ∧ e = .returned (.tuple #[])) ∨ (∃ ch, e = .panicked ch ∧ R e w')
set_option maxRecDepth 100000 in
theorem deeper_go {w : World} {rb : Nat} {s : Str} {i d : Nat} {g : Told} {k : Nat} {cap : Array Value} (h : RdAt w rb s i d g) (hd : d < 100) (eg : ∀ args w, (callFunc k args).run Tryz.prog w = .ok (.enter k args) w) (R : Ending → World → Prop)
    (hc : Calls Tryz.prog k cap (w.setCell ⟨rb, 2, none⟩ (.int .i64 ((d : Nat) + 1))) R) (hR : DeepOk rb s d R) :
    Calls Tryz.prog 70 #[.pointer (some ⟨rb, 0, none⟩), .func (.func k) #[] cap] w (DeepP rb d R) := by
  obtain ⟨c0, c1, c2, _⟩ := h.cells
  have z2 := h.free 2
  have HC := hid hc
  have HR := hid hR
  clear hc hR
  go_enter Tryz.func70, Tryz.ntmps70
  go_wp2
  (with_reducible refine HC.out.mono ?_); intro e w1 h1
  rcases HR.out e w1 h1 with ⟨v, i', g', rfl, hr⟩ | ⟨ch, rfl⟩
  · obtain ⟨e0, e1, e2, _⟩ := hr.cells
    have y2 := hr.free 2
    have H1 := hid h1
    clear h1 c0 c1 c2 z2 hr h
    have hdd : (((d : Nat) : Int) + 1) = ((d + 1 : Nat) : Int) := by omega
    rw [← hdd] at e2
    clear hdd
    go_wp2
    go_end0
    exact .inl ⟨v, w1, H1.out, rfl, rfl⟩
  · exact ⟨rfl, .inr ⟨ch, rfl, h1⟩⟩
theorem RdAt.shut {w : World} {rb : Nat} {s : Str} {i d d' : Nat} {g : Told} (h : RdAt w rb s i d' g) : RdAt (w.setCell ⟨rb, 2, none⟩ (.int .i64 (d : Nat))) rb s i d g := h.deep rfl
theorem But.set {rb B : Nat} {a w : World} (h : But rb B a w) (o : Nat) (u : Value) : But rb B a (w.setCell ⟨rb, o, none⟩ u) := h.setCell (.inl rfl) u
set_option maxRecDepth 100000 in
theorem scriptIn_fn {w : World} {rb p : Nat} {s l : Str} {i d : Nat} (ih : CmdsC true d l) (hp : Box w p 52 (.pointer (some ⟨rb, 0, none⟩))) (h : RdAt w rb s i d all3) (hat : At s l i) (hs : s.length ≤ 1000000) (hd : d ≤ 100) :
    Calls Tryz.prog 86 #[.pointer (some ⟨p, 0, none⟩)] w fun e w' => (∃ v, CmdsP rb s d w (commands true d l) (.returned v) w' ∧ e = .returned (.tuple #[])) ∨ (∃ ch, CmdsP rb s d w (commands true d l) (.panicked ch) w' ∧ e = .panicked ch) := by
  have c1 := hp.cell
  have hc := hid (ih w rb s i hs hd h hat)
  clear ih
  go_enter Tryz.func86, Tryz.ntmps86
  go_wp2_with fail
  (with_reducible refine hc.out.mono ?_); intro e w1 h1
  cases e with
  | returned v =>
    have H1 := hid h1
    clear h1
    go_wp2
    go_end0
    exact .inl ⟨v, H1.out, rfl⟩
  | panicked ch => exact ⟨rfl, .inr ⟨ch, h1, rfl⟩⟩
  | outgrown =>
    unfold CmdsP at h1
    split at h1
    · obtain ⟨v, h2, _⟩ := h1; cases h2
    · obtain ⟨h2, _⟩ := h1; cases h2
end Go.Proofs.YtkgpmkkodpjdfaaGreatDoor.Pz
/-
  A script between brackets.
-/
namespace Go.Proofs.YtkgpmkkodpjdfaaGreatDoor.Pz
open Go.RowKit
theorem at_world {P : Program} {c : Code} {Q : Exit → Act → World → Prop} {a : Act} {w : World} (h : ∀ W, W = w → c.wp P Q a W) : c.wp P Q a w := h w rfl
theorem U_end {P : Program} {ops : Array Oper} {Q : Exit → Act → World → Prop} {md : Region.Mode} {S : World → Prop} {late : Nat → Bool} {listed : Array Bool} {a : Act} {w : World} (hr : Region.ready md ops listed = []) (h : ∀ W, W = w → Q .normal a W) : ∀ fuel, anyU P md ops Q late S fuel listed a w := U_done hr (h w rfl)
theorem RdAt.flags {w : World} {rb : Nat} {s : Str} {i d : Nat} {g : Told} (h : RdAt w rb s i d g) (a b c : Bool) : RdAt (((w.setCell ⟨rb, 3, none⟩ (.bool a)).setCell ⟨rb, 4, none⟩ (.bool b)).setCell ⟨rb, 5, none⟩ (.bool c)) rb s i d ⟨a, b, c⟩ := by
  unfold RdAt at *
  simp [World.setCell, Array.getElem?_modify, h]
theorem RdAt.alloc {w : World} {rb : Nat} {s : Str} {i d : Nat} {g : Told} (h : RdAt w rb s i d g) (o : Obj) : RdAt (w.alloc o) rb s i d g := (Below.heap_alloc w o rb h.lt).trans h
/-- blocks that are new -/
theorem new1 (X : World) (a : Obj) : (X.alloc a).heap[X.heap.size]? = some a := by
  show (X.heap.push a)[X.heap.size]? = _
  simp
theorem new2 (X : World) (a b : Obj) : ((X.alloc a).alloc b).heap[X.heap.size]? = some a ∧ ((X.alloc a).alloc b).heap[X.heap.size + 1]? = some b := by
  constructor
  · rw [Below.heap_alloc _ _ _ (by simp)]; exact new1 X a
  · have := new1 (X.alloc a) b
    simpa using this
theorem new3 (X : World) (a b c : Obj) : (((X.alloc a).alloc b).alloc c).heap[X.heap.size]? = some a ∧ (((X.alloc a).alloc b).alloc c).heap[X.heap.size + 1]? = some b ∧ (((X.alloc a).alloc b).alloc c).heap[X.heap.size + 1 + 1]? = some c := by
  refine ⟨?_, ?_, ?_⟩
  · rw [Below.heap_alloc _ _ _ (by simp; omega)]; exact (new2 X a b).1
  · rw [Below.heap_alloc _ _ _ (by simp)]; exact (new2 X a b).2
  · have := new1 ((X.alloc a).alloc b) c
    simpa using this
theorem But.heap {rb B : Nat} {w w' : World} (h : But rb B w w') {k : Nat} {o : Obj} (hk : k < B) (hr : k ≠ rb) (ho : w.heap[k]? = some o) : w'.heap[k]? = some o := (h.block k hk hr).trans ho
set_option maxRecDepth 100000 in
set_option maxHeartbeats 4000000 in
theorem script_walk {d : Nat} {l : Str} (ih : CmdsC true (d + 1) l) : ScriptC d l := by
  intro w rb s i g hs hd h hat
  have hlt := h.lt
  have hlt1 : rb < w.heap.size + 1 := by omega
  have hlt2 : rb < w.heap.size + 1 + 1 := by omega
  obtain ⟨c0, c1, c2, c3, c4, c5⟩ := h.cells
  have z1 := h.free 1
  have hi := hat.lt
  have hmf : ∀ (fn : Fn) (first cap : Array Value) (w : World), (Instr.makeFunc fn first cap).run Tryz.prog w = .ok (.func fn first cap) w := fun _ _ _ _ => rfl
  have eg : ∀ args w, (callFunc 86 args).run Tryz.prog w = .ok (.enter 86 args) w := enters_of Tryz.func86 (by kernel_rfl) rfl
  obtain ⟨N, hN⟩ : ∃ N, N = w.heap.size := ⟨_, rfl⟩
  have HN := hid hN
  clear hN
  have HAT := hid hat
  have HRD := hid h
  obtain ⟨R, hR⟩ : ∃ R, R = script d l := ⟨_, rfl⟩
  rw [← hR]
  have HR := hid hR
  clear hR hat h
  go_enter Tryz.func59, Tryz.ntmps59
  go_wp2
  refine at_world fun W hW => ?_
  have hX : N = (w.setCell ⟨rb, 1, none⟩ (.int .i64 ((i : Int) + 1))).heap.size := by rw [HN.out]; simp
  have hsz : W.heap.size = N + 3 := by rw [hW, HN.out]; simp
  have hrd : RdAt W rb s (i + 1) d g := by rw [hW]; exact (((HRD.out.go (j := i + 1) (by go_num)).alloc _).alloc _).alloc _
  obtain ⟨hbx, hres, hwas⟩ : Box W N 52 (.pointer (some ⟨rb, 0, none⟩)) ∧ W.heap[N + 1]? = some (.cells #[.int .i64 0, .string ⟨#[]⟩, .bool false, .slice none 0 0] 33 (0, 0)) ∧ W.heap[N + 1 + 1]? = some (.cells #[.string ⟨s.toArray⟩, .int .i64 (i : Nat), .int .i64 (d : Nat), .bool g.slashes, .bool g.vars, .bool g.scripts] 54 (0, 0)) := by
    rw [hW, hX]
    exact new3 _ _ _ _
  have hbut : But rb N w W := by
    rw [hW]
    exact ((((But.refl rb N w).set 1 _).alloc (by rw [← hX]; omega) _).alloc (by simp; rw [HN.out]; omega) _).alloc (by simp; rw [HN.out]; omega) _
  rw [← HN.out] at hlt hlt1 hlt2 ⊢
  clear hW hX c0 c1 c2 c3 c4 c5 z1
  have hrN : rb ≠ N := by omega
  obtain ⟨c0, c1, c2, c3, c4, c5⟩ := hrd.cells
  have z3 := hrd.free 3
  have z4 := hrd.free 4
  have z5 := hrd.free 5
  have b0 := hbx.cell
  refine U_begin (late := fun _ => false) (S := fun u => u.cell? ⟨N, 0, none⟩ = some (.pointer (some ⟨rb, 0, none⟩))) (by kernel_rfl) ?_
  have S0 : Hid (W.drew.cell? ⟨N, 0, none⟩ = some (.pointer (some ⟨rb, 0, none⟩))) := hid (by go_simp)
  refine U_take (i := 0) (v := .pointer (some ⟨rb, 0, none⟩)) rfl (by kernel_rfl) (by kernel_rfl) (by kernel_rfl) (by kernel_rfl) (by kernel_rfl) (fun _ _ _ h => h) (.inl ⟨rfl, fun u hu => (by go_simp)⟩) S0.out ?_
  refine U_take (i := 1) (v := .pointer (some ⟨rb, 0, none⟩)) rfl (by kernel_rfl) (by kernel_rfl) (by kernel_rfl) (by kernel_rfl) (by kernel_rfl) (fun _ _ _ h => h) (.inl ⟨rfl, fun u hu => (by go_simp)⟩) S0.out ?_
  refine U_take (i := 2) (v := .pointer (some ⟨rb, 0, none⟩)) rfl (by kernel_rfl) (by kernel_rfl) (by kernel_rfl) (by kernel_rfl) (by kernel_rfl) (fun _ _ _ h => h) (.inl ⟨rfl, fun u hu => (by go_simp)⟩) S0.out ?_
  refine U_take (i := 3) (v := .pointer (some ⟨rb, 0, none⟩)) rfl (by kernel_rfl) (by kernel_rfl) (by kernel_rfl) (by kernel_rfl) (by kernel_rfl) (fun _ _ _ h => h) (.inl ⟨rfl, fun u hu => (by go_simp)⟩) S0.out ?_
  refine U_take (i := 4) (v := .pointer (some ⟨rb, 3, none⟩)) rfl (by kernel_rfl) (by kernel_rfl) (by kernel_rfl) (by kernel_rfl) (by kernel_rfl) (fun _ _ _ h => h) (.inl ⟨rfl, fun u hu => (by go_simp)⟩) S0.out ?_
  refine U_step (j := 5) (by kernel_rfl) rfl (fun K hK => ?_)
  go_simp
  refine hK.out _ _ (.inr (by go_simp)) ?_
  clear hK K
  have S1 : Hid ((W.setCell ⟨rb, 3, none⟩ (.bool true)).drew.cell? ⟨N, 0, none⟩ = some (.pointer (some ⟨rb, 0, none⟩))) := hid (by go_simp)
  refine U_take (i := 6) (v := .pointer (some ⟨rb, 0, none⟩)) rfl (by kernel_rfl) (by kernel_rfl) (by kernel_rfl) (by kernel_rfl) (by kernel_rfl) (fun _ _ _ h => h) (.inl ⟨rfl, fun u hu => (by go_simp)⟩) S1.out ?_
  refine U_take (i := 7) (v := .pointer (some ⟨rb, 4, none⟩)) rfl (by kernel_rfl) (by kernel_rfl) (by kernel_rfl) (by kernel_rfl) (by kernel_rfl) (fun _ _ _ h => h) (.inl ⟨rfl, fun u hu => (by go_simp)⟩) S1.out ?_
  refine U_step (j := 8) (by kernel_rfl) rfl (fun K hK => ?_)
  go_simp
  refine hK.out _ _ (.inr (by go_simp)) ?_
  clear hK K
  have S2 : Hid (((W.setCell ⟨rb, 3, none⟩ (.bool true)).setCell ⟨rb, 4, none⟩ (.bool true)).drew.cell? ⟨N, 0, none⟩ = some (.pointer (some ⟨rb, 0, none⟩))) := hid (by go_simp)
  refine U_take (i := 9) (v := .pointer (some ⟨rb, 0, none⟩)) rfl (by kernel_rfl) (by kernel_rfl) (by kernel_rfl) (by kernel_rfl) (by kernel_rfl) (fun _ _ _ h => h) (.inl ⟨rfl, fun u hu => (by go_simp)⟩) S2.out ?_
  refine U_take (i := 10) (v := .pointer (some ⟨rb, 5, none⟩)) rfl (by kernel_rfl) (by kernel_rfl) (by kernel_rfl) (by kernel_rfl) (by kernel_rfl) (fun _ _ _ h => h) (.inl ⟨rfl, fun u hu => (by go_simp)⟩) S2.out ?_
  refine U_step (j := 11) (by kernel_rfl) rfl (fun K hK => ?_)
  go_simp
  refine hK.out _ _ (.inr (by go_simp)) ?_
  clear hK K
  refine U_end (by kernel_rfl) (fun W4 hW4 => ?_) _
  have hrd4 : RdAt W4 rb s (i + 1) d all3 := by rw [hW4]; exact (hrd.flags true true true).drewN 1
  have hbut4 : But rb N w W4 := by rw [hW4]; exact (((hbut.set 3 _).set 4 _).set 5 _).drew
  have hsz4 : W4.heap.size = N + 3 := by rw [hW4]; simp [hsz]
  have hot4 : ∀ k, k ≠ rb → W4.heap[k]? = W.heap[k]? := by
    intro k hk
    rw [hW4]
    show ((((W.setCell ⟨rb, 3, none⟩ (.bool true)).setCell ⟨rb, 4, none⟩ (.bool true)).setCell ⟨rb, 5, none⟩ (.bool true))).heap[k]? = _
    rw [Below.heap_setCell _ _ _ _ (fun e => hk e), Below.heap_setCell _ _ _ _ (fun e => hk e), Below.heap_setCell _ _ _ _ (fun e => hk e)]
  have hbx4 : Box W4 N 52 (.pointer (some ⟨rb, 0, none⟩)) := (hot4 N (by omega)).trans hbx
  have hres4 := (hot4 (N + 1) (by omega)).trans hres
  have hwas4 := (hot4 (N + 1 + 1) (by omega)).trans hwas
  clear hW4 hot4 hrd hbut hsz hbx hres hwas c0 c1 c2 c3 c4 c5 z3 z4 z5 b0 S0 S1 S2 W
  have b0 := hbx4.cell
  by_cases hd100 : d = 100
  · subst hd100
    have hc := hid (deeper_stop (k := 86) (cap := #[.pointer (some ⟨N, 0, none⟩)]) hrd4)
    go_wp2_with fail
    (with_reducible refine hc.out.mono ?_); rintro e w5 ⟨rfl, rfl⟩
    refine ⟨rfl, ?_⟩
    have hr : R = .halt .deep := by rw [HR.out, script, if_pos (by decide)]
    rw [hr]
    exact ⟨rfl, by rw [← HN.out]; exact hbut4⟩
  have hd1 : d < 100 := by omega
  have hrd5 := hrd4.deep (v := .int .i64 ((d : Nat) + 1)) (j := d + 1) (by go_num)
  have hbx5 : Box (W4.setCell ⟨rb, 2, none⟩ (.int .i64 ((d : Nat) + 1))) N 52 (.pointer (some ⟨rb, 0, none⟩)) := (Below.heap_setCell _ _ _ _ (fun e => by dsimp only at e; omega)).trans hbx4
  have hin := scriptIn_fn ih hbx5 hrd5 HAT.out.tail hs (by omega)
  have hc := hid (deeper_go hrd4 hd1 eg _ hin (by
    rintro e w' (⟨v, h1, rfl⟩ | ⟨ch, h1, rfl⟩)
    · refine .inl ?_
      unfold CmdsP at h1
      split at h1
      · obtain ⟨v', h2, h3, _⟩ := h1
        exact ⟨_, _, _, rfl, h3⟩
      · cases h1.1
    · exact .inr ⟨ch, rfl⟩))
  go_wp2_with fail
  (with_reducible refine hc.out.mono ?_)
  clear hc hin
  intro e w6 h6
  have hsc : R = if d == maxDeep then .halt .deep else match commands true (d + 1) l with
    | .halt h => .halt h
    | .ok _ r => match r with
      | [] => .halt (.lacks (l.length + 1))
      | _ :: r' => .ok (l.take (l.length - r.length)) r' := by rw [HR.out, script]; rfl
  rw [if_neg (by simpa [maxDeep] using hd100)] at hsc
  have hcok := cmds_ok true (d + 1) l
  unfold CmdsOk at hcok
  cases hcm : commands true (d + 1) l with
  | halt hh =>
    rw [hcm] at h6 hsc
    rcases h6 with ⟨v, w1, ⟨v', h1, _⟩ | ⟨ch, _, h1⟩, _, _⟩ | ⟨ch, rfl, ⟨v', _, h1⟩ | ⟨ch', h1, h2⟩⟩
    · cases h1.1
    · cases h1
    · cases h1
    · cases h2
      obtain ⟨h1, h3⟩ := h1
      simp only [Ending.panicked.injEq] at h1
      subst h1
      refine ⟨rfl, ?_⟩
      rw [hsc]
      refine ⟨rfl, ?_⟩
      rw [← HN.out]
      exact (hbut4.set 2 _).trans (h3.mono (by simp; omega))
  | ok cs r =>
    rw [hcm] at h6 hsc
    have hok := hcok cs r hcm
    rcases h6 with ⟨v, w1, ⟨v', h1, h2⟩ | ⟨ch, _, h1⟩, hw6, rfl⟩ | ⟨ch, rfl, ⟨v', _, h1⟩ | ⟨ch', h1, h2⟩⟩
    · obtain ⟨v'', -, h4, -, h5⟩ := h1
      have hrd6 : RdAt w6 rb s (s.length - r.length) d all3 := by rw [hw6]; exact h4.shut
      have hbut6 : But rb (N + 3) W4 w6 := by
        rw [hw6]
        have h6 := ((But.refl rb (N + 3) W4).set 2 (.int .i64 ((d : Nat) + 1))).trans (h5.mono (by simp; omega))
        exact h6.set 2 _
      clear h4 h5 hw6 h2 hrd4 hbx5 hrd5
      have hbx6 : Box w6 N 52 (.pointer (some ⟨rb, 0, none⟩)) := hbut6.heap (by omega) (by omega) hbx4
      have hres6 := hbut6.heap (by omega) (by omega) hres4
      have hwas6 := hbut6.heap (by omega) (by omega) hwas4
      have hb6 : But rb N w w6 := hbut4.trans (hbut6.mono (by omega))
      have hsz6 : N + 3 ≤ w6.heap.size := by have := hbut6.size; omega
      have HSC := hid hsc
      have HCM := hid hcm
      have HOK := hid hok
      clear hsc hcm hok hcok hbx4 hres4 hwas4 hbut4 hbut6 hsz4 b0
      obtain ⟨c0, c1, c2, c3, c4, c5⟩ := hrd6.cells
      have z3 := hrd6.free 3
      have z4 := hrd6.free 4
      have z5 := hrd6.free 5
      have b0 := hbx6.cell
      have k3 : w6.cell? ⟨N + 1 + 1, 3, none⟩ = some (.bool g.slashes) := by rw [Lib.cell_of_heap hwas6]; rfl
      have k4 : w6.cell? ⟨N + 1 + 1, 4, none⟩ = some (.bool g.vars) := by rw [Lib.cell_of_heap hwas6]; rfl
      have k5 : w6.cell? ⟨N + 1 + 1, 5, none⟩ = some (.bool g.scripts) := by rw [Lib.cell_of_heap hwas6]; rfl
      have hr2 : rb ≠ N + 1 + 1 := by omega
      go_wp2
      refine U_begin (late := fun _ => false) (S := fun u => u.cell? ⟨N, 0, none⟩ = some (.pointer (some ⟨rb, 0, none⟩)) ∧ u.cell? ⟨N + 1 + 1, 3, none⟩ = some (.bool g.slashes) ∧ u.cell? ⟨N + 1 + 1, 4, none⟩ = some (.bool g.vars) ∧ u.cell? ⟨N + 1 + 1, 5, none⟩ = some (.bool g.scripts)) (by kernel_rfl) ?_
      have S0 : Hid ((fun u => u.cell? ⟨N, 0, none⟩ = some (.pointer (some ⟨rb, 0, none⟩)) ∧ u.cell? ⟨N + 1 + 1, 3, none⟩ = some (.bool g.slashes) ∧ u.cell? ⟨N + 1 + 1, 4, none⟩ = some (.bool g.vars) ∧ u.cell? ⟨N + 1 + 1, 5, none⟩ = some (.bool g.scripts)) (w6.drew)) := hid ⟨by go_simp, by go_simp, by go_simp, by go_simp⟩
      refine U_take (i := 0) (v := .pointer (some ⟨rb, 0, none⟩)) rfl (by kernel_rfl) (by kernel_rfl) (by kernel_rfl) (by kernel_rfl) (by kernel_rfl) (fun _ _ _ h => h) (.inl ⟨rfl, fun u hu => (by obtain ⟨h1, h2, h3, h4⟩ := hu; go_simp)⟩) S0.out ?_
      refine U_take (i := 1) (v := .pointer (some ⟨rb, 0, none⟩)) rfl (by kernel_rfl) (by kernel_rfl) (by kernel_rfl) (by kernel_rfl) (by kernel_rfl) (fun _ _ _ h => h) (.inl ⟨rfl, fun u hu => (by obtain ⟨h1, h2, h3, h4⟩ := hu; go_simp)⟩) S0.out ?_
      refine U_take (i := 2) (v := .pointer (some ⟨rb, 0, none⟩)) rfl (by kernel_rfl) (by kernel_rfl) (by kernel_rfl) (by kernel_rfl) (by kernel_rfl) (fun _ _ _ h => h) (.inl ⟨rfl, fun u hu => (by obtain ⟨h1, h2, h3, h4⟩ := hu; go_simp)⟩) S0.out ?_
      refine U_take (i := 3) (v := .pointer (some ⟨N + 1 + 1, 3, none⟩)) rfl (by kernel_rfl) (by kernel_rfl) (by kernel_rfl) (by kernel_rfl) (by kernel_rfl) (fun _ _ _ h => h) (.inl ⟨rfl, fun u hu => (by go_simp)⟩) S0.out ?_
      refine U_take (i := 4) (v := .bool g.slashes) rfl (by kernel_rfl) (by kernel_rfl) (by kernel_rfl) (by kernel_rfl) (by kernel_rfl) (fun _ _ _ h => h) (.inl ⟨rfl, fun u hu => (by obtain ⟨h1, h2, h3, h4⟩ := hu; go_simp)⟩) S0.out ?_
      refine U_take (i := 5) (v := .pointer (some ⟨N + 1 + 1, 4, none⟩)) rfl (by kernel_rfl) (by kernel_rfl) (by kernel_rfl) (by kernel_rfl) (by kernel_rfl) (fun _ _ _ h => h) (.inl ⟨rfl, fun u hu => (by go_simp)⟩) S0.out ?_
      refine U_take (i := 6) (v := .bool g.vars) rfl (by kernel_rfl) (by kernel_rfl) (by kernel_rfl) (by kernel_rfl) (by kernel_rfl) (fun _ _ _ h => h) (.inl ⟨rfl, fun u hu => (by obtain ⟨h1, h2, h3, h4⟩ := hu; go_simp)⟩) S0.out ?_
      refine U_take (i := 7) (v := .pointer (some ⟨N + 1 + 1, 5, none⟩)) rfl (by kernel_rfl) (by kernel_rfl) (by kernel_rfl) (by kernel_rfl) (by kernel_rfl) (fun _ _ _ h => h) (.inl ⟨rfl, fun u hu => (by go_simp)⟩) S0.out ?_
      refine U_take (i := 8) (v := .bool g.scripts) rfl (by kernel_rfl) (by kernel_rfl) (by kernel_rfl) (by kernel_rfl) (by kernel_rfl) (fun _ _ _ h => h) (.inl ⟨rfl, fun u hu => (by obtain ⟨h1, h2, h3, h4⟩ := hu; go_simp)⟩) S0.out ?_
      refine U_take (i := 9) (v := .pointer (some ⟨rb, 0, none⟩)) rfl (by kernel_rfl) (by kernel_rfl) (by kernel_rfl) (by kernel_rfl) (by kernel_rfl) (fun _ _ _ h => h) (.inl ⟨rfl, fun u hu => (by go_simp)⟩) S0.out ?_
      refine U_take (i := 10) (v := .pointer (some ⟨rb, 3, none⟩)) rfl (by kernel_rfl) (by kernel_rfl) (by kernel_rfl) (by kernel_rfl) (by kernel_rfl) (fun _ _ _ h => h) (.inl ⟨rfl, fun u hu => (by go_simp)⟩) S0.out ?_
      refine U_step (j := 11) (by kernel_rfl) rfl (fun K hK => ?_)
      go_simp
      refine hK.out _ _ (.inr ⟨by go_simp, by go_simp, by go_simp, by go_simp⟩) ?_
      clear hK K
      have S1 : Hid ((fun u => u.cell? ⟨N, 0, none⟩ = some (.pointer (some ⟨rb, 0, none⟩)) ∧ u.cell? ⟨N + 1 + 1, 3, none⟩ = some (.bool g.slashes) ∧ u.cell? ⟨N + 1 + 1, 4, none⟩ = some (.bool g.vars) ∧ u.cell? ⟨N + 1 + 1, 5, none⟩ = some (.bool g.scripts)) ((w6.setCell ⟨rb, 3, none⟩ (.bool g.slashes)).drew)) := hid ⟨by go_simp, by go_simp, by go_simp, by go_simp⟩
      refine U_take (i := 12) (v := .pointer (some ⟨rb, 0, none⟩)) rfl (by kernel_rfl) (by kernel_rfl) (by kernel_rfl) (by kernel_rfl) (by kernel_rfl) (fun _ _ _ h => h) (.inl ⟨rfl, fun u hu => (by go_simp)⟩) S1.out ?_
      refine U_take (i := 13) (v := .pointer (some ⟨rb, 4, none⟩)) rfl (by kernel_rfl) (by kernel_rfl) (by kernel_rfl) (by kernel_rfl) (by kernel_rfl) (fun _ _ _ h => h) (.inl ⟨rfl, fun u hu => (by go_simp)⟩) S1.out ?_
      refine U_step (j := 14) (by kernel_rfl) rfl (fun K hK => ?_)
      go_simp
      refine hK.out _ _ (.inr ⟨by go_simp, by go_simp, by go_simp, by go_simp⟩) ?_
      clear hK K
      have S2 : Hid ((fun u => u.cell? ⟨N, 0, none⟩ = some (.pointer (some ⟨rb, 0, none⟩)) ∧ u.cell? ⟨N + 1 + 1, 3, none⟩ = some (.bool g.slashes) ∧ u.cell? ⟨N + 1 + 1, 4, none⟩ = some (.bool g.vars) ∧ u.cell? ⟨N + 1 + 1, 5, none⟩ = some (.bool g.scripts)) (((w6.setCell ⟨rb, 3, none⟩ (.bool g.slashes)).setCell ⟨rb, 4, none⟩ (.bool g.vars)).drew)) := hid ⟨by go_simp, by go_simp, by go_simp, by go_simp⟩
      refine U_take (i := 15) (v := .pointer (some ⟨rb, 0, none⟩)) rfl (by kernel_rfl) (by kernel_rfl) (by kernel_rfl) (by kernel_rfl) (by kernel_rfl) (fun _ _ _ h => h) (.inl ⟨rfl, fun u hu => (by go_simp)⟩) S2.out ?_
      refine U_take (i := 16) (v := .pointer (some ⟨rb, 5, none⟩)) rfl (by kernel_rfl) (by kernel_rfl) (by kernel_rfl) (by kernel_rfl) (by kernel_rfl) (fun _ _ _ h => h) (.inl ⟨rfl, fun u hu => (by go_simp)⟩) S2.out ?_
      refine U_step (j := 17) (by kernel_rfl) rfl (fun K hK => ?_)
      go_simp
      refine hK.out _ _ (.inr ⟨by go_simp, by go_simp, by go_simp, by go_simp⟩) ?_
      clear hK K
      refine U_end (by kernel_rfl) (fun W7 hW7 => ?_) _
      have hrd7 : RdAt W7 rb s (s.length - r.length) d g := by rw [hW7]; exact (hrd6.flags g.slashes g.vars g.scripts).drewN 1
      have hb7 : But rb N w W7 := by rw [hW7]; exact (((hb6.set 3 _).set 4 _).set 5 _).drew
      have hsz7 : N + 3 ≤ W7.heap.size := by rw [hW7]; simp; exact hsz6
      have hot7 : ∀ k, k ≠ rb → W7.heap[k]? = w6.heap[k]? := by
        intro k hk
        rw [hW7]
        show ((((w6.setCell ⟨rb, 3, none⟩ (.bool g.slashes)).setCell ⟨rb, 4, none⟩ (.bool g.vars)).setCell ⟨rb, 5, none⟩ (.bool g.scripts))).heap[k]? = _
        rw [Below.heap_setCell _ _ _ _ (fun e => hk e), Below.heap_setCell _ _ _ _ (fun e => hk e), Below.heap_setCell _ _ _ _ (fun e => hk e)]
      have hbx7 : Box W7 N 52 (.pointer (some ⟨rb, 0, none⟩)) := (hot7 N (by omega)).trans hbx6
      have hres7 := (hot7 (N + 1) (by omega)).trans hres6
      clear hW7 hot7 hrd6 hb6 hsz6 hbx6 hres6 hwas6 c0 c1 c2 c3 c4 c5 z3 z4 z5 b0 k3 k4 k5 S0 S1 S2 w6
      have b0 := hbx7.cell
      have he := end_fn hrd7
      have hsuf := HOK.out.1
      have hlr := hsuf.length_le
      have hll := HAT.out.len
      simp only [List.length_cons] at hll
      cases r with
      | nil =>
        rw [decide_eq_true (by simp)] at he
        have he := hid he
        go_wp2_with fail
        (with_reducible refine he.out.mono ?_); rintro e w8 ⟨rfl, m, rfl⟩
        have ho := hid (open_fn (i : Nat) (W7.drewN m))
        go_wp2_with fail
        (with_reducible refine ho.out.mono ?_); rintro e w9 ⟨rfl, rfl⟩
        refine ⟨rfl, ?_⟩
        rw [HSC.out]
        refine ⟨?_, by rw [← HN.out]; exact hb7.drewN m⟩
        rw [stopOf, show s.length - (l.length + 1) = i by omega]
      | cons e r =>
        simp only [List.length_cons] at hlr
        rw [decide_eq_false (by simp; omega)] at he
        have he := hid he
        have HR2 := hid HSC.out
        obtain ⟨x, hx⟩ : ∃ x, x = l.take (l.length - (e :: r).length) := ⟨_, rfl⟩
        have hlx : l = x ++ e :: r := by
          obtain ⟨q, hq⟩ := hsuf
          rw [hx, ← hq]
          simp
        have hex : (⟨s.toArray⟩ : ByteArray).extract (i + 1) (s.length - (r.length + 1)) = ⟨x.toArray⟩ := by
          have h1 := HAT.out.tail
          rw [hlx] at h1
          have h2 := h1.text
          rw [show i + 1 + x.length = s.length - (r.length + 1) by have := congrArg List.length hlx; simp at this; omega] at h2
          exact h2
        have hsz' : (⟨s.toArray⟩ : ByteArray).size = s.length := Lib.size_mk _
        simp only [List.length_cons] at hrd7
        obtain ⟨j, hj⟩ : ∃ j, j = s.length - (r.length + 1) := ⟨_, rfl⟩
        rw [← hj] at hrd7 hex
        have hj1 : i + 1 ≤ j := by rw [hj]; omega
        have hj2 : j < s.length := by rw [hj]; omega
        have HJ := hid hj
        have HX := hid hx
        clear hj hx hlx hsuf
        go_wp2_with fail
        (with_reducible refine he.out.mono ?_); rintro e' w8 ⟨rfl, m, rfl⟩
        have hrd8 := hrd7.drewN m
        have hb8 := hb7.drewN m
        have hbx8 : Box (W7.drewN m) N 52 (.pointer (some ⟨rb, 0, none⟩)) := hbx7
        have hres8 : (W7.drewN m).heap[N + 1]? = _ := hres7
        have hsz8 : N + 3 ≤ (W7.drewN m).heap.size := hsz7
        generalize W7.drewN m = W8 at *
        clear hrd7 hb7 hbx7 hres7 hsz7 he b0
        have b0 := hbx8.cell
        obtain ⟨c0, c1, c2, c3, c4, c5⟩ := hrd8.cells
        have z1 := hrd8.free 1
        have y0 : W8.cell? ⟨N + 1, 0, none⟩ = some (.int .i64 0) := by rw [Lib.cell_of_heap hres8]; rfl
        have y1 : W8.cell? ⟨N + 1, 1, none⟩ = some (.string ⟨#[]⟩) := by rw [Lib.cell_of_heap hres8]; rfl
        have y2 : W8.cell? ⟨N + 1, 2, none⟩ = some (.bool false) := by rw [Lib.cell_of_heap hres8]; rfl
        have y3 : W8.cell? ⟨N + 1, 3, none⟩ = some (.slice none 0 0) := by rw [Lib.cell_of_heap hres8]; rfl
        have f0 : W8.frozen? ⟨N + 1, 0, none⟩ = false := Lib.frozen_of_heap hres8 0
        have f1 : W8.frozen? ⟨N + 1, 1, none⟩ = false := Lib.frozen_of_heap hres8 1
        have f2 : W8.frozen? ⟨N + 1, 2, none⟩ = false := Lib.frozen_of_heap hres8 2
        have f3 : W8.frozen? ⟨N + 1, 3, none⟩ = false := Lib.frozen_of_heap hres8 3
        have hrN1 : rb ≠ N + 1 := by omega
        go_wp2
        refine at_world fun W9 hW9 => ?_
        have hrd9 : RdAt W9 rb s (j + 1) d g := by rw [hW9]; exact hrd8.go (by go_num)
        have hb9 : But rb N w W9 := by rw [hW9]; exact hb8.set 1 _
        have hbx9 : Box W9 N 52 (.pointer (some ⟨rb, 0, none⟩)) := by rw [hW9]; exact (Below.heap_setCell _ _ _ _ (fun e => by dsimp only at e; omega)).trans hbx8
        have hres9 : W9.heap[N + 1]? = some (.cells #[.int .i64 0, .string ⟨#[]⟩, .bool false, .slice none 0 0] 33 (0, 0)) := by rw [hW9]; exact (Below.heap_setCell _ _ _ _ (fun e => by dsimp only at e; omega)).trans hres8
        clear hW9 hrd8 hb8 hbx8 hres8 hsz8 b0 c0 c1 c2 c3 c4 c5 z1 y0 y1 y2 y3 f0 f1 f2 f3
        have b0 := hbx9.cell
        obtain ⟨c0, c1, _⟩ := hrd9.cells
        have y0 : W9.cell? ⟨N + 1, 0, none⟩ = some (.int .i64 0) := by rw [Lib.cell_of_heap hres9]; rfl
        have y1 : W9.cell? ⟨N + 1, 1, none⟩ = some (.string ⟨#[]⟩) := by rw [Lib.cell_of_heap hres9]; rfl
        have y2 : W9.cell? ⟨N + 1, 2, none⟩ = some (.bool false) := by rw [Lib.cell_of_heap hres9]; rfl
        have y3 : W9.cell? ⟨N + 1, 3, none⟩ = some (.slice none 0 0) := by rw [Lib.cell_of_heap hres9]; rfl
        have f0 : W9.frozen? ⟨N + 1, 0, none⟩ = false := Lib.frozen_of_heap hres9 0
        have f1 : W9.frozen? ⟨N + 1, 1, none⟩ = false := Lib.frozen_of_heap hres9 1
        have f2 : W9.frozen? ⟨N + 1, 2, none⟩ = false := Lib.frozen_of_heap hres9 2
        have f3 : W9.frozen? ⟨N + 1, 3, none⟩ = false := Lib.frozen_of_heap hres9 3
        have w1 : IntKind.i64.wrap ((i : Int) + 1) = (i : Int) + 1 := IntWalk.i64_in _ (by omega)
        have w2 : IntKind.i64.wrap (j : Int) = j := IntWalk.i64_in _ (by omega)
        have w3 : (0 : Int) ≤ (i : Int) + 1 := by omega
        have w4 : ((i : Int) + 1).toNat = i + 1 := by omega
        have w5 : (i : Int) + 1 ≤ (j : Int) := by omega
        have w6 : (j : Int) ≤ (s.length : Int) := by omega
        refine U_begin (late := fun i => decide (i = 13)) (S := fun u => u.cell? ⟨N, 0, none⟩ = some (.pointer (some ⟨rb, 0, none⟩)) ∧ u.cell? ⟨rb, 0, none⟩ = some (.string ⟨s.toArray⟩) ∧ u.cell? ⟨rb, 1, none⟩ = some (.int .i64 ((j + 1 : Nat) : Int))) (by kernel_rfl) ?_
        have S0 : Hid ((fun u => u.cell? ⟨N, 0, none⟩ = some (.pointer (some ⟨rb, 0, none⟩)) ∧ u.cell? ⟨rb, 0, none⟩ = some (.string ⟨s.toArray⟩) ∧ u.cell? ⟨rb, 1, none⟩ = some (.int .i64 ((j + 1 : Nat) : Int))) W9.drew) := hid ⟨by go_simp, by go_simp, by go_simp⟩
        refine U_take (i := 0) (v := .pointer (some ⟨rb, 0, none⟩)) rfl (by kernel_rfl) (by kernel_rfl) (by kernel_rfl) (by kernel_rfl) (by kernel_rfl) (fun _ _ _ h => h) (.inl ⟨rfl, fun u hu => (by obtain ⟨h1, h2, h3⟩ := hu; go_simp)⟩) S0.out ?_
        refine U_take (i := 1) (v := .pointer (some ⟨rb, 0, none⟩)) rfl (by kernel_rfl) (by kernel_rfl) (by kernel_rfl) (by kernel_rfl) (by kernel_rfl) (fun _ _ _ h => h) (.inl ⟨rfl, fun u hu => (by go_simp)⟩) S0.out ?_
        refine U_take (i := 2) (v := .pointer (some ⟨rb, 0, none⟩)) rfl (by kernel_rfl) (by kernel_rfl) (by kernel_rfl) (by kernel_rfl) (by kernel_rfl) (fun _ _ _ h => h) (.inl ⟨rfl, fun u hu => (by go_simp)⟩) S0.out ?_
        refine U_take (i := 3) (v := .string ⟨s.toArray⟩) rfl (by kernel_rfl) (by kernel_rfl) (by kernel_rfl) (by kernel_rfl) (by kernel_rfl) (fun _ _ _ h => h) (.inl ⟨rfl, fun u hu => (by obtain ⟨h1, h2, h3⟩ := hu; go_simp)⟩) S0.out ?_
        refine U_take (i := 4) (v := .int .i64 (i : Nat)) rfl (by kernel_rfl) (by kernel_rfl) (by kernel_rfl) (by kernel_rfl) (by kernel_rfl) (fun _ _ _ h => h) (.inl ⟨rfl, fun u hu => (by go_simp)⟩) S0.out ?_
        refine U_take (i := 5) (v := .int .i64 ((i : Nat) + 1)) rfl (by kernel_rfl) (by kernel_rfl) (by kernel_rfl) (by kernel_rfl) (by kernel_rfl) (fun _ _ _ h => h) (.inl ⟨rfl, fun u hu => (by go_simp)⟩) S0.out ?_
        refine U_take (i := 6) (v := .pointer (some ⟨rb, 0, none⟩)) rfl (by kernel_rfl) (by kernel_rfl) (by kernel_rfl) (by kernel_rfl) (by kernel_rfl) (fun _ _ _ h => h) (.inl ⟨rfl, fun u hu => (by obtain ⟨h1, h2, h3⟩ := hu; go_simp)⟩) S0.out ?_
        refine U_take (i := 7) (v := .pointer (some ⟨rb, 0, none⟩)) rfl (by kernel_rfl) (by kernel_rfl) (by kernel_rfl) (by kernel_rfl) (by kernel_rfl) (fun _ _ _ h => h) (.inl ⟨rfl, fun u hu => (by go_simp)⟩) S0.out ?_
        refine U_take (i := 8) (v := .pointer (some ⟨rb, 1, none⟩)) rfl (by kernel_rfl) (by kernel_rfl) (by kernel_rfl) (by kernel_rfl) (by kernel_rfl) (fun _ _ _ h => h) (.inl ⟨rfl, fun u hu => (by go_simp)⟩) S0.out ?_
        refine U_take (i := 9) (v := .int .i64 ((j + 1 : Nat) : Int)) rfl (by kernel_rfl) (by kernel_rfl) (by kernel_rfl) (by kernel_rfl) (by kernel_rfl) (fun _ _ _ h => h) (.inl ⟨rfl, fun u hu => (by obtain ⟨h1, h2, h3⟩ := hu; go_simp)⟩) S0.out ?_
        refine U_take (i := 10) (v := .int .i64 (j : Nat)) rfl (by kernel_rfl) (by kernel_rfl) (by kernel_rfl) (by kernel_rfl) (by kernel_rfl) (fun _ _ _ h => h) (.inl ⟨rfl, fun u hu => (by go_simp)⟩) S0.out ?_
        refine U_take (i := 11) (v := .string ⟨x.toArray⟩) rfl (by kernel_rfl) (by kernel_rfl) (by kernel_rfl) (by kernel_rfl) (by kernel_rfl) (fun _ _ _ h => h) (.inl ⟨rfl, fun u hu => (by go_simp)⟩) S0.out ?_
        refine U_take (i := 12) (v := .agg #[.int .i64 3, .string ⟨x.toArray⟩, .bool false, .slice none 0 0]) rfl (by kernel_rfl) (by kernel_rfl) (by kernel_rfl) (by kernel_rfl) (by kernel_rfl) (fun _ _ _ h => h) (.inl ⟨rfl, fun u hu => (by go_simp)⟩) S0.out ?_
        refine U_step (j := 13) (by kernel_rfl) rfl (fun K hK => ?_)
        go_simp
        refine hK.out _ _ (.inl rfl) ?_
        clear hK K
        refine U_end (by kernel_rfl) (fun W10 hW10 => ?_) _
        have hW10' : W10 = ((((W9.drew.setCell ⟨N + 1, 0, none⟩ (.int .i64 3)).setCell ⟨N + 1, 1, none⟩ (.string ⟨x.toArray⟩)).setCell ⟨N + 1, 2, none⟩ (.bool false)).setCell ⟨N + 1, 3, none⟩ (.slice none 0 0)) := hW10
        have hrd10 : RdAt W10 rb s (j + 1) d g := by
          rw [hW10']
          refine hrd9.of ?_
          rw [Below.heap_setCell _ _ _ _ (fun e => by dsimp only at e; omega), Below.heap_setCell _ _ _ _ (fun e => by dsimp only at e; omega), Below.heap_setCell _ _ _ _ (fun e => by dsimp only at e; omega), Below.heap_setCell _ _ _ _ (fun e => by dsimp only at e; omega)]
          rfl
        have hb10 : But rb N w W10 := by
          rw [hW10']
          exact (((hb9.drew.setCell (.inr (by dsimp only; omega)) _).setCell (.inr (by dsimp only; omega)) _).setCell (.inr (by dsimp only; omega)) _).setCell (.inr (by dsimp only; omega)) _
        have hres10 : W10.heap[N + 1]? = some (.cells #[.int .i64 3, .string ⟨x.toArray⟩, .bool false, .slice none 0 0] 33 (0, 0)) := by
          rw [hW10']
          have e : W9.drew.heap[N + 1]? = _ := hres9
          simp [World.setCell, Array.getElem?_modify, e]
        clear hW10 hW10' hrd9 hb9 hbx9 hres9 b0 c0 c1 y0 y1 y2 y3 f0 f1 f2 f3 S0
        have y0 : W10.cell? ⟨N + 1, 0, none⟩ = some (.int .i64 3) := by rw [Lib.cell_of_heap hres10]; rfl
        have y1 : W10.cell? ⟨N + 1, 1, none⟩ = some (.string ⟨x.toArray⟩) := by rw [Lib.cell_of_heap hres10]; rfl
        have y2 : W10.cell? ⟨N + 1, 2, none⟩ = some (.bool false) := by rw [Lib.cell_of_heap hres10]; rfl
        have y3 : W10.cell? ⟨N + 1, 3, none⟩ = some (.slice none 0 0) := by rw [Lib.cell_of_heap hres10]; rfl
        go_wp2
        refine bodyPost_ret (v := .agg #[.int .i64 3, .string ⟨x.toArray⟩, .bool false, .slice none 0 0]) (by simp [results, Tryz.results59, go_sem, y0, y1, y2, y3]) rfl ?_
        rw [HR2.out]
        refine ⟨by rw [HX.out], ?_, by rw [← HN.out]; exact hb10⟩
        rw [show s.length - r.length = j + 1 by rw [HJ.out]; omega]
        exact hrd10
    · cases h1
    · cases h1
    · obtain ⟨v', h3, _⟩ := h1; cases h3
end Go.Proofs.YtkgpmkkodpjdfaaGreatDoor.Pz
/-
  A variable: what it asks; its index.
-/
namespace Go.Proofs.YtkgpmkkodpjdfaaGreatDoor.Pz
open Go.RowKit
theorem indexByte_cons (b : UInt8) (l : Str) (c : UInt8) : Lib.indexByte (b :: l) c = if b == c then 0 else if Lib.indexByte l c == -1 then -1 else Lib.indexByte l c + 1 := rfl
theorem indexByte_skip {b : UInt8} (l : Str) {c : UInt8} (h : (b == c) = false) : Lib.indexByte (b :: l) c = if Lib.indexByte l c == -1 then -1 else Lib.indexByte l c + 1 := by
  rw [indexByte_cons, h]
  rfl
theorem upTo_skip {b : UInt8} (l : Str) (h : (b == 125) = false) : upTo (b :: l) = pre [b] (upTo l) := by
  rw [upTo, h]
  rfl
/-- where the closing brace stands -/
def upLen : Option (Str × Str) → Int
  | none => -1
  | some (x, _) => ((x.length : Nat) : Int)
theorem upLen_pre (b : UInt8) (o : Option (Str × Str)) : upLen (pre [b] o) = if upLen o == -1 then -1 else upLen o + 1 := by
  cases o with
  | none => rfl
  | some y =>
    obtain ⟨x, r⟩ := y
    show (((b :: x).length : Nat) : Int) = if ((x.length : Nat) : Int) == -1 then -1 else ((x.length : Nat) : Int) + 1
    rw [if_neg (by rw [beq_iff_eq]; omega)]
    simp
theorem indexByte_upTo : ∀ (t : Str), Lib.indexByte t 125 = upLen (upTo t)
  | [] => rfl
  | c :: t => by
    cases h : c == 125 with
    | true =>
      have : c = 125 := by simpa using h
      subst this
      rfl
    | false => rw [indexByte_skip t h, upTo_skip t h, upLen_pre, indexByte_upTo t]
def dolIx : Option (Str × Str) → Int
  | none => -1
  | some (x, _) => ((x.length : Nat) : Int) + 2
theorem indexByte_dollar (t : Str) : Lib.indexByte (36 :: 123 :: t) 125 = dolIx (upTo t) := by
  rw [indexByte_skip (b := 36) (123 :: t) (by decide), indexByte_skip (b := 123) t (by decide), indexByte_upTo t]
  cases upTo t with
  | none => rfl
  | some y =>
    obtain ⟨x, r⟩ := y
    have h1 : (if upLen (some (x, r)) == -1 then (-1 : Int) else upLen (some (x, r)) + 1) = ((x.length : Nat) : Int) + 1 := by
      show (if ((x.length : Nat) : Int) == -1 then (-1 : Int) else ((x.length : Nat) : Int) + 1) = _
      rw [if_neg (by rw [beq_iff_eq]; omega)]
    rw [h1, if_neg (by rw [beq_iff_eq]; omega)]
    show ((x.length : Nat) : Int) + 1 + 1 = ((x.length : Nat) : Int) + 2
    omega
theorem hasPrefix_dollar (l : Str) : Lib.hasPrefix (36 :: l) [36, 123] = (l.head? == some 123) := by
  cases l with
  | nil => rfl
  | cons c t =>
    by_cases h : c = 123
    · subst h; rfl
    · have h1 : Lib.hasPrefix (36 :: c :: t) [36, 123] = false := by
        simp [Lib.hasPrefix, List.isPrefixOf]
        exact fun e => h e.symm
      rw [h1]
      simp [h]
theorem parts_shape {rb : Nat} {s : Str} {d : Nat} {g : Told} {w : World} {R : Res (List Tok)} {e : Ending} {w' : World} (h : PartsP rb s d g w R e w') : (∃ a n c, e = .returned (.slice a n c)) ∨ (∃ ch, e = .panicked ch) := by
  unfold PartsP at h
  split at h
  · obtain ⟨v, rfl, _, hv, _⟩ := h
    obtain ⟨a, cap, rfl, _⟩ := RowIs.cell hv
    exact .inl ⟨_, _, _, rfl⟩
  · exact .inr ⟨_, h.1⟩
set_option maxRecDepth 100000 in
set_option maxHeartbeats 1000000 in
theorem indexIn_fn {w : World} {rb p tb : Nat} {s l : Str} {i d : Nat} {g : Told} {x : Str} (ih : PartsC .paren g d l) (hp : Box w p 52 (.pointer (some ⟨rb, 0, none⟩)))
    (ht : w.heap[tb]? = some (.cells #[.int .i64 2, .string ⟨x.toArray⟩, .bool false, .slice none 0 0] 33 (0, 0))) (h : RdAt w rb s i d g) (hat : At s l i) (hs : s.length ≤ 1000000) (hd : d ≤ 100) :
    Calls Tryz.prog 71 #[.pointer (some ⟨p, 0, none⟩), .pointer (some ⟨tb, 0, none⟩)] w fun e w' => (∃ v w1, PartsP rb s d g w (parts .paren g d l) (.returned v) w1 ∧ w' = w1.setCell ⟨tb, 3, none⟩ v ∧ e = .returned (.tuple #[])) ∨ (∃ ch, PartsP rb s d g w (parts .paren g d l) (.panicked ch) w' ∧ e = .panicked ch) := by
  have c1 := hp.cell
  have hpr := hp.ne h
  have htl : tb < w.heap.size := (Array.getElem?_eq_some_iff.1 ht).1
  have htr : tb ≠ rb := by
    rintro rfl
    unfold RdAt at h
    rw [ht] at h
    simp at h
  have hmf : ∀ (fn : Fn) (first cap : Array Value) (w : World), (Instr.makeFunc fn first cap).run Tryz.prog w = .ok (.func fn first cap) w := fun _ _ _ _ => rfl
  have he : EndsBy .paren rb w 72 #[] #[.pointer (some ⟨p, 0, none⟩)] :=
    ⟨enters_of Tryz.func72 (by kernel_rfl) rfl, fun w' s' l' i' d' g' hb hr ha hs' => indexEnd_fn (hp.but hb hpr) hr ha hs'⟩
  have hc := hid (ih w rb s i 72 #[] #[.pointer (some ⟨p, 0, none⟩)] hs hd h hat he)
  have HT := hid ht
  clear ih he ht
  obtain ⟨R, hR⟩ : ∃ R, R = parts .paren g d l := ⟨_, rfl⟩
  rw [← hR] at hc ⊢
  have hB : ∀ e w1, PartsP rb s d g w R e w1 → But rb w.heap.size w w1 := by
    intro e w1 h1
    unfold PartsP at h1
    split at h1
    · obtain ⟨_, _, _, _, h2⟩ := h1; exact h2
    · exact h1.2
  have HB := hid hB
  clear hB hR
  go_enter Tryz.func71, Tryz.ntmps71
  go_wp2_with fail
  (with_reducible refine hc.out.mono ?_); intro e w1 h1
  have hb := HB.out e w1 h1
  have ht1 := hb.heap htl htr HT.out
  have y3 : w1.cell? ⟨tb, 3, none⟩ = some (.slice none 0 0) := by rw [Lib.cell_of_heap ht1]; rfl
  have f3 : w1.frozen? ⟨tb, 3, none⟩ = false := Lib.frozen_of_heap ht1 3
  rcases parts_shape h1 with ⟨a, n, c, rfl⟩ | ⟨ch, rfl⟩
  · have H1 := hid h1
    clear h1 hb ht1
    go_wp2
    go_end0
    exact .inl ⟨_, w1, H1.out, rfl, rfl⟩
  · exact ⟨rfl, .inr ⟨ch, h1, rfl⟩⟩
end Go.Proofs.YtkgpmkkodpjdfaaGreatDoor.Pz
/-
  A variable.
-/
namespace Go.Proofs.YtkgpmkkodpjdfaaGreatDoor.Pz
open Go.RowKit
theorem name_ne (l : Str) : (name false l).1 = [] ↔ (name false l).2.length = l.length := by
  have h := name_text l false
  constructor
  · intro e
    rw [e] at h
    have := congrArg List.length h
    simp at this
    omega
  · intro e
    have := congrArg List.length h
    simp at this
    exact List.eq_nil_of_length_eq_zero (by omega)
theorem varOf_none {g : Told} {d : Nat} {l r : Str} (h0 : ¬ (l.head? == some 123) = true) (hn : name false l = ([], r)) : varOf g d l = .ok none l := by
  rw [varOf, if_neg h0, hn]
  rfl
theorem varOf_plain {g : Told} {d : Nat} {l x r : Str} (h0 : ¬ (l.head? == some 123) = true) (hn : name false l = (x, r)) (hx : x ≠ []) (hr : ∀ t, r ≠ 40 :: t) : varOf g d l = .ok (some (.mk 2 x false [])) r := by
  rw [varOf, if_neg h0, hn]
  dsimp only
  rw [if_neg (by simpa using hx)]
  cases r with
  | nil => rfl
  | cons c t =>
    dsimp only
    rw [if_neg (by simpa using fun e => hr t (by rw [e]))]
/-- a struct of four cells is stored -/
theorem put4 {X w : World} {rb b N : Nat} {s : Str} {i d : Nat} {g : Told} (hrd : RdAt X rb s i d g) (hb : But rb N w X) (h1 : N ≤ b) (h2 : b ≠ rb) (x0 x1 x2 x3 : Value) :
    RdAt ((((X.setCell ⟨b, 0, none⟩ x0).setCell ⟨b, 1, none⟩ x1).setCell ⟨b, 2, none⟩ x2).setCell ⟨b, 3, none⟩ x3) rb s i d g ∧ But rb N w ((((X.setCell ⟨b, 0, none⟩ x0).setCell ⟨b, 1, none⟩ x1).setCell ⟨b, 2, none⟩ x2).setCell ⟨b, 3, none⟩ x3) ∧
      ∀ k, k ≠ b → ((((X.setCell ⟨b, 0, none⟩ x0).setCell ⟨b, 1, none⟩ x1).setCell ⟨b, 2, none⟩ x2).setCell ⟨b, 3, none⟩ x3).heap[k]? = X.heap[k]? := by
  have h3 : ∀ k, k ≠ b → ((((X.setCell ⟨b, 0, none⟩ x0).setCell ⟨b, 1, none⟩ x1).setCell ⟨b, 2, none⟩ x2).setCell ⟨b, 3, none⟩ x3).heap[k]? = X.heap[k]? := by
    intro k hk
    rw [Below.heap_setCell _ _ _ _ (fun e => hk e), Below.heap_setCell _ _ _ _ (fun e => hk e), Below.heap_setCell _ _ _ _ (fun e => hk e), Below.heap_setCell _ _ _ _ (fun e => hk e)]
  refine ⟨(h3 rb (Ne.symm h2)).trans hrd, ?_, h3⟩
  exact (((hb.setCell (.inr h1) _).setCell (.inr h1) _).setCell (.inr h1) _).setCell (.inr h1) _
set_option maxRecDepth 100000 in
set_option maxHeartbeats 4000000 in
theorem var_walk {g : Told} {d : Nat} {l : Str} (ih : ∀ l', l'.length < l.length → PartsC .paren g (d + 1) l') : VarC g d l := by
  intro w rb s i hs hd h hat
  have hlt := h.lt
  have hlt1 : rb < w.heap.size + 1 := by omega
  obtain ⟨c0, c1, _⟩ := h.cells
  have hi := hat.lt
  have hmf : ∀ (fn : Fn) (first cap : Array Value) (w : World), (Instr.makeFunc fn first cap).run Tryz.prog w = .ok (.func fn first cap) w := fun _ _ _ _ => rfl
  have eg : ∀ args w, (callFunc 71 args).run Tryz.prog w = .ok (.enter 71 args) w := enters_of Tryz.func71 (by kernel_rfl) rfl
  obtain ⟨N, hN⟩ : ∃ N, N = w.heap.size := ⟨_, rfl⟩
  have HN := hid hN
  clear hN
  have HAT := hid hat
  have HRD := hid h
  have hall := hat.all
  have hlen := hat.len
  simp only [List.length_cons] at hlen
  have hsz' : (⟨s.toArray⟩ : ByteArray).size = s.length := Lib.size_mk _
  obtain ⟨R, hR⟩ : ∃ R, R = varOf g d l := ⟨_, rfl⟩
  rw [← hR]
  have HR := hid hR
  have hpre : ∀ W, Calls Tryz.prog 66 #[.string ⟨(36 :: l).toArray⟩, .string ⟨#[36, 123]⟩] W fun e w' => e = .returned (.bool (l.head? == some 123)) ∧ w' = W := by
    intro W
    rw [← hasPrefix_dollar]
    exact Tryz.strings_HasPrefix ⟨(36 :: l).toArray⟩ ⟨#[36, 123]⟩ W
  have HP := hid hpre
  clear hR hat h hpre
  go_enter Tryz.func36, Tryz.ntmps36
  go_wp2_with fail
  (with_reducible refine (HP.out _).mono ?_); rintro e W ⟨rfl, hW⟩
  have hsz : W.heap.size = N + 2 := by rw [hW, HN.out]; simp
  have hrd : RdAt W rb s i d g := by rw [hW]; exact (HRD.out.alloc _).alloc _
  obtain ⟨hbx, hres⟩ : Box W N 52 (.pointer (some ⟨rb, 0, none⟩)) ∧ W.heap[N + 1]? = some (.cells #[.int .i64 0, .string ⟨#[]⟩, .bool false, .slice none 0 0] 33 (0, 0)) := by
    rw [hW, HN.out]
    exact new2 _ _ _
  have hbut : But rb N w W := by
    rw [hW]
    exact (((But.refl rb N w).alloc (by rw [HN.out]; omega) _).alloc (by simp; rw [HN.out]; omega) _)
  rw [← HN.out] at hlt hlt1 ⊢
  clear hW c0 c1
  have hrN : rb ≠ N := by omega
  have hrN1 : rb ≠ N + 1 := by omega
  by_cases hbr : (l.head? == some 123) = true
  · -- a brace
    obtain ⟨t, rfl⟩ : ∃ t, l = 123 :: t := by
      cases l with
      | nil => cases hbr
      | cons c t =>
        have : c = 123 := by simpa using hbr
        exact ⟨t, by rw [this]⟩
    have hRR : R = match upTo t with | none => .halt (.lacks (t.length + 1 + 1)) | some (x, r) => .ok (some (.mk 2 x false [])) r := by
      rw [HR.out, varOf, if_pos hbr]
      rfl
    have HRR := hid hRR
    have hix : ∀ W, Calls Tryz.prog 67 #[.string ⟨(36 :: 123 :: t).toArray⟩, .int .u8 125] W fun e w' => e = .returned (.int .i64 (dolIx (upTo t))) ∧ w' = W := by
      intro W
      have h2 : Calls Tryz.prog 67 #[.string ⟨(36 :: 123 :: t).toArray⟩, .int .u8 125] W fun e w' => e = .returned (.int .i64 (Lib.indexByte (36 :: 123 :: t) 125)) ∧ w' = W := Tryz.strings_IndexByte ⟨(36 :: 123 :: t).toArray⟩ 125 W
      rw [indexByte_dollar] at h2
      exact h2
    rw [hbr]
    clear hRR HR hbr
    have c0' := hrd.cells
    have b0 := hbx.cell
    obtain ⟨c0, c1, _⟩ := hrd.cells
    have z1 := hrd.free 1
    have y0 : W.cell? ⟨N + 1, 0, none⟩ = some (.int .i64 0) := by rw [Lib.cell_of_heap hres]; rfl
    have y1 : W.cell? ⟨N + 1, 1, none⟩ = some (.string ⟨#[]⟩) := by rw [Lib.cell_of_heap hres]; rfl
    have y2 : W.cell? ⟨N + 1, 2, none⟩ = some (.bool false) := by rw [Lib.cell_of_heap hres]; rfl
    have y3 : W.cell? ⟨N + 1, 3, none⟩ = some (.slice none 0 0) := by rw [Lib.cell_of_heap hres]; rfl
    have f0 : W.frozen? ⟨N + 1, 0, none⟩ = false := Lib.frozen_of_heap hres 0
    have f1 : W.frozen? ⟨N + 1, 1, none⟩ = false := Lib.frozen_of_heap hres 1
    have f2 : W.frozen? ⟨N + 1, 2, none⟩ = false := Lib.frozen_of_heap hres 2
    have f3 : W.frozen? ⟨N + 1, 3, none⟩ = false := Lib.frozen_of_heap hres 3
    clear c0'
    cases hu : upTo t with
    | none =>
      rw [hu] at hix HRR
      have HIX := hid hix
      have ho := hid (open_fn (i : Nat) W)
      clear hix
      go_wp2_with fail
      (with_reducible refine (HIX.out _).mono ?_); rintro e w1 ⟨rfl, rfl⟩
      go_wp2_with fail
      (with_reducible refine ho.out.mono ?_); rintro e w1 ⟨rfl, rfl⟩
      refine ⟨rfl, ?_⟩
      rw [HRR.out]
      refine ⟨?_, by rw [← HN.out]; exact hbut⟩
      simp only [List.length_cons] at hlen
      rw [stopOf, show s.length - (t.length + 1 + 1) = i by omega]
    | some y =>
      obtain ⟨x, r⟩ := y
      rw [hu] at hix HRR
      have ht := upTo_text t x r hu
      have hix' : ∀ W, Calls Tryz.prog 67 #[.string ⟨(36 :: 123 :: t).toArray⟩, .int .u8 125] W fun e w' => e = .returned (.int .i64 (((x.length : Nat) : Int) + 2)) ∧ w' = W := hix
      have HIX := hid hix'
      have hxl : i + x.length + 3 + r.length = s.length := by
        have := congrArg List.length ht
        simp at this hlen
        omega
      have hex : (⟨s.toArray⟩ : ByteArray).extract (i + 2) (i + (x.length + 2)) = ⟨x.toArray⟩ := by
        have h1 := HAT.out.tail.tail
        rw [ht] at h1
        have h2 := h1.text
        rw [show i + 1 + 1 + x.length = i + (x.length + 2) by omega] at h2
        exact h2
      clear hix hix' hu ht
      go_wp2_with fail
      (with_reducible refine (HIX.out _).mono ?_); rintro e w1 ⟨rfl, rfl⟩
      have hj : ((i : Int) + (((x.length : Nat) : Int) + 2) + 1) = ((i + (x.length + 2) + 1 : Nat) : Int) := by omega
      have HJ := hid hj
      clear hj
      go_wp2
      refine bodyPost_ret (v := .tuple #[.agg #[.int .i64 2, .string ⟨x.toArray⟩, .bool false, .slice none 0 0], .bool true]) (by simp [results, Tryz.results36, go_sem, y0, y1, y2, y3]) rfl ?_
      obtain ⟨q1, q2, _⟩ := put4 (hrd.go (v := .int .i64 ((i : Int) + (((x.length : Nat) : Int) + 2) + 1)) (by rw [HJ.out])) (hbut.set 1 (.int .i64 ((i : Int) + (((x.length : Nat) : Int) + 2) + 1))) (Nat.le_succ N) (Ne.symm hrN1) (.int .i64 2) (.string ⟨x.toArray⟩) (.bool false) (.slice none 0 0)
      rw [HRR.out]
      refine ⟨.slice none 0 0, rfl, ?_, RowIs.nil, by rw [← HN.out]; exact q2⟩
      rw [show s.length - r.length = i + (x.length + 2) + 1 by omega]
      exact q1
  · have hbr2 : (l.head? == some 123) = false := by simpa using hbr
    obtain ⟨x, hx⟩ : ∃ x, x = (name false l).1 := ⟨_, rfl⟩
    obtain ⟨r, hr⟩ : ∃ r, r = (name false l).2 := ⟨_, rfl⟩
    have hn : name false l = (x, r) := by rw [hx, hr]
    have hnt := name_text l false
    rw [hn] at hnt
    dsimp only at hnt
    have hxl : x.length + r.length = l.length := by rw [hnt]; simp
    have hc := name_fn hrd HAT.out.tail hs
    rw [← hr] at hc
    have hHN := hid hn
    have hHT := hid hnt
    rw [hbr2]
    clear hx hr hn hnt
    have b0 := hbx.cell
    obtain ⟨c0, c1, _⟩ := hrd.cells
    obtain ⟨E, hE⟩ : ∃ E, E = s.length - r.length := ⟨_, rfl⟩
    rw [← hE, show ((i + 1 : Nat) : Int) = (i : Int) + 1 from rfl] at hc
    have hE1 : E = i + 1 + x.length := by omega
    have HE := hid hE1
    have hEs : E ≤ s.length := by omega
    have HC := hid hc
    clear hc hE hE1
    go_wp2_with fail
    (with_reducible refine HC.out.mono ?_); rintro e W1 ⟨rfl, hdw⟩
    have hh1 := hdw.heap
    have hrd1 : RdAt W1 rb s i d g := hrd.of (by rw [hh1])
    have hbx1 : Box W1 N 52 (.pointer (some ⟨rb, 0, none⟩)) := by unfold Box; rw [hh1]; exact hbx
    have hres1 : W1.heap[N + 1]? = some (.cells #[.int .i64 0, .string ⟨#[]⟩, .bool false, .slice none 0 0] 33 (0, 0)) := by rw [hh1]; exact hres
    have hbut1 : But rb N w W1 := by obtain ⟨m, rfl⟩ := hdw; exact hbut.drewN m
    have hsz1 : W1.heap.size = N + 2 := by rw [hh1]; exact hsz
    clear hh1 hdw hrd hbx hres hbut hsz b0 c0 c1
    have b0 := hbx1.cell
    obtain ⟨c0, c1, _⟩ := hrd1.cells
    have z1 := hrd1.free 1
    have y0 : W1.cell? ⟨N + 1, 0, none⟩ = some (.int .i64 0) := by rw [Lib.cell_of_heap hres1]; rfl
    have y1 : W1.cell? ⟨N + 1, 1, none⟩ = some (.string ⟨#[]⟩) := by rw [Lib.cell_of_heap hres1]; rfl
    have y2 : W1.cell? ⟨N + 1, 2, none⟩ = some (.bool false) := by rw [Lib.cell_of_heap hres1]; rfl
    have y3 : W1.cell? ⟨N + 1, 3, none⟩ = some (.slice none 0 0) := by rw [Lib.cell_of_heap hres1]; rfl
    have f0 : W1.frozen? ⟨N + 1, 0, none⟩ = false := Lib.frozen_of_heap hres1 0
    have f1 : W1.frozen? ⟨N + 1, 1, none⟩ = false := Lib.frozen_of_heap hres1 1
    have f2 : W1.frozen? ⟨N + 1, 2, none⟩ = false := Lib.frozen_of_heap hres1 2
    have f3 : W1.frozen? ⟨N + 1, 3, none⟩ = false := Lib.frozen_of_heap hres1 3
    by_cases hx0 : x = []
    · -- no name
      subst hx0
      have hRR := hid (HR.out.trans (varOf_none hbr hHN.out))
      have hEE : ((E : Int) == (i : Int) + 1) = true := by
        have := HE.out
        simp at this
        rw [beq_iff_eq]; omega
      clear HE
      go_wp2
      refine bodyPost_ret (v := .tuple #[.agg #[.int .i64 0, .string ⟨#[]⟩, .bool false, .slice none 0 0], .bool false]) (by simp [results, Tryz.results36, go_sem, y0, y1, y2, y3]) rfl ?_
      obtain ⟨q1, q2, _⟩ := put4 hrd1 hbut1 (Nat.le_succ N) (Ne.symm hrN1) (.int .i64 0) (.string ⟨#[]⟩) (.bool false) (.slice none 0 0)
      rw [hRR.out]
      exact ⟨rfl, q1, by rw [← HN.out]; exact q2⟩
    · have hx1 : 0 < x.length := by cases x with | nil => exact absurd rfl hx0 | cons c t => simp
      have hEE : ((E : Int) == (i : Int) + 1) = false := by
        have := HE.out
        rw [beq_eq_false_iff_ne]; omega
      have hie : i + 1 ≤ E := by have := HE.out; omega
      have hex : (⟨s.toArray⟩ : ByteArray).extract (i + 1) E = ⟨x.toArray⟩ := by
        have h1 := HAT.out.tail
        rw [hHT.out] at h1
        rw [HE.out]
        exact h1.text
      have haE : At s r E := by
        have h1 := HAT.out.tail
        rw [hHT.out] at h1
        rw [HE.out]
        exact h1.app
      have HAE := hid haE
      clear haE
      have hlt3 : rb < W1.heap.size := by omega
      go_wp2
      refine at_world fun W2 hW2 => ?_
      have hX : N + 2 = (W1.setCell ⟨rb, 1, none⟩ (.int .i64 (E : Nat))).heap.size := by simp [hsz1]
      have hrd2 : RdAt W2 rb s E d g := by rw [hW2]; exact (hrd1.go rfl).alloc _
      have htb2 : W2.heap[N + 2]? = some (.cells #[.int .i64 2, .string ⟨x.toArray⟩, .bool false, .slice none 0 0] 33 (0, 0)) := by rw [hW2, hX]; exact new1 _ _
      have hot2 : ∀ k, k < N + 2 → k ≠ rb → W2.heap[k]? = W1.heap[k]? := by
        intro k hk hkr
        rw [hW2, Below.heap_alloc _ _ _ (by rw [← hX]; exact hk), Below.heap_setCell _ _ _ _ (fun e => hkr e)]
      have hbx2 : Box W2 N 52 (.pointer (some ⟨rb, 0, none⟩)) := (hot2 N (by omega) (by omega)).trans hbx1
      have hres2 := (hot2 (N + 1) (by omega) (by omega)).trans hres1
      have hbut2 : But rb N w W2 := by rw [hW2]; exact (hbut1.set 1 _).alloc (by rw [← hX]; omega) _
      have hsz2 : W2.heap.size = N + 3 := by rw [hW2]; simp [hsz1]
      clear hW2 hX hot2 hrd1 hbx1 hres1 hbut1 hsz1 b0 c0 c1 z1 y0 y1 y2 y3 f0 f1 f2 f3 hlt3
      have he := end_fn hrd2
      have heN : ∀ n, Calls Tryz.prog 32 #[.pointer (some ⟨rb, 0, none⟩)] (W2.drewN n) fun e w' => e = .returned (.bool (decide (s.length ≤ E))) ∧ ∃ m, w' = (W2.drewN n).drewN m := fun n => end_fn (hrd2.drewN n)
      have b0 := hbx2.cell
      obtain ⟨c0, c1, _⟩ := hrd2.cells
      have t0 : W2.cell? ⟨N + 2, 0, none⟩ = some (.int .i64 2) := by rw [Lib.cell_of_heap htb2]; rfl
      have t1 : W2.cell? ⟨N + 2, 1, none⟩ = some (.string ⟨x.toArray⟩) := by rw [Lib.cell_of_heap htb2]; rfl
      have t2 : W2.cell? ⟨N + 2, 2, none⟩ = some (.bool false) := by rw [Lib.cell_of_heap htb2]; rfl
      have t3 : W2.cell? ⟨N + 2, 3, none⟩ = some (.slice none 0 0) := by rw [Lib.cell_of_heap htb2]; rfl
      have y0 : W2.cell? ⟨N + 1, 0, none⟩ = some (.int .i64 0) := by rw [Lib.cell_of_heap hres2]; rfl
      have y1 : W2.cell? ⟨N + 1, 1, none⟩ = some (.string ⟨#[]⟩) := by rw [Lib.cell_of_heap hres2]; rfl
      have y2 : W2.cell? ⟨N + 1, 2, none⟩ = some (.bool false) := by rw [Lib.cell_of_heap hres2]; rfl
      have y3 : W2.cell? ⟨N + 1, 3, none⟩ = some (.slice none 0 0) := by rw [Lib.cell_of_heap hres2]; rfl
      have f0 : W2.frozen? ⟨N + 1, 0, none⟩ = false := Lib.frozen_of_heap hres2 0
      have f1 : W2.frozen? ⟨N + 1, 1, none⟩ = false := Lib.frozen_of_heap hres2 1
      have f2 : W2.frozen? ⟨N + 1, 2, none⟩ = false := Lib.frozen_of_heap hres2 2
      have f3 : W2.frozen? ⟨N + 1, 3, none⟩ = false := Lib.frozen_of_heap hres2 3
      by_cases h40 : ∃ t, r = 40 :: t
      · obtain ⟨t, rfl⟩ := h40
        have hx := HAE.out.byte
        have hElt := HAE.out.lt
        rw [decide_eq_false (by omega)] at heN
        have HE2 := hid heN
        clear heN he
        go_quiet ((go_at_call 32; exact Calls.quiet_of (HE2.out _)))
        have hrd3 := hrd2.drewN nq
        have hbut3 := hbut2.drewN nq
        have htb3 : (W2.drewN nq).heap[N + 2]? = _ := htb2
        have hres3 : (W2.drewN nq).heap[N + 1]? = _ := hres2
        have hbx3 : Box (W2.drewN nq) N 52 (.pointer (some ⟨rb, 0, none⟩)) := hbx2
        have hsz3 : (W2.drewN nq).heap.size = N + 3 := hsz2
        generalize W2.drewN nq = W3 at *
        clear hrd2 hbut2 htb2 hres2 hbx2 hsz2 b0 c0 c1 t0 t1 t2 t3 y0 y1 y2 y3 f0 f1 f2 f3 HE2 hx
        have hrtb : rb ≠ N + 2 := by omega
        have b0 := hbx3.cell
        obtain ⟨c0, c1, _⟩ := hrd3.cells
        have z1 := hrd3.free 1
        have hrd4 : RdAt (W3.setCell ⟨rb, 1, none⟩ (.int .i64 ((E : Int) + 1))) rb s (E + 1) d g := hrd3.go (by go_num)
        have hbut4 := hbut3.set 1 (.int .i64 ((E : Int) + 1))
        have hbx4 : Box (W3.setCell ⟨rb, 1, none⟩ (.int .i64 ((E : Int) + 1))) N 52 (.pointer (some ⟨rb, 0, none⟩)) := (Below.heap_setCell _ _ _ _ (fun e => by dsimp only at e; omega)).trans hbx3
        have htb4 := (Below.heap_setCell W3 ⟨rb, 1, none⟩ (.int .i64 ((E : Int) + 1)) (N + 2) (fun e => by dsimp only at e; omega)).trans htb3
        have hres4 := (Below.heap_setCell W3 ⟨rb, 1, none⟩ (.int .i64 ((E : Int) + 1)) (N + 1) (fun e => by dsimp only at e; omega)).trans hres3
        have hsz4 : (W3.setCell ⟨rb, 1, none⟩ (.int .i64 ((E : Int) + 1))).heap.size = N + 3 := by simp [hsz3]
        have hvi := varOf_index (g := g) (d := d) (by simpa using hbr) hHN.out hx0
        by_cases hd100 : d = 100
        · subst hd100
          rw [if_pos (by decide)] at hvi
          have HVI := hid hvi
          clear hvi
          have hc := hid (deeper_stop (k := 71) (cap := #[.pointer (some ⟨N, 0, none⟩), .pointer (some ⟨N + 2, 0, none⟩)]) hrd4)
          go_wp2_with fail
          (with_reducible refine hc.out.mono ?_); rintro e w5 ⟨rfl, rfl⟩
          refine ⟨rfl, ?_⟩
          rw [HR.out, HVI.out]
          exact ⟨rfl, by rw [← HN.out]; exact hbut4⟩
        have hd1 : d < 100 := by omega
        rw [if_neg (by simpa [maxDeep] using hd100)] at hvi
        have HRV := hid (HR.out.trans hvi)
        clear hvi
        have hrd5 := hrd4.deep (v := .int .i64 ((d : Nat) + 1)) (j := d + 1) (by go_num)
        have hbx5 := (Below.heap_setCell (W3.setCell ⟨rb, 1, none⟩ (.int .i64 ((E : Int) + 1))) ⟨rb, 2, none⟩ (.int .i64 ((d : Nat) + 1)) N (fun e => by dsimp only at e; omega)).trans hbx4
        have htb5 := (Below.heap_setCell (W3.setCell ⟨rb, 1, none⟩ (.int .i64 ((E : Int) + 1))) ⟨rb, 2, none⟩ (.int .i64 ((d : Nat) + 1)) (N + 2) (fun e => by dsimp only at e; omega)).trans htb4
        have htl : t.length < l.length := by simp at hxl; omega
        have hin := indexIn_fn (ih t htl) hbx5 htb5 hrd5 HAE.out.tail hs (by omega)
        have hc := hid (deeper_go hrd4 hd1 eg _ hin (by
          rintro e w' (⟨v, w1, h1, rfl, rfl⟩ | ⟨ch, h1, rfl⟩)
          · refine .inl ?_
            unfold PartsP at h1
            split at h1
            · obtain ⟨v', h2, h3, _⟩ := h1
              exact ⟨_, _, _, rfl, h3.of (Below.heap_setCell _ _ _ _ (fun e => by dsimp only at e; omega))⟩
            · cases h1.1
          · exact .inr ⟨ch, rfl⟩))
        go_wp2_with fail
        (with_reducible refine hc.out.mono ?_)
        clear hc hin
        intro e w6 h6
        have hRR := HRV.out
        clear HRV
        cases hcm : parts .paren g (d + 1) t with
        | halt hh =>
          rw [hcm] at h6 hRR
          rcases h6 with ⟨v, w1, ⟨v', w1', h1, _⟩ | ⟨ch, _, h1⟩, _, _⟩ | ⟨ch, rfl, ⟨v', _, _, _, h1⟩ | ⟨ch', h1, h2⟩⟩
          · cases h1.1
          · cases h1
          · cases h1
          · cases h2
            obtain ⟨h1, h3⟩ := h1
            simp only [Ending.panicked.injEq] at h1
            subst h1
            refine ⟨rfl, ?_⟩
            rw [hRR]
            refine ⟨rfl, ?_⟩
            rw [← HN.out]
            exact (hbut4.set 2 _).trans (h3.mono (by simp [hsz3]))
        | ok ts r' =>
          rw [hcm] at h6 hRR
          have hpok := (parts_ok .paren g (d + 1) t ts r' hcm).1
          rcases h6 with ⟨v, w1, ⟨v', w1', h1, hw1, h2⟩ | ⟨ch, _, h1⟩, hw6, rfl⟩ | ⟨ch, rfl, ⟨v', _, _, _, h1⟩ | ⟨ch', h1, h2⟩⟩
          · obtain ⟨a, n, c, hv'⟩ : ∃ a n c, v' = .slice a n c := by
              rcases parts_shape h1 with ⟨a, n, c, h⟩ | ⟨ch, h⟩
              · simp only [Ending.returned.injEq] at h
                exact ⟨a, n, c, h⟩
              · cases h
            subst hv'
            obtain ⟨v'', h3, h4, h5, h6⟩ := h1
            simp only [Ending.returned.injEq] at h3
            subst h3
            have hszX : ((W3.setCell ⟨rb, 1, none⟩ (.int .i64 ((E : Int) + 1))).setCell ⟨rb, 2, none⟩ (.int .i64 ((d : Nat) + 1))).heap.size = N + 3 := by simp [hsz3]
            rw [hszX] at h5 h6
            have htb6 : w1'.heap[N + 2]? = some (.cells #[.int .i64 2, .string ⟨x.toArray⟩, .bool false, .slice none 0 0] 33 (0, 0)) := h6.heap (by omega) (by omega) htb5
            have hrd6 : RdAt w6 rb s (s.length - r'.length) d g := by
              rw [hw6, hw1]
              exact (h4.of (Below.heap_setCell _ _ _ _ (fun e => by dsimp only at e; omega))).shut
            have hot6 : ∀ k, k ≠ rb → k ≠ N + 2 → w6.heap[k]? = w1'.heap[k]? := by
              intro k h1 h2
              rw [hw6, hw1, Below.heap_setCell _ _ _ _ (fun e => h1 e), Below.heap_setCell _ _ _ _ (fun e => h2 e)]
            have htb7 : w6.heap[N + 2]? = some (.cells #[.int .i64 2, .string ⟨x.toArray⟩, .bool false, .slice a n c] 33 (0, 0)) := by
              rw [hw6, Below.heap_setCell _ _ _ _ (fun e => by dsimp only at e; omega), hw1]
              simp [World.setCell, Array.getElem?_modify, htb6]
            have hbut6 : But rb N w w6 := by
              rw [hw6, hw1]
              exact ((((hbut4.set 2 _).trans (h6.mono (by omega))).setCell (.inr (by dsimp only; omega)) _).set 2 _)
            have hbx6 : Box w6 N 52 (.pointer (some ⟨rb, 0, none⟩)) := (hot6 N (by omega) (by omega)).trans (h6.heap (by omega) (by omega) hbx5)
            have hres6 : w6.heap[N + 1]? = some (.cells #[.int .i64 0, .string ⟨#[]⟩, .bool false, .slice none 0 0] 33 (0, 0)) :=
              (hot6 (N + 1) (by omega) (by omega)).trans (h6.heap (by omega) (by omega) ((Below.heap_setCell (W3.setCell ⟨rb, 1, none⟩ (.int .i64 ((E : Int) + 1))) ⟨rb, 2, none⟩ (.int .i64 ((d : Nat) + 1)) (N + 1) (fun e => by dsimp only at e; omega)).trans hres4))
            have hrb3 : rb < N + 3 := by omega
            have htk6 : ToksIs 33 w6 (New (N + 3)) (.slice a n c) (filled ts) := h5.keep2 (fun _ h _ => h) (fun k cur hk hc => by
              have hk' : N + 3 ≤ k := hk
              rw [hot6 k (by omega) (by omega)]
              exact hc)
            have hsz6 : N + 3 ≤ w6.heap.size := by
              have := h6.size
              rw [hszX] at this
              rw [hw6, hw1]; simp; omega
            have HRR := hid hRR
            have HPO := hid hpok
            clear hRR hpok hcm h4 h5 h6 hszX htb6 hot6 hw6 hw1 h2 hrd3 hbut3 htb3 hres3 hbx3 hsz3 hrd4 hbut4 hbx4 htb4 hres4 hsz4 hrd5 hbx5 htb5 b0 c0 c1 z1
            have he := end_fn hrd6
            have b0 := hbx6.cell
            have hrl := HPO.out.length_le
            have hHl := HAE.out.len
            simp only [List.length_cons] at hHl
            cases r' with
            | nil =>
              rw [decide_eq_true (by simp)] at he
              have he := hid he
              go_wp2_with fail
              (with_reducible refine he.out.mono ?_); rintro e w8 ⟨rfl, m, rfl⟩
              have ho := hid (open_fn (E : Nat) (w6.drewN m))
              go_wp2_with fail
              (with_reducible refine ho.out.mono ?_); rintro e w9 ⟨rfl, rfl⟩
              refine ⟨rfl, ?_⟩
              rw [HRR.out]
              refine ⟨?_, by rw [← HN.out]; exact hbut6.drewN m⟩
              rw [stopOf, show s.length - (t.length + 1) = E by omega]
            | cons e r'' =>
              simp only [List.length_cons] at hrl hrd6
              rw [decide_eq_false (by simp; omega)] at he
              have he := hid he
              obtain ⟨j, hj⟩ : ∃ j, j = s.length - (r''.length + 1) := ⟨_, rfl⟩
              rw [← hj] at hrd6
              have hj2 : j < s.length := by rw [hj]; omega
              have HJ := hid hj
              have hrs : r''.length + 1 ≤ s.length := by omega
              clear hj hrl
              go_wp2_with fail
              (with_reducible refine he.out.mono ?_); rintro e' w8 ⟨rfl, m, rfl⟩
              have hrd8 := hrd6.drewN m
              have hb8 := hbut6.drewN m
              have hbx8 : Box (w6.drewN m) N 52 (.pointer (some ⟨rb, 0, none⟩)) := hbx6
              have hres8 : (w6.drewN m).heap[N + 1]? = _ := hres6
              have htb8 : (w6.drewN m).heap[N + 2]? = _ := htb7
              have hsz8 : N + 3 ≤ (w6.drewN m).heap.size := hsz6
              have htk8 : ToksIs 33 (w6.drewN m) (New (N + 3)) (.slice a n c) (filled ts) := htk6.keep2 (fun _ h _ => h) (fun _ _ _ h => h)
              generalize w6.drewN m = W8 at *
              clear hrd6 hbut6 hbx6 hres6 htb7 hsz6 htk6 he b0
              have b0 := hbx8.cell
              obtain ⟨c0, c1, _⟩ := hrd8.cells
              have z1 := hrd8.free 1
              have y0 : W8.cell? ⟨N + 1, 0, none⟩ = some (.int .i64 0) := by rw [Lib.cell_of_heap hres8]; rfl
              have y1 : W8.cell? ⟨N + 1, 1, none⟩ = some (.string ⟨#[]⟩) := by rw [Lib.cell_of_heap hres8]; rfl
              have y2 : W8.cell? ⟨N + 1, 2, none⟩ = some (.bool false) := by rw [Lib.cell_of_heap hres8]; rfl
              have y3 : W8.cell? ⟨N + 1, 3, none⟩ = some (.slice none 0 0) := by rw [Lib.cell_of_heap hres8]; rfl
              have f0 : W8.frozen? ⟨N + 1, 0, none⟩ = false := Lib.frozen_of_heap hres8 0
              have f1 : W8.frozen? ⟨N + 1, 1, none⟩ = false := Lib.frozen_of_heap hres8 1
              have f2 : W8.frozen? ⟨N + 1, 2, none⟩ = false := Lib.frozen_of_heap hres8 2
              have f3 : W8.frozen? ⟨N + 1, 3, none⟩ = false := Lib.frozen_of_heap hres8 3
              have t0 : W8.cell? ⟨N + 2, 0, none⟩ = some (.int .i64 2) := by rw [Lib.cell_of_heap htb8]; rfl
              have t1 : W8.cell? ⟨N + 2, 1, none⟩ = some (.string ⟨x.toArray⟩) := by rw [Lib.cell_of_heap htb8]; rfl
              have t2 : W8.cell? ⟨N + 2, 2, none⟩ = some (.bool false) := by rw [Lib.cell_of_heap htb8]; rfl
              have t3 : W8.cell? ⟨N + 2, 3, none⟩ = some (.slice a n c) := by rw [Lib.cell_of_heap htb8]; rfl
              have g2 : W8.frozen? ⟨N + 2, 2, none⟩ = false := Lib.frozen_of_heap htb8 2
              have hn12 : N + 1 ≠ N + 2 := by omega
              have hjj : ((j : Int) + 1) = ((j + 1 : Nat) : Int) := by omega
              have HJJ := hid hjj
              clear hjj
              go_wp2
              refine bodyPost_ret (v := .tuple #[.agg #[.int .i64 2, .string ⟨x.toArray⟩, .bool true, .slice a n c], .bool true]) (by simp [results, Tryz.results36, go_sem, y0, y1, y2, y3]) rfl ?_
              have hq := hrd8.go (v := .int .i64 ((j : Int) + 1)) (j := j + 1) (by rw [HJJ.out])
              have hq1 : RdAt ((W8.setCell ⟨rb, 1, none⟩ (.int .i64 ((j : Int) + 1))).setCell ⟨N + 2, 2, none⟩ (.bool true)) rb s (j + 1) d g := hq.of (Below.heap_setCell _ _ _ _ (fun e => by dsimp only at e; omega))
              have hq2 : But rb N w ((W8.setCell ⟨rb, 1, none⟩ (.int .i64 ((j : Int) + 1))).setCell ⟨N + 2, 2, none⟩ (.bool true)) := (hb8.set 1 _).setCell (.inr (by dsimp only; omega)) _
              obtain ⟨q1, q2, q3⟩ := put4 hq1 hq2 (Nat.le_succ N) (Ne.symm hrN1) (.int .i64 2) (.string ⟨x.toArray⟩) (.bool true) (.slice a n c)
              rw [HRR.out]
              refine ⟨.slice a n c, rfl, ?_, ?_, by rw [← HN.out]; exact q2⟩
              · rw [show s.length - r''.length = j + 1 by rw [HJ.out]; omega]
                exact q1
              · refine htk8.keep2 (fun k h _ => ?_) (fun k cur hk hc => ?_)
                · have h' : N + 3 ≤ k := h
                  show w.heap.size ≤ k
                  rw [← HN.out]
                  omega
                · have hk' : N + 3 ≤ k := hk
                  have hk1 : k ≠ N + 1 := by omega
                  have hk2 : k ≠ N + 2 := by omega
                  have hk3 : k ≠ rb := by omega
                  rw [q3 k hk1, Below.heap_setCell _ _ _ _ (fun e => hk2 e), Below.heap_setCell _ _ _ _ (fun e => hk3 e)]
                  exact hc
          · cases h1
          · cases h1
          · obtain ⟨_, h3, _⟩ := h1; cases h3
      · have hRR := hid (HR.out.trans (varOf_plain hbr hHN.out hx0 (fun t e => h40 ⟨t, e⟩)))
        have hEr : s.length - r.length = E := by have := HE.out; omega
        cases r with
        | nil =>
          have hge : s.length ≤ E := HAE.out.nil_iff.1 rfl
          rw [decide_eq_true hge] at heN
          have HE2 := hid heN
          clear heN he
          go_quiet ((go_at_call 32; exact Calls.quiet_of (HE2.out _)))
          go_wp2
          refine bodyPost_ret (v := .tuple #[.agg #[.int .i64 2, .string ⟨x.toArray⟩, .bool false, .slice none 0 0], .bool true]) (by simp [results, Tryz.results36, go_sem, y0, y1, y2, y3]) rfl ?_
          obtain ⟨q1, q2, _⟩ := put4 hrd2 hbut2 (Nat.le_succ N) (Ne.symm hrN1) (.int .i64 2) (.string ⟨x.toArray⟩) (.bool false) (.slice none 0 0)
          rw [hRR.out]
          refine ⟨.slice none 0 0, rfl, ?_, RowIs.nil, by rw [← HN.out]; exact q2.drewN _⟩
          rw [hEr]
          exact q1.drewN _
        | cons c t =>
          have hx := HAE.out.byte
          have hElt := HAE.out.lt
          have h40' : c ≠ 40 := fun e => h40 ⟨t, by rw [e]⟩
          have n40 := byte_ne 40 h40' rfl
          rw [decide_eq_false (by omega)] at heN
          have HE2 := hid heN
          clear heN he
          go_quiet ((go_at_call 32; exact Calls.quiet_of (HE2.out _)))
          go_wp2
          refine bodyPost_ret (v := .tuple #[.agg #[.int .i64 2, .string ⟨x.toArray⟩, .bool false, .slice none 0 0], .bool true]) (by simp [results, Tryz.results36, go_sem, y0, y1, y2, y3]) rfl ?_
          obtain ⟨q1, q2, _⟩ := put4 hrd2 hbut2 (Nat.le_succ N) (Ne.symm hrN1) (.int .i64 2) (.string ⟨x.toArray⟩) (.bool false) (.slice none 0 0)
          rw [hRR.out]
          refine ⟨.slice none 0 0, rfl, ?_, RowIs.nil, by rw [← HN.out]; exact q2.drewN _⟩
          rw [hEr]
          exact q1.drewN _
end Go.Proofs.YtkgpmkkodpjdfaaGreatDoor.Pz
