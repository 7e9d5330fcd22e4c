/-
  Part K4 of the proofs of this seat: contracts of functions and plain facts, merged from 12 texts.
-/
import Derived.MapKept
import Derived.WalkMore
import Derived.Defers
import Derived.Recover
import Derived.Test.YtkgpmkkodpjdfaaGreatDoorK0
import Derived.Test.YtkgpmkkodpjdfaaGreatDoorK1
import Derived.Test.YtkgpmkkodpjdfaaGreatDoorK2
import Derived.Test.YtkgpmkkodpjdfaaGreatDoorK3
/-
  Words by their first bytes.
-/
namespace Go.Proofs.YtkgpmkkodpjdfaaGreatDoor.Pz
open Go.RowKit Go.MapKept
/-- the entries of 'words' -/
def wordEnts : Array MapEntry := #[⟨.int .u8 123, .func (.func 141) #[] #[], 0⟩, ⟨.int .u8 34, .func (.func 142) #[] #[], 1⟩]
def wordOf (c : UInt8) : Value := if c == 123 then .func (.func 141) #[] #[] else if c == 34 then .func (.func 142) #[] #[] else .nilFunc
theorem Tryz.zeroWordFn (w : World) : (zeroValue 151).run Tryz.prog w = .ok .nilFunc w := by kernel_rfl
theorem find_word (c : UInt8) : Instr.findNow (.int .u8) (.int .u8 (c.toNat : Int)) wordEnts.toList 0 = some (if c == 123 then some (0, .func (.func 141) #[] #[]) else if c == 34 then some (1, .func (.func 142) #[] #[]) else none) := by
  by_cases h1 : c = 123
  · subst h1; rfl
  · have e1 := byte_ne 123 h1 rfl
    by_cases h2 : c = 34
    · subst h2; rfl
    · have e2 := byte_ne 34 h2 rfl
      simp [Instr.findNow, wordEnts, Instr.sameNow, e1, e2, h1, h2]
theorem lookup_word {W : World} {m : Nat} (h : W.heap[m]? = some (.map wordEnts 2)) (c : UInt8) :
    (Instr.lookup 153 (.map (some m)) (.int .u8 (c.toNat : Int)) true).run Tryz.prog W = .ok (.tuple #[wordOf c, .bool (c == 123 || c == 34)]) W := by
  have hf := find_word c
  have hk : IsKey (.int .u8) (.int .u8 (c.toNat : Int)) := rfl
  have h1 := fun n => run_checkKey (P := Tryz.prog) (w := W) (kt := 5) (d := .int .u8) (k := .int .u8 (c.toNat : Int)) Tryz.underlying5 hk (wordEnts.isEmpty) n
  have h2 := run_findKey (P := Tryz.prog) (w := W) (kt := 5) Tryz.underlying5 hf
  have h3 := h1 9999
  have h4 : Instr.checkKey wordEnts.isEmpty 10000 5 (.int .u8 (c.toNat : Int)) = Instr.checkKey wordEnts.isEmpty (9999 + 1) 5 (.int .u8 (c.toNat : Int)) := rfl
  have hz := fun W' => Tryz.zeroWordFn W'
  unfold Instr.lookup
  simp only [Sem.run_bind, run_underlying Tryz.underlying153, Result.andThen_ok, Go.MapKept.run_getObj_map h, Sem.run_pure, h4, h3, h2]
  by_cases e1 : c = 123
  · subst e1; rfl
  · by_cases e2 : c = 34
    · subst e2; rfl
    · simp [wordOf, e1, e2, hz]
theorem push_set (A : Array Obj) (o o' : Obj) : (A.push o).setIfInBounds A.size o' = A.push o' := by
  apply Array.ext_getElem?
  intro i
  simp only [Array.getElem?_setIfInBounds, Array.getElem?_push, Array.size_push]
  by_cases h : A.size = i
  · subst h; simp
  · simp [h, Ne.symm h]
theorem alloc_set (w : World) (o o' : Obj) : ({ (w.alloc o) with heap := (w.alloc o).heap.setIfInBounds w.heap.size o' } : World) = w.alloc o' := by
  have h : (w.alloc o).heap.setIfInBounds w.heap.size o' = (w.alloc o').heap := push_set w.heap o o'
  rw [h]
  rfl
theorem put_word (w : World) (es : Array MapEntry) (k : Nat) (n : Nat) (v : Value) (hf : Instr.findNow (.int .u8) (.int .u8 (n : Nat)) es.toList 0 = some none) :
    (Instr.mapUpdate 153 (.map (some w.heap.size)) (.int .u8 (n : Nat)) v).run Tryz.prog (w.alloc (.map es k)) = .ok () (w.alloc (.map (es.push ⟨.int .u8 (n : Nat), v, k⟩) (k + 1))) := by
  have hb : (w.alloc (.map es k)).heap[w.heap.size]? = some (.map es k) := new1 w _
  have hk : IsKey (.int .u8) (.int .u8 (n : Nat)) := rfl
  have h3 := run_checkKey (P := Tryz.prog) (w := w.alloc (.map es k)) (kt := 5) (d := .int .u8) (k := .int .u8 (n : Nat)) Tryz.underlying5 hk false 9999
  have h2 := run_findKey (P := Tryz.prog) (w := w.alloc (.map es k)) (kt := 5) Tryz.underlying5 hf
  have h4 : Instr.checkKey false 10000 5 (.int .u8 (n : Nat)) = Instr.checkKey false (9999 + 1) 5 (.int .u8 (n : Nat)) := rfl
  have h5 := Go.MapKept.run_setObj_map (P := Tryz.prog) (.map (es.push ⟨.int .u8 (n : Nat), v, k⟩) (k + 1)) hb
  rw [alloc_set] at h5
  unfold Instr.mapUpdate
  simp only [Sem.run_bind, run_underlying Tryz.underlying153, Result.andThen_ok, Go.MapKept.run_getObj_map hb, h4, h3, h2, h5]
set_option maxRecDepth 100000 in
theorem words_fn (w : World) : Calls Tryz.prog 126 #[] w fun e w' => e = .returned (.map (some w.heap.size)) ∧ w' = w.alloc (.map wordEnts 2) := by
  have hmm := @run_makeMap Tryz.prog
  have k1 := put_word w #[] 0 123 (.func (.func 141) #[] #[]) rfl
  have k2 := put_word w #[⟨.int .u8 123, .func (.func 141) #[] #[], 0⟩] 1 34 (.func (.func 142) #[] #[]) rfl
  have hw : (#[⟨.int .u8 123, .func (.func 141) #[] #[], 0⟩] : Array MapEntry).push ⟨.int .u8 34, .func (.func 142) #[] #[], 1⟩ = wordEnts := rfl
  have k1' : (Instr.mapUpdate 153 (.map (some w.heap.size)) (.int .u8 123) (.func (.func 141) #[] #[])).run Tryz.prog (w.alloc (.map #[] 0)) = .ok () (w.alloc (.map #[⟨.int .u8 123, .func (.func 141) #[] #[], 0⟩] 1)) := k1
  have k2' : (Instr.mapUpdate 153 (.map (some w.heap.size)) (.int .u8 34) (.func (.func 142) #[] #[])).run Tryz.prog (w.alloc (.map #[⟨.int .u8 123, .func (.func 141) #[] #[], 0⟩] 1)) = .ok () (w.alloc (.map wordEnts 2)) := k2
  clear k1 k2 hw
  go_enter Tryz.func126, Tryz.ntmps126
  go_wp2
  go_ret
  exact ⟨rfl, rfl⟩
end Go.Proofs.YtkgpmkkodpjdfaaGreatDoor.Pz
/-
  A word.
-/
namespace Go.Proofs.YtkgpmkkodpjdfaaGreatDoor.Pz
open Go.RowKit
def BracedC (wi : Bool) (d : Nat) (t : Str) : Prop := ∀ (w : World) (rb : Nat) (s : Str) (i : Nat), s.length ≤ 1000000 → d ≤ 100 → RdAt w rb s i d all3 → At s (123 :: t) i →
  Calls Tryz.prog 141 #[.pointer (some ⟨rb, 0, none⟩), .bool wi] w (WordP rb s d w (word wi d (123 :: t)))
def QuotedC (wi : Bool) (d : Nat) (t : Str) : Prop := ∀ (w : World) (rb : Nat) (s : Str) (i : Nat), s.length ≤ 1000000 → d ≤ 100 → RdAt w rb s i d all3 → At s (34 :: t) i →
  Calls Tryz.prog 142 #[.pointer (some ⟨rb, 0, none⟩), .bool wi] w (WordP rb s d w (word wi d (34 :: t)))
theorem word_shape {rb : Nat} {s : Str} {d : Nat} {w : World} {R : Res Wd} {e : Ending} {w' : World} (h : WordP rb s d w R e w') : (∃ sp a n c, e = .returned (.agg #[.bool sp, .slice a n c])) ∨ (∃ ch, e = .panicked ch) := by
  unfold WordP at h
  split at h
  · obtain ⟨v, rfl, _, hv, _⟩ := h
    obtain ⟨a, cap, rfl, _⟩ := RowIs.cell hv
    exact .inl ⟨_, _, _, _, rfl⟩
  · exact .inr ⟨_, h.1⟩
theorem word_but {rb : Nat} {s : Str} {d : Nat} {w : World} {R : Res Wd} {e : Ending} {w' : World} (h : WordP rb s d w R e w') : But rb w.heap.size w w' := by
  unfold WordP at h
  split at h
  · obtain ⟨_, _, _, _, h⟩ := h; exact h
  · exact h.2
/-- a struct of two cells is stored -/
theorem put2 {X w : World} {rb b N : Nat} {s : Str} {i d : Nat} {g : Told} (hrd : RdAt X rb s i d g) (hb : But rb N w X) (h1 : N ≤ b) (h2 : b ≠ rb) (x0 x1 : Value) :
    RdAt ((X.setCell ⟨b, 0, none⟩ x0).setCell ⟨b, 1, none⟩ x1) rb s i d g ∧ But rb N w ((X.setCell ⟨b, 0, none⟩ x0).setCell ⟨b, 1, none⟩ x1) ∧
      ∀ k, k ≠ b → ((X.setCell ⟨b, 0, none⟩ x0).setCell ⟨b, 1, none⟩ x1).heap[k]? = X.heap[k]? := by
  have h3 : ∀ k, k ≠ b → ((X.setCell ⟨b, 0, none⟩ x0).setCell ⟨b, 1, none⟩ x1).heap[k]? = X.heap[k]? := by
    intro k hk
    rw [Below.heap_setCell _ _ _ _ (fun e => hk e), Below.heap_setCell _ _ _ _ (fun e => hk e)]
  exact ⟨(h3 rb (Ne.symm h2)).trans hrd, (hb.setCell (.inr h1) _).setCell (.inr h1) _, h3⟩
/-- a word that a callee read is handed on -/
theorem word_on {rb b N : Nat} {s : Str} {d : Nat} {w X w1 : World} {R : Res Wd} {sp : Bool} {a : Option Addr} {n c : Nat} (h : WordP rb s d X R (.returned (.agg #[.bool sp, .slice a n c])) w1) (hX : But rb N w X) (hN : N = w.heap.size) (h1 : N ≤ b) (h2 : b ≠ rb) (h3 : b < X.heap.size) (hNX : N ≤ X.heap.size) :
    WordP rb s d w R (.returned (.agg #[.bool sp, .slice a n c])) ((w1.setCell ⟨b, 0, none⟩ (.bool sp)).setCell ⟨b, 1, none⟩ (.slice a n c)) := by
  have hb := word_but h
  unfold WordP at h ⊢
  cases R with
  | halt hh => cases h.1
  | ok x r =>
    obtain ⟨v, e, hrd, htk, _⟩ := h
    obtain ⟨q1, q2, q3⟩ := put2 hrd (hX.trans (hb.mono hNX)) h1 h2 (.bool sp) (.slice a n c)
    refine ⟨v, e, q1, ?_, by rw [← hN]; exact q2⟩
    refine htk.keep2 (fun k hk _ => ?_) (fun k cur hk hc => ?_)
    · have : X.heap.size ≤ k := hk
      show w.heap.size ≤ k
      omega
    · have : X.heap.size ≤ k := hk
      rw [q3 k (by omega)]
      exact hc
theorem word_pan {rb N : Nat} {s : Str} {d : Nat} {w X w1 : World} {R : Res Wd} {ch : List PanicEntry} (h : WordP rb s d X R (.panicked ch) w1) (hX : But rb N w X) (hN : N = w.heap.size) (hNX : N ≤ X.heap.size) : WordP rb s d w R (.panicked ch) w1 := by
  unfold WordP at h ⊢
  cases R with
  | halt hh => exact ⟨h.1, by rw [← hN]; exact hX.trans (h.2.mono hNX)⟩
  | ok x r => obtain ⟨_, e, _⟩ := h; cases e
theorem parts_but {rb : Nat} {s : Str} {d : Nat} {g : Told} {w : World} {R : Res (List Tok)} {e : Ending} {w' : World} (h : PartsP rb s d g w R e w') : But rb w.heap.size w w' := by
  unfold PartsP at h
  split at h
  · obtain ⟨_, _, _, _, h⟩ := h; exact h
  · exact h.2
set_option maxRecDepth 100000 in
set_option maxHeartbeats 4000000 in
theorem word_walk {wi : Bool} {d : Nat} {l : Str} (ihB : ∀ t, l = 123 :: t → BracedC wi d t) (ihQ : ∀ t, l = 34 :: t → QuotedC wi d t) (ihP : PartsC (.bare wi) all3 d l) : WordC wi d l := by
  intro w rb s i hs hd h hat hne
  obtain ⟨c, t, rfl⟩ : ∃ c t, l = c :: t := by cases l with | nil => exact absurd rfl hne | cons c t => exact ⟨c, t, rfl⟩
  have hlt := h.lt
  have hi := hat.lt
  have hx := hat.byte
  have hsz' : (⟨s.toArray⟩ : ByteArray).size = s.length := Lib.size_mk _
  have hmf : ∀ (fn : Fn) (first cap : Array Value) (w : World), (Instr.makeFunc fn first cap).run Tryz.prog w = .ok (.func fn first cap) w := fun _ _ _ _ => rfl
  obtain ⟨N, hN⟩ : ∃ N, N = w.heap.size := ⟨_, rfl⟩
  have HN := hid hN
  have HAT := hid hat
  have HRD := hid h
  obtain ⟨R, hR⟩ : ∃ R, R = word wi d (c :: t) := ⟨_, rfl⟩
  rw [← hR]
  have HR := hid hR
  clear hR hat h hN hne
  go_enter Tryz.func109, Tryz.ntmps109
  go_wp2
  refine at_world fun W hW => ?_
  have hsz : W.heap.size = N + 3 := by rw [hW, HN.out]; simp
  have hrd : RdAt W rb s i d all3 := by rw [hW]; exact ((HRD.out.alloc _).alloc _).alloc _
  obtain ⟨hbx, hbq, hres⟩ : Box W N 52 (.pointer (some ⟨rb, 0, none⟩)) ∧ Box W (N + 1) 4 (.bool wi) ∧ W.heap[N + 1 + 1]? = some (.cells #[.bool false, .slice none 0 0] 49 (0, 0)) := by
    rw [hW, HN.out]
    exact new3 _ _ _ _
  have hbut : But rb N w W := by
    rw [hW]
    exact (((But.refl rb N w).alloc (by rw [HN.out]; omega) _).alloc (by simp; rw [HN.out]; omega) _).alloc (by simp; rw [HN.out]; omega) _
  rw [← HN.out] at hlt ⊢
  clear hW
  have hrN : rb ≠ N := by omega
  have b0 := hbx.cell
  obtain ⟨c0, c1, _⟩ := hrd.cells
  refine U_begin (late := fun i => decide (10 ≤ i)) (S := fun u => u.cell? ⟨N, 0, none⟩ = some (.pointer (some ⟨rb, 0, none⟩)) ∧ u.cell? ⟨rb, 0, none⟩ = some (.string ⟨s.toArray⟩) ∧ u.cell? ⟨rb, 1, none⟩ = some (.int .i64 (i : Nat))) (by kernel_rfl) ?_
  have S0 : Hid ((fun u => u.cell? ⟨N, 0, none⟩ = some (.pointer (some ⟨rb, 0, none⟩)) ∧ u.cell? ⟨rb, 0, none⟩ = some (.string ⟨s.toArray⟩) ∧ u.cell? ⟨rb, 1, none⟩ = some (.int .i64 (i : Nat))) W.drew) := hid ⟨by go_simp, by go_simp, by go_simp⟩
  refine U_take2 12 (i := 1) (v := .pointer (some ⟨rb, 0, none⟩)) rfl (by kernel_rfl) (by kernel_rfl) (by kernel_rfl) (by kernel_rfl) (by kernel_rfl) (fun _ _ _ h => h) (.inl ⟨rfl, fun u hu => (by obtain ⟨h1, h2, h3⟩ := hu; go_simp)⟩) S0.out ?_
  refine U_take2 12 (i := 2) (v := .pointer (some ⟨rb, 0, none⟩)) rfl (by kernel_rfl) (by kernel_rfl) (by kernel_rfl) (by kernel_rfl) (by kernel_rfl) (fun _ _ _ h => h) (.inl ⟨rfl, fun u hu => (by go_simp)⟩) S0.out ?_
  refine U_take2 12 (i := 3) (v := .pointer (some ⟨rb, 0, none⟩)) rfl (by kernel_rfl) (by kernel_rfl) (by kernel_rfl) (by kernel_rfl) (by kernel_rfl) (fun _ _ _ h => h) (.inl ⟨rfl, fun u hu => (by go_simp)⟩) S0.out ?_
  refine U_take2 12 (i := 4) (v := .string ⟨s.toArray⟩) rfl (by kernel_rfl) (by kernel_rfl) (by kernel_rfl) (by kernel_rfl) (by kernel_rfl) (fun _ _ _ h => h) (.inl ⟨rfl, fun u hu => (by obtain ⟨h1, h2, h3⟩ := hu; go_simp)⟩) S0.out ?_
  refine U_take2 12 (i := 5) (v := .pointer (some ⟨rb, 0, none⟩)) rfl (by kernel_rfl) (by kernel_rfl) (by kernel_rfl) (by kernel_rfl) (by kernel_rfl) (fun _ _ _ h => h) (.inl ⟨rfl, fun u hu => (by obtain ⟨h1, h2, h3⟩ := hu; go_simp)⟩) S0.out ?_
  refine U_take2 12 (i := 6) (v := .pointer (some ⟨rb, 0, none⟩)) rfl (by kernel_rfl) (by kernel_rfl) (by kernel_rfl) (by kernel_rfl) (by kernel_rfl) (fun _ _ _ h => h) (.inl ⟨rfl, fun u hu => (by go_simp)⟩) S0.out ?_
  refine U_take2 12 (i := 7) (v := .pointer (some ⟨rb, 1, none⟩)) rfl (by kernel_rfl) (by kernel_rfl) (by kernel_rfl) (by kernel_rfl) (by kernel_rfl) (fun _ _ _ h => h) (.inl ⟨rfl, fun u hu => (by go_simp)⟩) S0.out ?_
  refine U_take2 12 (i := 8) (v := .int .i64 (i : Nat)) rfl (by kernel_rfl) (by kernel_rfl) (by kernel_rfl) (by kernel_rfl) (by kernel_rfl) (fun _ _ _ h => h) (.inl ⟨rfl, fun u hu => (by obtain ⟨h1, h2, h3⟩ := hu; go_simp)⟩) S0.out ?_
  refine U_take2 12 (i := 9) (v := .int .u8 c.toNat) rfl (by kernel_rfl) (by kernel_rfl) (by kernel_rfl) (by kernel_rfl) (by kernel_rfl) (fun _ _ _ h => h) (.inl ⟨rfl, fun u hu => (by go_simp)⟩) S0.out ?_
  refine U_step (j := 0) (by kernel_rfl) rfl (fun K hK => ?_)
  go_simp
  (with_reducible refine (words_fn _).mono ?_); rintro e W2 ⟨rfl, hW2⟩
  have hb2 : Below W.drew.heap.size W.drew W2 := by rw [hW2]; exact (Below.refl _ _).alloc (Nat.le_refl _) _
  have hmap : W2.heap[N + 3]? = some (.map wordEnts 2) := by
    have e : N + 3 = W.drew.heap.size := hsz.symm
    rw [hW2, e]
    exact new1 _ _
  have hsz0 : W.drew.heap.size = N + 3 := hsz
  rw [hsz0] at hb2
  have hrd2 : RdAt W2 rb s i d all3 := hrd.of (hb2.block rb (by omega))
  have hbx2 : Box W2 N 52 (.pointer (some ⟨rb, 0, none⟩)) := (hb2.block N (by omega)).trans hbx
  have hbq2 : Box W2 (N + 1) 4 (.bool wi) := (hb2.block (N + 1) (by omega)).trans hbq
  have hres2 := (hb2.block (N + 1 + 1) (by omega)).trans hres
  have hbut2 : But rb N w W2 := hbut.drew.trans (but_of_below (hb2.mono (by omega)) rb)
  have hsz2 := hb2.size
  rw [hsz0] at hsz2
  rw [hsz0]
  refine hK.out _ _ (.inr ⟨hbx2.cell, hrd2.cells.1, hrd2.cells.2.1⟩) ?_
  clear hK K hW2 hb2 hsz0
  refine U_then (by kernel_rfl) ?_
  have hlk := lookup_word hmap c
  obtain ⟨fv, hfv⟩ : ∃ fv, fv = wordOf c := ⟨_, rfl⟩
  obtain ⟨b, hb⟩ : ∃ b, b = (c == 123 || c == 34) := ⟨_, rfl⟩
  rw [← hfv, ← hb] at hlk
  have HFV := hid hfv
  have HB := hid hb
  clear hfv hb
  refine U_step (j := 10) (by kernel_rfl) rfl (fun K hK => ?_)
  go_simp
  refine hK.out _ _ (.inr trivial) ?_
  clear hK K
  refine U_take (i := 11) (v := .tuple #[fv, .bool b]) rfl (by kernel_rfl) (by kernel_rfl) (by kernel_rfl) (by kernel_rfl) (by kernel_rfl) (fun _ _ _ h => h) (.inl ⟨rfl, fun u hu => (by go_simp)⟩) trivial ?_
  refine U_take (i := 12) (v := fv) rfl (by kernel_rfl) (by kernel_rfl) (by kernel_rfl) (by kernel_rfl) (by kernel_rfl) (fun _ _ _ h => h) (.inl ⟨rfl, fun u hu => (by go_simp)⟩) trivial ?_
  refine U_take (i := 13) (v := .bool b) rfl (by kernel_rfl) (by kernel_rfl) (by kernel_rfl) (by kernel_rfl) (by kernel_rfl) (fun _ _ _ h => h) (.inl ⟨rfl, fun u hu => (by go_simp)⟩) trivial ?_
  refine U_take (i := 14) (v := fv) rfl (by kernel_rfl) (by kernel_rfl) (by kernel_rfl) (by kernel_rfl) (by kernel_rfl) (fun _ _ _ h => h) (.inl ⟨rfl, fun u hu => (by go_simp)⟩) trivial ?_
  refine U_take (i := 15) (v := .bool b) rfl (by kernel_rfl) (by kernel_rfl) (by kernel_rfl) (by kernel_rfl) (by kernel_rfl) (fun _ _ _ h => h) (.inl ⟨rfl, fun u hu => (by go_simp)⟩) trivial ?_
  refine U_done (by kernel_rfl) ?_ _
  clear S0 b0 c0 c1 hlk hmap hsz hrd hbx hbq hres hbut
  have b0 := hbx2.cell
  have b1 := hbq2.cell
  have y0 : W2.cell? ⟨N + 1 + 1, 0, none⟩ = some (.bool false) := by rw [Lib.cell_of_heap hres2]; rfl
  have y1 : W2.cell? ⟨N + 1 + 1, 1, none⟩ = some (.slice none 0 0) := by rw [Lib.cell_of_heap hres2]; rfl
  have f0 : W2.frozen? ⟨N + 1 + 1, 0, none⟩ = false := Lib.frozen_of_heap hres2 0
  have f1 : W2.frozen? ⟨N + 1 + 1, 1, none⟩ = false := Lib.frozen_of_heap hres2 1
  by_cases h123 : c = 123
  · subst h123
    have hc := hid (ihB t rfl W2 rb s i hs hd hrd2 HAT.out)
    have hb1 : b = true := by rw [HB.out]; rfl
    have hf1 : fv = .func (.func 141) #[] #[] := by rw [HFV.out]; rfl
    subst hb1 hf1
    clear HB HFV
    have eb : ∀ args w, (callFunc 141 args).run Tryz.prog w = .ok (.enter 141 args) w := enters_of Tryz.func141 (by kernel_rfl) rfl
    rw [← HR.out] at hc
    go_wp2_with fail
    (with_reducible refine hc.out.mono ?_); intro e w1 h1
    have hpb := word_but h1
    rcases word_shape h1 with ⟨sp, a, n, cp, rfl⟩ | ⟨ch, rfl⟩
    · have hres1 := hpb.heap (by omega) (by omega) hres2
      have H1 := hid h1
      clear h1 y0 y1 f0 f1 b0 b1 hpb
      have y0 : w1.cell? ⟨N + 1 + 1, 0, none⟩ = some (.bool false) := by rw [Lib.cell_of_heap hres1]; rfl
      have y1 : w1.cell? ⟨N + 1 + 1, 1, none⟩ = some (.slice none 0 0) := by rw [Lib.cell_of_heap hres1]; rfl
      have f0 : w1.frozen? ⟨N + 1 + 1, 0, none⟩ = false := Lib.frozen_of_heap hres1 0
      have f1 : w1.frozen? ⟨N + 1 + 1, 1, none⟩ = false := Lib.frozen_of_heap hres1 1
      go_wp2
      refine bodyPost_ret (v := .agg #[.bool sp, .slice a n cp]) (by simp [results, Tryz.results109, go_sem, y0, y1]) rfl ?_
      exact word_on H1.out hbut2 HN.out (by omega) (by omega) (by omega) (by omega)
    · exact ⟨rfl, word_pan h1 hbut2 HN.out (by omega)⟩
  by_cases h34 : c = 34
  · subst h34
    have hc := hid (ihQ t rfl W2 rb s i hs hd hrd2 HAT.out)
    have hb1 : b = true := by rw [HB.out]; rfl
    have hf1 : fv = .func (.func 142) #[] #[] := by rw [HFV.out]; rfl
    subst hb1 hf1
    clear HB HFV
    have eb : ∀ args w, (callFunc 142 args).run Tryz.prog w = .ok (.enter 142 args) w := enters_of Tryz.func142 (by kernel_rfl) rfl
    rw [← HR.out] at hc
    go_wp2_with fail
    (with_reducible refine hc.out.mono ?_); intro e w1 h1
    have hpb := word_but h1
    rcases word_shape h1 with ⟨sp, a, n, cp, rfl⟩ | ⟨ch, rfl⟩
    · have hres1 := hpb.heap (by omega) (by omega) hres2
      have H1 := hid h1
      clear h1 y0 y1 f0 f1 b0 b1 hpb
      have y0 : w1.cell? ⟨N + 1 + 1, 0, none⟩ = some (.bool false) := by rw [Lib.cell_of_heap hres1]; rfl
      have y1 : w1.cell? ⟨N + 1 + 1, 1, none⟩ = some (.slice none 0 0) := by rw [Lib.cell_of_heap hres1]; rfl
      have f0 : w1.frozen? ⟨N + 1 + 1, 0, none⟩ = false := Lib.frozen_of_heap hres1 0
      have f1 : w1.frozen? ⟨N + 1 + 1, 1, none⟩ = false := Lib.frozen_of_heap hres1 1
      go_wp2
      refine bodyPost_ret (v := .agg #[.bool sp, .slice a n cp]) (by simp [results, Tryz.results109, go_sem, y0, y1]) rfl ?_
      exact word_on H1.out hbut2 HN.out (by omega) (by omega) (by omega) (by omega)
    · exact ⟨rfl, word_pan h1 hbut2 HN.out (by omega)⟩
  have hb1 : b = false := by rw [HB.out]; simp [h123, h34]
  have hf1 : fv = .nilFunc := by rw [HFV.out]; unfold wordOf; rw [if_neg (by simpa using h123), if_neg (by simpa using h34)]
  subst hb1 hf1
  clear HB HFV
  have hends : EndsBy (.bare wi) rb W2 127 #[] #[.pointer (some ⟨N, 0, none⟩), .pointer (some ⟨N + 1, 0, none⟩)] :=
    ⟨enters_of Tryz.func127 (by kernel_rfl) rfl, fun w' s' l' i' d' g' hb hr ha hs' => wordEnd_fn (hbx2.but hb (by omega)) (hbq2.but hb (by omega)) hr ha hs'⟩
  have hc := hid (ihP W2 rb s i 127 #[] #[.pointer (some ⟨N, 0, none⟩), .pointer (some ⟨N + 1, 0, none⟩)] hs hd hrd2 HAT.out hends)
  have hRw := HR.out
  rw [word_bare h123 h34] at hRw
  have HRW := hid hRw
  have h123' := byte_ne 123 h123 rfl
  clear hRw HR hends
  obtain ⟨R2, hR2⟩ : ∃ R2, R2 = parts (.bare wi) all3 d (c :: t) := ⟨_, rfl⟩
  rw [← hR2] at hc
  have HR2 := hid hR2
  clear hR2
  go_wp2_with fail
  (with_reducible refine hc.out.mono ?_); intro e w1 h1
  have hRw := HRW.out
  rw [← HR2.out] at hRw
  rcases parts_shape h1 with ⟨a, n, cp, rfl⟩ | ⟨ch, rfl⟩
  · have hpb := parts_but h1
    have hrw1 : WordP rb s d W2 R (.returned (.agg #[.bool false, .slice a n cp])) w1 := by
      unfold PartsP at h1
      rw [hRw]
      cases R2 with
      | halt hh => cases h1.1
      | ok ts r =>
        obtain ⟨v, e, q1, q2, q3⟩ := h1
        simp only [Ending.returned.injEq] at e
        subst e
        exact ⟨_, rfl, q1, q2, q3⟩
    have hres1 := hpb.heap (by omega) (by omega) hres2
    have HW1 := hid hrw1
    clear hrw1 h1 hRw y0 y1 f0 f1 b0 b1 hpb
    have y0 : w1.cell? ⟨N + 1 + 1, 0, none⟩ = some (.bool false) := by rw [Lib.cell_of_heap hres1]; rfl
    have y1 : w1.cell? ⟨N + 1 + 1, 1, none⟩ = some (.slice none 0 0) := by rw [Lib.cell_of_heap hres1]; rfl
    have f0 : w1.frozen? ⟨N + 1 + 1, 0, none⟩ = false := Lib.frozen_of_heap hres1 0
    have f1 : w1.frozen? ⟨N + 1 + 1, 1, none⟩ = false := Lib.frozen_of_heap hres1 1
    go_wp2
    refine bodyPost_ret (v := .agg #[.bool false, .slice a n cp]) (by simp [results, Tryz.results109, go_sem, y0, y1]) rfl ?_
    exact word_on HW1.out hbut2 HN.out (by omega) (by omega) (by omega) (by omega)
  · refine ⟨rfl, ?_⟩
    have hrw1 : WordP rb s d W2 R (.panicked ch) w1 := by
      unfold PartsP at h1
      rw [hRw]
      cases R2 with
      | halt hh => exact h1
      | ok ts r => obtain ⟨_, e, _⟩ := h1; cases e
    exact word_pan hrw1 hbut2 HN.out (by omega)
end Go.Proofs.YtkgpmkkodpjdfaaGreatDoor.Pz
/-
  A quoted word, a braced word.
-/
namespace Go.Proofs.YtkgpmkkodpjdfaaGreatDoor.Pz
open Go.RowKit
/-- what a word that is read leaves, where its result's block is this call's own -/
theorem word_end {rb b N : Nat} {s : Str} {d : Nat} {w X : World} {x : Wd} {r : Str} {a : Option Addr} {n c : Nat} (hrd : RdAt X rb s (s.length - r.length) d all3) (hb : But rb N w X) (htk : ToksIs 33 X (fun g => N ≤ g ∧ g ≠ b) (.slice a n c) x.toks) (hN : N = w.heap.size) (h1 : N ≤ b) (h2 : b ≠ rb) (_h3 : rb < N) :
    WordP rb s d w (.ok x r) (.returned (.agg #[.bool x.spread, .slice a n c])) ((X.setCell ⟨b, 0, none⟩ (.bool x.spread)).setCell ⟨b, 1, none⟩ (.slice a n c)) := by
  obtain ⟨q1, q2, q3⟩ := put2 hrd hb h1 h2 (.bool x.spread) (.slice a n c)
  refine ⟨_, rfl, q1, ?_, by rw [← hN]; exact q2⟩
  refine htk.keep2 (fun k hk _ => ?_) (fun k cur hk hc => ?_)
  · show w.heap.size ≤ k
    rw [← hN]
    exact hk.1
  · rw [q3 k hk.2]
    exact hc
set_option maxRecDepth 100000 in
set_option maxHeartbeats 4000000 in
theorem quoted_walk {wi : Bool} {d : Nat} {t : Str} (ihP : PartsC .quote all3 d t) : QuotedC wi d t := by
  intro w rb s i hs hd h hat
  have hlt := h.lt
  have hlt1 : rb < w.heap.size + 1 := by omega
  have hi := hat.lt
  obtain ⟨c0, c1, _⟩ := h.cells
  have z1 := h.free 1
  have hmf : ∀ (fn : Fn) (first cap : Array Value) (w : World), (Instr.makeFunc fn first cap).run Tryz.prog w = .ok (.func fn first cap) w := fun _ _ _ _ => rfl
  obtain ⟨N, hN⟩ : ∃ N, N = w.heap.size := ⟨_, rfl⟩
  have HN := hid hN
  have HAT := hid hat
  have HRD := hid h
  obtain ⟨R, hR⟩ : ∃ R, R = word wi d (34 :: t) := ⟨_, rfl⟩
  rw [← hR]
  rw [word_quote] at hR
  have HR := hid hR
  have hWX : ∀ W : World, W = ((w.setCell ⟨rb, 1, none⟩ (.int .i64 ((i : Int) + 1))).alloc (.cells #[.pointer (some ⟨rb, 0, none⟩)] 52)).alloc (.cells #[.bool false, .slice none 0 0] 49) → 
      W.heap.size = N + 2 ∧ RdAt W rb s (i + 1) d all3 ∧ Box W N 52 (.pointer (some ⟨rb, 0, none⟩)) ∧ W.heap[N + 1]? = some (.cells #[.bool false, .slice none 0 0] 49 (0, 0)) ∧ But rb N w W := by
    rintro W rfl
    have hX : N = (w.setCell ⟨rb, 1, none⟩ (.int .i64 ((i : Int) + 1))).heap.size := by rw [hN]; simp
    refine ⟨by simp [hN], ((h.go (by go_num)).alloc _).alloc _, ?_, ?_, ((((But.refl rb N w).set 1 _).alloc (by rw [← hX]; omega) _).alloc (by simp; omega) _)⟩
    · rw [hX]; exact (new2 _ _ _).1
    · rw [hX]; exact (new2 _ _ _).2
  obtain ⟨W, hW⟩ : ∃ W : World, W = ((w.setCell ⟨rb, 1, none⟩ (.int .i64 ((i : Int) + 1))).alloc (.cells #[.pointer (some ⟨rb, 0, none⟩)] 52)).alloc (.cells #[.bool false, .slice none 0 0] 49) := ⟨_, rfl⟩
  obtain ⟨hsz, hrd, hbx, hres, hbut⟩ := hWX W hW
  have hrN : N ≠ rb := by omega
  have hends : EndsBy .quote rb W 151 #[] #[.pointer (some ⟨N, 0, none⟩)] :=
    ⟨enters_of Tryz.func151 (by kernel_rfl) rfl, fun w' s' l' i' d' g' hb hr ha hs' => quotedEnd_fn (hbx.but hb hrN) hr ha hs'⟩
  have hc := ihP W rb s (i + 1) 151 #[] #[.pointer (some ⟨N, 0, none⟩)] hs hd hrd hat.tail hends
  obtain ⟨R2, hR2⟩ : ∃ R2, R2 = parts .quote all3 d t := ⟨_, rfl⟩
  rw [← hR2] at hc
  have HR2 := hid hR2
  rw [hW, hN] at hc
  have HC := hid hc
  have HW := hid hW
  have hll := hat.len
  simp only [List.length_cons] at hll
  clear hR hat h hN hWX hends hR2 hc hW
  go_enter Tryz.func142, Tryz.ntmps142
  go_wp2_with fail
  (with_reducible refine HC.out.mono ?_); intro e w1 h1
  rw [← HW.out] at h1
  rw [← HN.out] at hlt hlt1 ⊢
  have hpb := parts_but h1
  have hbx1 := hbx.but hpb hrN
  have hres1 := hpb.heap (by omega) (by omega) hres
  have hbut1 := hbut.trans (hpb.mono (by omega))
  have hsz1 := hpb.size
  have HRq := HR.out
  rw [← HR2.out] at HRq
  rcases parts_shape h1 with ⟨a, n, cp, rfl⟩ | ⟨ch, rfl⟩
  · cases R2 with
    | halt hh => exact absurd h1.1 (by simp)
    | ok ts r =>
      obtain ⟨v, e, hrd1, htk, _⟩ := h1
      simp only [Ending.returned.injEq] at e
      subst e
      have HTK := hid htk
      have HRR := hid HRq
      have b0 := hbx1.cell
      have he := end_fn hrd1
      have hpok := (parts_ok .quote all3 d t ts r HR2.out.symm).1
      have hrl := hpok.length_le
      have hat1 : At s r (s.length - r.length) := HAT.out.tail.suf hpok
      have HAT1 := hid hat1
      clear HRq htk hat1 hpok c0 c1 z1 hrd hbx hres hbut hpb
      cases r with
      | nil =>
        rw [decide_eq_true (by simp)] at he
        have he := hid he
        go_wp2_with fail
        (with_reducible refine he.out.mono ?_); rintro e w8 ⟨rfl, m, rfl⟩
        have ho := hid (open_fn (i : Nat) (w1.drewN m))
        go_wp2_with fail
        (with_reducible refine ho.out.mono ?_); rintro e w9 ⟨rfl, rfl⟩
        refine ⟨rfl, ?_⟩
        rw [HRR.out]
        refine ⟨?_, by rw [← HN.out]; exact hbut1.drewN m⟩
        rw [stopOf, show s.length - (t.length + 1) = i by omega]
      | cons e r =>
        simp only [List.length_cons] at hrl hrd1
        rw [decide_eq_false (by simp; omega)] at he
        have he := hid he
        obtain ⟨j, hj⟩ : ∃ j, j = s.length - (r.length + 1) := ⟨_, rfl⟩
        rw [← hj] at hrd1
        have hj2 : j < s.length := by rw [hj]; omega
        have hj3 : s.length - r.length = j + 1 := by rw [hj]; omega
        have hatr : At s r (j + 1) := by
          have h2 := HAT1.out.tail
          rw [List.length_cons, ← hj] at h2
          exact h2
        have HATR := hid hatr
        clear hj hatr
        go_wp2_with fail
        (with_reducible refine he.out.mono ?_); rintro e' w8 ⟨rfl, m, rfl⟩
        have hrd8 := hrd1.drewN m
        have hb8 := hbut1.drewN m
        have hbx8 : Box (w1.drewN m) N 52 (.pointer (some ⟨rb, 0, none⟩)) := hbx1
        have hres8 : (w1.drewN m).heap[N + 1]? = _ := hres1
        have hsz8 : (w1.drewN m).heap.size = w1.heap.size := rfl
        have htk8 : ToksIs 33 (w1.drewN m) (New W.heap.size) (.slice a n cp) (filled ts) := HTK.out.keep2 (fun _ h _ => h) (fun _ _ _ h => h)
        generalize w1.drewN m = W8 at *
        clear hrd1 hbut1 hbx1 hres1 he b0 HTK
        have b0 := hbx8.cell
        obtain ⟨c0, c1, _⟩ := hrd8.cells
        have z1 := hrd8.free 1
        have hrd9 := hrd8.go (v := .int .i64 ((j : Int) + 1)) (j := j + 1) (by go_num)
        have hbx9 : Box (W8.setCell ⟨rb, 1, none⟩ (.int .i64 ((j : Int) + 1))) N 52 (.pointer (some ⟨rb, 0, none⟩)) := (Below.heap_setCell _ _ _ _ (fun e => by dsimp only at e; omega)).trans hbx8
        cases hen : ended wi r with
        | false =>
          have hcl := hid (closed_no hrd9 HATR.out hs hen)
          have hRR : R = .halt (.wrong r.length) := by
            rw [HRR.out]
            show (if ended wi r = true then Res.ok (⟨false, filled ts⟩ : Wd) r else Res.halt (.wrong r.length)) = _
            rw [hen]
            rfl
          have HRR2 := hid hRR
          clear hRR HRR hen
          go_wp2_with fail
          (with_reducible refine hcl.out.mono ?_); rintro e9 w9 ⟨rfl, m2, rfl⟩
          refine ⟨rfl, ?_⟩
          rw [HRR2.out]
          refine ⟨?_, by rw [← HN.out]; exact (hb8.set 1 _).drewN m2⟩
          rw [stopOf, hj3]
        | true =>
          have hcl := hid (closed_yes hrd9 HATR.out hs hen)
          have hRR : R = .ok ⟨false, filled ts⟩ r := by
            rw [HRR.out]
            show (if ended wi r = true then Res.ok (⟨false, filled ts⟩ : Wd) r else Res.halt (.wrong r.length)) = _
            rw [hen]
            rfl
          have HRR2 := hid hRR
          clear hRR HRR hen
          go_wp2_with fail
          (with_reducible refine hcl.out.mono ?_); rintro e9 w9 ⟨rfl, m2, rfl⟩
          have hrd10 := hrd9.drewN m2
          have hb10 := (hb8.set 1 (.int .i64 ((j : Int) + 1))).drewN m2
          have hres10 : ((W8.setCell ⟨rb, 1, none⟩ (.int .i64 ((j : Int) + 1))).drewN m2).heap[N + 1]? = some (.cells #[.bool false, .slice none 0 0] 49 (0, 0)) := (Below.heap_setCell W8 ⟨rb, 1, none⟩ _ (N + 1) (fun e => by dsimp only at e; omega)).trans hres8
          have htk10 : ToksIs 33 ((W8.setCell ⟨rb, 1, none⟩ (.int .i64 ((j : Int) + 1))).drewN m2) (fun g => N ≤ g ∧ g ≠ N + 1) (.slice a n cp) (filled ts) :=
            htk8.keep2 (fun k h _ => by
              have h' : W.heap.size ≤ k := h
              constructor
              · omega
              · omega) (fun k cur h hc => by
              have h' : W.heap.size ≤ k := h
              have hk : k ≠ rb := by omega
              exact (Below.heap_setCell W8 ⟨rb, 1, none⟩ _ k (fun e => hk e)).trans hc)
          generalize (W8.setCell ⟨rb, 1, none⟩ (.int .i64 ((j : Int) + 1))).drewN m2 = W10 at *
          have y0 : W10.cell? ⟨N + 1, 0, none⟩ = some (.bool false) := by rw [Lib.cell_of_heap hres10]; rfl
          have y1 : W10.cell? ⟨N + 1, 1, none⟩ = some (.slice none 0 0) := by rw [Lib.cell_of_heap hres10]; rfl
          have f0 : W10.frozen? ⟨N + 1, 0, none⟩ = false := Lib.frozen_of_heap hres10 0
          have f1 : W10.frozen? ⟨N + 1, 1, none⟩ = false := Lib.frozen_of_heap hres10 1
          clear hrd8 hb8 hbx8 hres8 htk8 b0 c0 c1 z1 hrd9 hbx9 hcl
          rw [← hj3] at hrd10
          have HRD10 := hid hrd10
          clear hrd10
          go_wp2
          refine bodyPost_ret (v := .agg #[.bool false, .slice a n cp]) (by simp [results, Tryz.results142, go_sem, y0, y1]) rfl ?_
          rw [HRR2.out]
          exact word_end (x := ⟨false, filled ts⟩) HRD10.out hb10 htk10 HN.out (by omega) (by omega) (by omega)
  · refine ⟨rfl, ?_⟩
    cases R2 with
    | halt hh =>
      rw [HRq]
      exact ⟨h1.1, by rw [← HN.out]; exact hbut1⟩
    | ok ts r => obtain ⟨_, e, _⟩ := h1; cases e
end Go.Proofs.YtkgpmkkodpjdfaaGreatDoor.Pz
/-
  A braced word.
-/
namespace Go.Proofs.YtkgpmkkodpjdfaaGreatDoor.Pz
open Go.RowKit
/-- the row of one text -/
theorem toks_one (Y : World) (x : Str) (ok : Nat → Prop) (h : ok Y.heap.size) : ToksIs 33 (Y.alloc (.cells #[.int .i64 1, .string ⟨x.toArray⟩, .bool false, .slice none 0 0] 33)) ok (.slice (some ⟨Y.heap.size, 0, none⟩) 1 1) [Tok.txt x] := by
  refine ⟨[[.int .i64 1, .string ⟨x.toArray⟩, .bool false, .slice none 0 0]], ?_, ?_, rfl, ?_⟩
  · exact ⟨rfl, .inr ⟨Y.heap.size, 1, _, rfl, Nat.zero_le _, new1 _ _, Nat.le_refl _, by decide, rfl, rfl⟩⟩
  · intro q hq
    have hq' : Y.heap.size = q := Option.some.inj hq
    rw [← hq']
    exact h
  · intro j h1 h2
    obtain rfl : j = 0 := by simp at h1; omega
    exact ⟨.mk 1 x false [] (.slice none 0 0) [] (World.ownsRow_nil _ _ _ _) (fun q hq => by simp [Value.ownBlock] at hq) rfl (fun i h1 => by simp at h1), rfl⟩
theorem word_alloc {rb : Nat} {s : Str} {d : Nat} {w X : World} {x : Wd} {r : Str} {e : Ending} (h : WordP rb s d w (.ok x r) e X) (o : Obj) : WordP rb s d w (.ok x r) e (X.alloc o) := by
  obtain ⟨v, he, h1, h2, h3⟩ := h
  refine ⟨v, he, h1.alloc o, h2.keep2 (fun _ h _ => h) (fun k cur _ hc => (Below.heap_alloc _ _ _ (Array.getElem?_eq_some_iff.1 hc).1).trans hc), h3.alloc h3.size o⟩
set_option maxRecDepth 100000 in
set_option maxHeartbeats 4000000 in
theorem braced_walk {wi : Bool} {d : Nat} {t : Str} (ihW : ∀ r, r.length < t.length → WordC wi d r) : BracedC wi d t := by
  intro w rb s i hs hd h hat
  have hlt := h.lt
  have hi := hat.lt
  obtain ⟨N, hN⟩ : ∃ N, N = w.heap.size := ⟨_, rfl⟩
  have HN := hid hN
  have HAT := hid hat
  obtain ⟨R, hR⟩ : ∃ R, R = word wi d (123 :: t) := ⟨_, rfl⟩
  rw [← hR]
  rw [word_brace] at hR
  have HR := hid hR
  obtain ⟨W, hW⟩ : ∃ W : World, W = w.alloc (.cells #[.bool false, .slice none 0 0] 49) := ⟨_, rfl⟩
  have hrd : RdAt W rb s i d all3 := by rw [hW]; exact h.alloc _
  have hres : W.heap[N]? = some (.cells #[.bool false, .slice none 0 0] 49 (0, 0)) := by rw [hW, hN]; exact new1 _ _
  have hsz : W.heap.size = N + 1 := by rw [hW, hN]; simp
  have hbut : But rb N w W := by rw [hW]; exact (But.refl rb N w).alloc (by omega) _
  have hc := brace_fn hrd hat hs
  obtain ⟨o, ho⟩ : ∃ o, o = brace 0 t := ⟨_, rfl⟩
  rw [← ho] at hc hR
  have HRO := hid hR
  have HO := hid ho
  rw [hW] at hc
  have HC := hid hc
  have HW := hid hW
  have hll := hat.len
  simp only [List.length_cons] at hll
  rw [← hN] at hlt
  clear hR HR hat h ho hc hW hN
  go_enter Tryz.func141, Tryz.ntmps141
  go_wp2_with fail
  (with_reducible refine HC.out.mono ?_); intro e w1 h1
  rw [← HW.out] at h1
  rw [← HN.out]
  cases o with
  | none =>
    obtain ⟨rfl, hst⟩ := h1
    refine ⟨rfl, ?_⟩
    rw [HRO.out]
    refine ⟨?_, by rw [← HN.out]; exact hbut.trans (hst.but N)⟩
    rw [stopOf, show s.length - (t.length + 1) = i by omega]
  | some qr =>
    obtain ⟨q, r⟩ := qr
    obtain ⟨rfl, hrd1, hst⟩ := h1
    have ht := brace_text t.length t (Nat.le_refl _) 0 q r HO.out.symm
    have hrl : r.length < t.length := by rw [ht]; simp; omega
    have hql : q.length ≤ t.length := by rw [ht]; simp
    have hsuf : r <:+ t := ⟨q ++ [125], by rw [ht]; simp⟩
    have hat1 : At s r (s.length - r.length) := HAT.out.tail.suf hsuf
    have hbut1 := hbut.trans (hst.but N)
    have hres1 := (hst.block N (by omega)).trans hres
    have hsz1 : w1.heap.size = N + 1 := by rw [hst.size, hsz]
    have HAT1 := hid hat1
    clear hbut hres hsz hst ht hsuf hrd hat1
    cases hen : ended wi r with
    | true =>
      have hRR : R = .ok ⟨false, [Tok.txt (joined false q)]⟩ r := by
        rw [HRO.out]
        show (if (q == [42] && !ended wi r) = true then _ else if ended wi r = true then Res.ok (⟨false, [Tok.txt (joined false q)]⟩ : Wd) r else _) = _
        rw [hen]
        simp
      have HRR := hid hRR
      have he := ended_fn hrd1 HAT1.out hs wi
      rw [hen] at he
      have HE := hid he
      clear hRR HRO he
      by_cases hq : q = [42]
      · subst hq
        go_wp2_with fail
        (with_reducible refine HE.out.mono ?_); rintro e8 w8 ⟨rfl, m, hw8⟩
        replace hrd1 := hrd1.drewN m
        replace hbut1 := hbut1.drewN m
        replace hres1 : (w1.drewN m).heap[N]? = _ := hres1
        replace hsz1 : (w1.drewN m).heap.size = N + 1 := hsz1
        rw [← hw8] at hrd1 hbut1 hres1 hsz1
        clear hw8
        obtain ⟨q, hq⟩ : ∃ q : Str, q = [42] := ⟨_, rfl⟩
        rw [← hq] at HRR hql
        have hqa : (⟨#[42]⟩ : ByteArray) = ⟨q.toArray⟩ := by rw [hq]
        rw [hqa]
        clear hqa hq
        have hcl := hid (closed_yes hrd1 HAT1.out hs hen)
        go_wp2_with fail
        (with_reducible refine hcl.out.mono ?_); rintro e9 w9 ⟨rfl, m2, rfl⟩
        have hrd2 := hrd1.drewN m2
        have hbut2 := hbut1.drewN m2
        have hres2 : (w8.drewN m2).heap[N]? = _ := hres1
        have hsz2 : (w8.drewN m2).heap.size = N + 1 := hsz1
        generalize w8.drewN m2 = X2 at *
        have hj := hid (joined_fn q (by omega) X2)
        go_wp2_with fail
        (with_reducible refine hj.out.mono ?_); rintro e9 Y ⟨rfl, hbY⟩
        have hrdY := hrd2.of (hbY.block rb (by omega))
        have hresY := (hbY.block N (by omega)).trans hres2
        have hbutY := hbut2.trans (but_of_below (hbY.mono (show N ≤ X2.heap.size by omega)) rb)
        have hszY := hbY.size
        have hlit := hid (literal_fn (joined false q) Y)
        go_wp2_with fail
        (with_reducible refine hlit.out.mono ?_); rintro e9 Z ⟨rfl, hZ⟩
        have hrdZ : RdAt Z rb s (s.length - r.length) d all3 := by rw [hZ]; exact hrdY.alloc _
        have hresZ : Z.heap[N]? = some (.cells #[.bool false, .slice none 0 0] 49 (0, 0)) := by rw [hZ]; exact (Below.heap_alloc _ _ _ (by omega)).trans hresY
        have hbutZ : But rb N w Z := by rw [hZ]; exact hbutY.alloc (by omega) _
        have htkZ : ToksIs 33 Z (fun g => N ≤ g ∧ g ≠ N) (.slice (some ⟨Y.heap.size, 0, none⟩) 1 1) [Tok.txt (joined false q)] := by rw [hZ]; exact toks_one Y _ _ ⟨by omega, by omega⟩
        have y0 : Z.cell? ⟨N, 0, none⟩ = some (.bool false) := by rw [Lib.cell_of_heap hresZ]; rfl
        have y1 : Z.cell? ⟨N, 1, none⟩ = some (.slice none 0 0) := by rw [Lib.cell_of_heap hresZ]; rfl
        have f0 : Z.frozen? ⟨N, 0, none⟩ = false := Lib.frozen_of_heap hresZ 0
        have f1 : Z.frozen? ⟨N, 1, none⟩ = false := Lib.frozen_of_heap hresZ 1
        have HZ := hid hrdZ
        clear hZ hrdZ
        go_wp2
        refine bodyPost_ret (v := .agg #[.bool false, .slice (some ⟨Y.heap.size, 0, none⟩) 1 1]) (by simp [results, Tryz.results141, go_sem, y0, y1]) rfl ?_
        rw [HRR.out]
        exact word_end (x := ⟨false, [Tok.txt (joined false q)]⟩) HZ.out hbutZ htkZ HN.out (Nat.le_refl N) (by omega) (by omega)
      · have hqb : (q == [42]) = false := by simpa using hq
        clear hq
        have hcl := hid (closed_yes hrd1 HAT1.out hs hen)
        go_wp2_with fail
        (with_reducible refine hcl.out.mono ?_); rintro e9 w9 ⟨rfl, m2, rfl⟩
        have hrd2 := hrd1.drewN m2
        have hbut2 := hbut1.drewN m2
        have hres2 : (w1.drewN m2).heap[N]? = _ := hres1
        have hsz2 : (w1.drewN m2).heap.size = N + 1 := hsz1
        generalize w1.drewN m2 = X2 at *
        have hj := hid (joined_fn q (by omega) X2)
        go_wp2_with fail
        (with_reducible refine hj.out.mono ?_); rintro e9 Y ⟨rfl, hbY⟩
        have hrdY := hrd2.of (hbY.block rb (by omega))
        have hresY := (hbY.block N (by omega)).trans hres2
        have hbutY := hbut2.trans (but_of_below (hbY.mono (show N ≤ X2.heap.size by omega)) rb)
        have hszY := hbY.size
        have hlit := hid (literal_fn (joined false q) Y)
        go_wp2_with fail
        (with_reducible refine hlit.out.mono ?_); rintro e9 Z ⟨rfl, hZ⟩
        have hrdZ : RdAt Z rb s (s.length - r.length) d all3 := by rw [hZ]; exact hrdY.alloc _
        have hresZ : Z.heap[N]? = some (.cells #[.bool false, .slice none 0 0] 49 (0, 0)) := by rw [hZ]; exact (Below.heap_alloc _ _ _ (by omega)).trans hresY
        have hbutZ : But rb N w Z := by rw [hZ]; exact hbutY.alloc (by omega) _
        have htkZ : ToksIs 33 Z (fun g => N ≤ g ∧ g ≠ N) (.slice (some ⟨Y.heap.size, 0, none⟩) 1 1) [Tok.txt (joined false q)] := by rw [hZ]; exact toks_one Y _ _ ⟨by omega, by omega⟩
        have y0 : Z.cell? ⟨N, 0, none⟩ = some (.bool false) := by rw [Lib.cell_of_heap hresZ]; rfl
        have y1 : Z.cell? ⟨N, 1, none⟩ = some (.slice none 0 0) := by rw [Lib.cell_of_heap hresZ]; rfl
        have f0 : Z.frozen? ⟨N, 0, none⟩ = false := Lib.frozen_of_heap hresZ 0
        have f1 : Z.frozen? ⟨N, 1, none⟩ = false := Lib.frozen_of_heap hresZ 1
        have HZ := hid hrdZ
        clear hZ hrdZ
        go_wp2
        refine bodyPost_ret (v := .agg #[.bool false, .slice (some ⟨Y.heap.size, 0, none⟩) 1 1]) (by simp [results, Tryz.results141, go_sem, y0, y1]) rfl ?_
        rw [HRR.out]
        exact word_end (x := ⟨false, [Tok.txt (joined false q)]⟩) HZ.out hbutZ htkZ HN.out (Nat.le_refl N) (by omega) (by omega)
    | false =>
      by_cases hq : q = [42]
      · subst hq
        have he := ended_fn hrd1 HAT1.out hs wi
        rw [hen] at he
        have HE := hid he
        have hw := ihW r hrl
        have hRR : R = match word wi d r with | .ok x r' => .ok ⟨true, x.toks⟩ r' | .halt h => .halt h := by
          rw [HRO.out]
          show (if (([42] : Str) == [42] && !ended wi r) = true then (match word wi d r with | .ok x r' => Res.ok (⟨true, x.toks⟩ : Wd) r' | .halt h => .halt h) else _) = _
          rw [hen]
          rfl
        obtain ⟨R2, hR2⟩ : ∃ R2, R2 = word wi d r := ⟨_, rfl⟩
        rw [← hR2] at hRR
        have HRR := hid hRR
        have HR2 := hid hR2
        have HEN := hid hen
        clear he HRO hRR hR2 hen
        go_wp2_with fail
        (with_reducible refine HE.out.mono ?_); rintro e8 w8 ⟨rfl, m, hw8⟩
        replace hrd1 := hrd1.drewN m
        replace hbut1 := hbut1.drewN m
        replace hres1 : (w1.drewN m).heap[N]? = _ := hres1
        replace hsz1 : (w1.drewN m).heap.size = N + 1 := hsz1
        rw [← hw8] at hrd1 hbut1 hres1 hsz1
        clear hw8
        have hne : r ≠ [] := by
          intro e
          have := HEN.out
          rw [e] at this
          cases wi <;> cases this
        have hc := hw w8 rb s (s.length - r.length) hs hd hrd1 HAT1.out hne
        rw [← HR2.out] at hc
        have HWC := hid hc
        clear hw hc
        go_wp2_with fail
        (with_reducible refine HWC.out.mono ?_); intro e9 w9 h9
        have hpb := word_but h9
        have hres9 := hpb.heap (by omega) (by omega) hres1
        have hbut9 := hbut1.trans (hpb.mono (by omega))
        have hsz9 := hpb.size
        rcases word_shape h9 with ⟨sp, a, n, cp, rfl⟩ | ⟨ch, rfl⟩
        · cases R2 with
          | halt hh => exact absurd h9.1 (by simp)
          | ok x r' =>
            obtain ⟨v, e, hrd9, htk9, _⟩ := h9
            simp only [Ending.returned.injEq, Value.agg.injEq, Array.mk.injEq, List.cons.injEq, Value.bool.injEq, and_true] at e
            obtain ⟨hsp, hv⟩ := e
            subst hv
            have HRD9 := hid hrd9
            have HTK9 := hid htk9
            have hNlt : N < w9.heap.size := by omega
            have y0 : w9.cell? ⟨N, 0, none⟩ = some (.bool false) := by rw [Lib.cell_of_heap hres9]; rfl
            have y1 : w9.cell? ⟨N, 1, none⟩ = some (.slice none 0 0) := by rw [Lib.cell_of_heap hres9]; rfl
            have f0 : w9.frozen? ⟨N, 0, none⟩ = false := Lib.frozen_of_heap hres9 0
            have f1 : w9.frozen? ⟨N, 1, none⟩ = false := Lib.frozen_of_heap hres9 1
            have HSZ9 := hid hsz9
            clear hrd9 htk9 hsp hpb hsz9
            go_wp2
            refine bodyPost_ret (v := .agg #[.bool true, .slice a n cp]) (by simp [results, Tryz.results141, go_sem, y0, y1, hNlt]) rfl ?_
            rw [HRR.out]
            refine word_alloc (word_end (x := ⟨true, x.toks⟩) HRD9.out hbut9 (HTK9.out.keep2 (fun k h _ => ?_) (fun _ _ _ h => h)) HN.out (Nat.le_refl N) (by omega) (by omega)) _
            have h' : w8.heap.size ≤ k := h
            constructor
            · omega
            · omega
        · refine ⟨rfl, ?_⟩
          cases R2 with
          | halt hh =>
            rw [HRR.out]
            exact ⟨h9.1, by rw [← HN.out]; exact hbut9⟩
          | ok x r' => obtain ⟨_, e, _⟩ := h9; cases e
      · have hqb : (q == [42]) = false := by simpa using hq
        have hcl := hid (closed_no hrd1 HAT1.out hs hen)
        have hRR : R = .halt (.wrong r.length) := by
          rw [HRO.out]
          show (if (q == [42] && !ended wi r) = true then _ else if ended wi r = true then _ else Res.halt (.wrong r.length)) = _
          rw [hqb, hen]
          rfl
        have HRR := hid hRR
        clear hRR HRO hen hq
        go_wp2_with fail
        (with_reducible refine hcl.out.mono ?_); rintro e9 w9 ⟨rfl, m2, rfl⟩
        refine ⟨rfl, ?_⟩
        rw [HRR.out]
        exact ⟨rfl, by rw [← HN.out]; exact hbut1.drewN m2⟩
end Go.Proofs.YtkgpmkkodpjdfaaGreatDoor.Pz
/-
  A command.
-/
namespace Go.Proofs.YtkgpmkkodpjdfaaGreatDoor.Pz
open Go.RowKit
theorem WdIs.keep2 {TE : TypeId} {w w' : World} {ok ok' : Nat → Prop} {cs : List Value} {x : Wd} (h : WdIs TE w ok cs x) (hk : ∀ g, ok g → g < w.heap.size → ok' g)
    (hh : ∀ g cur, ok g → w.heap[g]? = some (.cells cur TE (0, 0)) → w'.heap[g]? = some (.cells cur TE (0, 0))) : WdIs TE w' ok' cs x := by
  obtain ⟨v, rfl, h⟩ := h
  exact ⟨v, rfl, h.keep2 hk hh⟩
theorem WdsIs.keep2 {TE WE : TypeId} {w w' : World} {ok ok' : Nat → Prop} {v : Value} {ws : List Wd} (h : WdsIs TE WE w ok v ws) (hk : ∀ g, ok g → g < w.heap.size → ok' g)
    (hh : ∀ g cur, ok g → w.heap[g]? = some (.cells cur TE (0, 0)) → w'.heap[g]? = some (.cells cur TE (0, 0)))
    (hh2 : ∀ g cur, ok g → w.heap[g]? = some (.cells cur WE (0, 0)) → w'.heap[g]? = some (.cells cur WE (0, 0))) : WdsIs TE WE w' ok' v ws :=
  RowIs.keep2 h hk hh2 fun _ _ he => he.keep2 hk hh
theorem CmdIs.keep2 {TE WE : TypeId} {n : Nat} {w w' : World} {ok ok' : Nat → Prop} {cs : List Value} {c : Cmd} (h : CmdIs TE WE n w ok cs c) (hk : ∀ g, ok g → g < w.heap.size → ok' g)
    (hh : ∀ g cur, ok g → w.heap[g]? = some (.cells cur TE (0, 0)) → w'.heap[g]? = some (.cells cur TE (0, 0)))
    (hh2 : ∀ g cur, ok g → w.heap[g]? = some (.cells cur WE (0, 0)) → w'.heap[g]? = some (.cells cur WE (0, 0))) : CmdIs TE WE n w' ok' cs c := by
  obtain ⟨v, rfl, h⟩ := h
  exact ⟨v, rfl, h.keep2 hk hh hh2⟩
theorem CmdsIs.keep2 {TE WE CE : TypeId} {n : Nat} {w w' : World} {ok ok' : Nat → Prop} {v : Value} {cs : List Cmd} (h : CmdsIs TE WE CE n w ok v cs) (hk : ∀ g, ok g → g < w.heap.size → ok' g)
    (hh : ∀ g cur, ok g → w.heap[g]? = some (.cells cur TE (0, 0)) → w'.heap[g]? = some (.cells cur TE (0, 0)))
    (hh2 : ∀ g cur, ok g → w.heap[g]? = some (.cells cur WE (0, 0)) → w'.heap[g]? = some (.cells cur WE (0, 0)))
    (hh3 : ∀ g cur, ok g → w.heap[g]? = some (.cells cur CE (0, 0)) → w'.heap[g]? = some (.cells cur CE (0, 0))) : CmdsIs TE WE CE n w' ok' v cs :=
  RowIs.keep2 h hk hh3 fun _ _ he => he.keep2 hk hh hh2
/-- behind an append: the old words and one more -/
theorem wds_add {TE WE : TypeId} {w w2 : World} {N : Nat} {v' : Value} {ws : List Wd} {x : Wd} {cs : List Value} {css : List (List Value)} (hcl : css.length = ws.length)
    (hel : ∀ i (h1 : i < css.length) (h2 : i < ws.length), WdIs TE w (New N) css[i] ws[i] ∧ css[i].length = 2) (hx : WdIs TE w (New N) cs x) (hcs : cs.length = 2)
    (hrow : w2.ownsRow 0 WE 2 v' (ws.length + 1) (css.flatten ++ cs)) (hv' : ∀ g, v'.ownBlock = some g → N ≤ g)
    (hh : ∀ g cur, N ≤ g → w.heap[g]? = some (.cells cur TE (0, 0)) → w2.heap[g]? = some (.cells cur TE (0, 0))) : WdsIs TE WE w2 (New N) v' (ws ++ [x]) :=
  RowIs.snoc hrow hv' hcl (fun i h1 h2 => ⟨(hel i h1 h2).1.keep2 (fun _ h _ => h) hh, (hel i h1 h2).2⟩) (hx.keep2 (fun _ h _ => h) hh) hcs
/-- the loop puts words together from the left -/
def accW {α : Type} (us : List α) : Res (List α) → Res (List α)
  | .ok vs r => .ok (us ++ vs) r
  | .halt h => .halt h
theorem accW_nil {α : Type} (R : Res (List α)) : accW [] R = R := by cases R <;> rfl
theorem accW_cons {α : Type} (us : List α) (x : α) (R : Res (List α)) : accW us (R.cons x) = accW (us ++ [x]) R := by
  cases R with
  | halt h => rfl
  | ok vs r => show Res.ok _ r = Res.ok _ r; simp
theorem Tryz.infoWord : (Tryz.prog.info? 49).map (fun i => (i.zero, i.size, i.bytes)) = some (some (.agg #[.bool false, .slice none 0 0]), 2, 32) := by kernel_rfl
theorem Tryz.infoCmd : (Tryz.prog.info? 47).map (fun i => (i.zero, i.size, i.bytes)) = some (some (.agg #[.int .i64 0, .slice none 0 0]), 2, 32) := by kernel_rfl
/-- what holds at a round's head in 'command' -/
structure WInv (wi : Bool) (d : Nat) (s l : Str) (i rb N : Nat) (w wr : World) (l' : Str) (i' : Nat) (v : Value) (ws : List Wd) : Prop where
  rd : RdAt wr rb s i' d all3
  here : At s l' i'
  fresh : parted wi l' = false → ended wi l' = false
  blk : wr.heap[N + 1]? = some (.cells #[.int .i64 (i : Nat), v] 47 (0, 0))
  out : wr.heap[N]? = some (.cells #[.int .i64 0, .slice none 0 0] 47 (0, 0))
  row : WdsIs 33 49 wr (New N) v ws
  but : But rb N w wr
  res : accW ws (command wi d l') = command wi d l
  small : ws.length + l'.length ≤ l.length
theorem WInv.drewN {wi : Bool} {d : Nat} {s l : Str} {i rb N : Nat} {w wr : World} {l' : Str} {i' : Nat} {v : Value} {ws : List Wd} (h : WInv wi d s l i rb N w wr l' i' v ws) (n : Nat) : WInv wi d s l i rb N w (wr.drewN n) l' i' v ws :=
  ⟨h.rd.drewN n, h.here, h.fresh, h.blk, h.out, h.row.keep2 (fun _ h _ => h) (fun _ _ _ h => h) (fun _ _ _ h => h), h.but.drewN n, h.res, h.small⟩
theorem cells_ne {W : World} {g b : Nat} {cur cur' : Array Value} {T T' : TypeId} (h1 : W.heap[g]? = some (.cells cur T (0, 0))) (h2 : W.heap[b]? = some (.cells cur' T' (0, 0))) (hT : T ≠ T') : g ≠ b := by
  rintro rfl
  rw [h1] at h2
  simp only [Option.some.injEq, Obj.cells.injEq] at h2
  exact hT h2.2.1
/-- one word more -/
theorem WInv.next {wi : Bool} {d : Nat} {s l : Str} {i rb N : Nat} {w W0 W1 W3 : World} {l' : Str} {i' : Nat} {v : Value} {ws : List Wd} {css : List (List Value)} {x : Wd} {r : Str} {wv : Value} {g cap' : Nat} (hI : WInv wi d s l i rb N w W0 l' i' v ws) (hrb : rb < N)
    (hpl : parted wi l' = false) (hwr : word wi d l' = .ok x r) (hrd1 : RdAt W1 rb s (s.length - r.length) d all3) (htk : ToksIs 33 W1 (New W0.heap.size) wv x.toks) (hbut : But rb W0.heap.size W0.drew W1)
    (hrow : W0.ownsRow 0 49 2 v ws.length css.flatten) (hvb : ∀ g, v.ownBlock = some g → New N g) (hcl : css.length = ws.length) (hel : ∀ i (h1 : i < css.length) (h2 : i < ws.length), WdIs 33 W0 (New N) css[i] ws[i] ∧ css[i].length = 2)
    (hrow3 : W3.ownsRow 0 49 2 (.slice (some ⟨g, 0, none⟩) (ws.length + 1) cap') (ws.length + 1) (css.flatten ++ [.bool x.spread, wv])) (hg3 : (W1.alloc (.cells #[.bool x.spread, wv] 49)).grownBy W3 v.ownBlock) (hgc : v.ownBlock = some g ∨ g = W1.heap.size + 1) :
    RdAt (W3.setCell ⟨N + 1, 1, none⟩ (.slice (some ⟨g, 0, none⟩) (ws.length + 1) cap')) rb s (s.length - r.length) d all3 ∧ At s r (s.length - r.length) ∧ (blanks r).length + 1 ≤ l'.length ∧
      ∀ W5, RdAt W5 rb s (s.length - (blanks r).length) d all3 → Still rb (W3.setCell ⟨N + 1, 1, none⟩ (.slice (some ⟨g, 0, none⟩) (ws.length + 1) cap')) W5 →
        WInv wi d s l i rb N w W5 (blanks r) (s.length - (blanks r).length) (.slice (some ⟨g, 0, none⟩) (ws.length + 1) cap') (ws ++ [x]) := by
  obtain ⟨W4, hW4⟩ : ∃ W4, W4 = W3.setCell ⟨N + 1, 1, none⟩ (.slice (some ⟨g, 0, none⟩) (ws.length + 1) cap') := ⟨_, rfl⟩
  have hlt0 : N + 1 < W0.heap.size := (Array.getElem?_eq_some_iff.1 hI.blk).1
  have hsz1 : W0.heap.size ≤ W1.heap.size := hbut.size
  have e0 : W0.drew.heap = W0.heap := rfl
  have hown0 : ∀ q, v.ownBlock = some q → ∃ cur, W0.heap[q]? = some (.cells cur 49 (0, 0)) := fun q hq => (ownsRow_lt hrow q hq).2
  have hown1 : ∀ q, v.ownBlock = some q → ∃ cur, W1.heap[q]? = some (.cells cur 49 (0, 0)) := fun q hq => by
    obtain ⟨cur, hc⟩ := hown0 q hq
    have h1 : N ≤ q := hvb q hq
    exact ⟨cur, hbut.heap (Array.getElem?_eq_some_iff.1 hc).1 (by omega) hc⟩
  have hblk1 : W1.heap[N + 1]? = some (.cells #[.int .i64 (i : Nat), v] 47 (0, 0)) := hbut.heap hlt0 (by omega) hI.blk
  have hout1 : W1.heap[N]? = some (.cells #[.int .i64 0, .slice none 0 0] 47 (0, 0)) := hbut.heap (show N < W0.drew.heap.size by rw [e0]; omega) (by omega) hI.out
  have hne : ∀ q cur T, W1.heap[q]? = some (.cells cur T (0, 0)) → T ≠ 49 → some q ≠ v.ownBlock := by
    intro q cur T hq hT e
    obtain ⟨cur', hc⟩ := hown1 q e.symm
    exact cells_ne hq hc hT rfl
  have hfar : ∀ k, k < W1.heap.size → k ≠ N + 1 → some k ≠ v.ownBlock → W4.heap[k]? = W1.heap[k]? := by
    intro k h1 h2 h3
    rw [hW4, Below.heap_setCell _ _ _ _ (fun e => h2 e), hg3.block k (by simp; omega) h3, ((Below.refl W1.heap.size W1).alloc (Nat.le_refl _) _).block k h1]
  have hsz3 : W1.heap.size < W3.heap.size := by have := hg3.size; simp at this; omega
  have hblk4 : W4.heap[N + 1]? = some (.cells #[.int .i64 (i : Nat), .slice (some ⟨g, 0, none⟩) (ws.length + 1) cap'] 47 (0, 0)) := by
    have h3 : W3.heap[N + 1]? = some (.cells #[.int .i64 (i : Nat), v] 47 (0, 0)) := by
      rw [hg3.block (N + 1) (by simp; omega) (hne _ _ _ hblk1 (by decide)), ((Below.refl W1.heap.size W1).alloc (Nat.le_refl _) _).block (N + 1) (by omega)]
      exact hblk1
    rw [hW4]
    simp [World.setCell, Array.getElem?_modify, h3]
  have hgne : g ≠ N + 1 := by
    rcases hgc with h | h
    · obtain ⟨cur, hc⟩ := hown1 g h
      exact cells_ne hc hblk1 (by decide)
    · omega
  have hgN : N ≤ g := by
    rcases hgc with h | h
    · exact hvb g h
    · omega
  have hrd4 : RdAt W4 rb s (s.length - r.length) d all3 := (hfar rb hrd1.lt (by omega) (fun e => by have : N ≤ rb := hvb rb e.symm; omega)).trans hrd1
  have hwok := word_ok wi d l' (hI.fresh hpl) x r hwr
  have hat : At s r (s.length - r.length) := hI.here.suf hwok.1
  have hbl := suf_len (blanks_suf r)
  rw [← hW4]
  have hrow4 : WdsIs 33 49 W4 (New N) (.slice (some ⟨g, 0, none⟩) (ws.length + 1) cap') (ws ++ [x]) := by
    refine wds_add (w := W1) (css := css) (cs := [.bool x.spread, wv]) hcl (fun j h1 h2 => ⟨(hel j h1 h2).1.keep2 (fun _ h _ => h) (fun q cur hq hc => ?_), (hel j h1 h2).2⟩) ⟨wv, rfl, htk.keep2 (fun q hq _ => ?_) (fun _ _ _ h => h)⟩ rfl ?_ (fun q hq => ?_) (fun q cur hq hc => ?_)
    · have hq' : N ≤ q := hq
      exact hbut.heap (Array.getElem?_eq_some_iff.1 hc).1 (by omega) hc
    · have hq' : W0.heap.size ≤ q := hq
      show N ≤ q
      omega
    · refine ownsRow_heap2 hrow3 fun q cur hq hc => ?_
      have e := Option.some.inj hq
      rw [hW4, Below.heap_setCell _ _ _ _ (fun e' => hgne (e.trans e'))]
      exact hc
    · have e : g = q := Option.some.inj hq
      show N ≤ q
      omega
    · rw [hfar q (Array.getElem?_eq_some_iff.1 hc).1 (cells_ne hc hblk1 (by decide)) (hne _ _ _ hc (by decide))]
      exact hc
  have hbut4 : But rb N w W4 := by
    refine hI.but.drew.trans ⟨?_, ?_, ?_, ?_, fun k h1 h2 => ?_⟩
    · rw [hW4]; exact hg3.os.trans hbut.os
    · rw [hW4]; exact hg3.tape.trans hbut.tape
    · rw [hW4]; exact hg3.output.trans hbut.output
    · rw [hW4]; simp only [World.setCell, Array.size_modify]; rw [e0]; omega
    · rw [hfar k (by omega) (by omega) (fun e => by have : N ≤ k := hvb k e.symm; omega)]
      exact hbut.block k (by omega) h2
  have hres : accW (ws ++ [x]) (command wi d (blanks r)) = command wi d l := by
    rw [← hI.res, command_cons hpl (hI.fresh hpl), hwr]
    dsimp only
    rw [accW_cons]
  refine ⟨hrd4, hat, by omega, fun W5 h5 hst => ⟨h5, hat.suf (blanks_suf r), blanks_stop r wi, ?_, ?_, hrow4.keep2 (fun _ h _ => h) (fun q cur hq hc => ?_) (fun q cur hq hc => ?_), hbut4.trans (hst.but N), hres, ?_⟩⟩
  · rw [hst.block (N + 1) (by omega)]; exact hblk4
  · rw [hst.block N (by omega), hfar N (by omega) (by omega) (hne _ _ _ hout1 (by decide))]; exact hout1
  · have hq' : N ≤ q := hq
    rw [hst.block q (by omega)]; exact hc
  · have hq' : N ≤ q := hq
    rw [hst.block q (by omega)]; exact hc
  · have := hI.small
    simp
    omega
set_option maxRecDepth 100000 in
set_option maxHeartbeats 4000000 in
theorem command_walk {wi : Bool} {d : Nat} {l : Str} (ihW : ∀ l', l'.length ≤ l.length → WordC wi d l') : CmdC wi d l := by
  intro w rb s i hs hd h hat hfr
  obtain ⟨i0, hi0, hz0, hz1, hz2⟩ := info_parts Tryz.infoWord
  have hlt := h.lt
  have hlt1 : rb < w.heap.size + 1 := by omega
  obtain ⟨c0, c1, _⟩ := h.cells
  obtain ⟨N, hN⟩ : ∃ N, N = w.heap.size := ⟨_, rfl⟩
  have HN := hid hN
  obtain ⟨R, hR⟩ : ∃ R, R = command wi d l := ⟨_, rfl⟩
  rw [← hR]
  have HR := hid hR
  have hll := hat.len
  have HH := hid (And.intro h (And.intro hat hfr))
  clear hR hN h hat hfr
  go_enter Tryz.func84, Tryz.ntmps84
  go_wp2
  rw [← HN.out]
  go_loopg [] (l.length + 1) (fun n wr => ∃ l' i' v ws, n = l'.length + 1 ∧ WInv wi d s l i rb N w wr l' i' v ws)
  case atStart =>
    refine ⟨l, i, .slice none 0 0, [], rfl, ?_⟩
    obtain ⟨h, hat, hfr⟩ := HH.out
    obtain ⟨q1, q2⟩ := new2 w (.cells #[.int .i64 0, .slice none 0 0] 47) (.cells #[.int .i64 (i : Nat), .slice none 0 0] 47)
    refine ⟨(h.alloc _).alloc _, hat, hfr, by rw [HN.out]; exact q2, by rw [HN.out]; exact q1, RowIs.nil, ?_, accW_nil _, by simp⟩
    exact ((But.refl rb N w).alloc (by rw [HN.out]; exact Nat.le_refl _) _).alloc (by simp; rw [HN.out]; omega) _
  case round =>
    rw [← HN.out] at hlt hlt1
    obtain ⟨l', i', v, ws, rfl, hI⟩ := hrel
    have hp := parted_fn hI.rd hI.here hs wi
    have hI' := fun m => hI.drewN m
    obtain ⟨a, cap, rfl⟩ : ∃ a cap, v = .slice a ws.length cap := by
      obtain ⟨a, cap, hv, _⟩ := RowIs.cell hI.row
      exact ⟨a, cap, hv⟩
    clear hI c0 c1
    cases hpl : parted wi l' with
    | true =>
      rw [hpl] at hp
      have HP := hid hp
      have HPL := hid hpl
      clear hp hpl
      go_wp2_with fail
      (with_reducible refine HP.out.mono ?_); rintro e W0 ⟨rfl, m, hW0⟩
      have hI := hI' m
      rw [← hW0] at hI
      clear hW0 hI' HP
      have y0 : W0.cell? ⟨N, 0, none⟩ = some (.int .i64 0) := by rw [Lib.cell_of_heap hI.out]; rfl
      have y1 : W0.cell? ⟨N, 1, none⟩ = some (.slice none 0 0) := by rw [Lib.cell_of_heap hI.out]; rfl
      have f0 : W0.frozen? ⟨N, 0, none⟩ = false := Lib.frozen_of_heap hI.out 0
      have f1 : W0.frozen? ⟨N, 1, none⟩ = false := Lib.frozen_of_heap hI.out 1
      have k0 : W0.cell? ⟨N + 1, 0, none⟩ = some (.int .i64 (i : Nat)) := by rw [Lib.cell_of_heap hI.blk]; rfl
      have k1 : W0.cell? ⟨N + 1, 1, none⟩ = some (.slice a ws.length cap) := by rw [Lib.cell_of_heap hI.blk]; rfl
      have HI := hid hI
      clear hI
      go_wp2
      refine bodyPost_ret (v := .agg #[.int .i64 (i : Nat), .slice a ws.length cap]) (by simp [results, Tryz.results84, go_sem, y0, y1]) rfl ?_
      have hI := HI.out
      have hres := hI.res
      rw [command_end HPL.out, ← HR.out] at hres
      have hRR : R = .ok ws l' := by rw [← hres]; show Res.ok (ws ++ []) l' = _; simp
      rw [hRR]
      have hei : s.length - l'.length = i' := by have := hI.here.len; omega
      obtain ⟨q1, q2, q3⟩ := put2 hI.rd hI.but (Nat.le_refl N) (by omega) (.int .i64 (i : Nat)) (.slice a ws.length cap)
      refine ⟨_, rfl, by rw [hei]; exact q1, ?_, by rw [← HN.out]; exact q2⟩
      rw [← HN.out]
      have hne : ∀ (g : Nat) (cur : Array Value) (T : TypeId), W0.heap[g]? = some (.cells cur T (0, 0)) → T ≠ 47 → g ≠ N := by
        rintro g cur T hg hT rfl
        rw [hI.out] at hg
        simp only [Option.some.injEq, Obj.cells.injEq] at hg
        exact hT hg.2.1.symm
      refine hI.row.keep2 (fun _ h _ => h) (fun g cur _ hc => ?_) (fun g cur _ hc => ?_)
      · rw [q3 g (hne g cur _ hc (by decide))]; exact hc
      · rw [q3 g (hne g cur _ hc (by decide))]; exact hc
    | false =>
      rw [hpl] at hp
      have HP := hid hp
      have HPL := hid hpl
      clear hp hpl
      go_wp2_with fail
      (with_reducible refine HP.out.mono ?_); rintro e W0 ⟨rfl, m, hW0⟩
      have hI := hI' m
      rw [← hW0] at hI
      clear hW0 hI' HP
      have hne : l' ≠ [] := by
        intro e
        have := HPL.out
        rw [e] at this
        cases this
      have hw := ihW l' (by have := hI.small; omega) W0.drew rb s i' hs hd (hI.rd.drewN 1) hI.here hne
      have HW := hid hw
      have k0 : W0.cell? ⟨N + 1, 0, none⟩ = some (.int .i64 (i : Nat)) := by rw [Lib.cell_of_heap hI.blk]; rfl
      have k1 : W0.cell? ⟨N + 1, 1, none⟩ = some (.slice a ws.length cap) := by rw [Lib.cell_of_heap hI.blk]; rfl
      have HI := hid hI
      clear hI hw
      go_wp2
      refine U_begin (late := fun i => decide (6 ≤ i)) (S := fun u => u.cell? ⟨N + 1, 1, none⟩ = some (.slice a ws.length cap)) (by kernel_rfl) ?_
      have S0 : Hid ((fun u => u.cell? ⟨N + 1, 1, none⟩ = some (.slice a ws.length cap)) W0.drew) := hid (by go_simp)
      refine U_take2 6 (i := 0) (v := .pointer (some ⟨N + 1, 1, none⟩)) rfl (by kernel_rfl) (by kernel_rfl) (by kernel_rfl) (by kernel_rfl) (by kernel_rfl) (fun _ _ _ h => h) (.inl ⟨rfl, fun u hu => (by go_simp)⟩) S0.out ?_
      refine U_take2 6 (i := 1) (v := .slice a ws.length cap) rfl (by kernel_rfl) (by kernel_rfl) (by kernel_rfl) (by kernel_rfl) (by kernel_rfl) (fun _ _ _ h => h) (.inl ⟨rfl, fun u hu => (by go_simp)⟩) S0.out ?_
      refine U_take2 6 (i := 2) (v := .pointer (some ⟨rb, 0, none⟩)) rfl (by kernel_rfl) (by kernel_rfl) (by kernel_rfl) (by kernel_rfl) (by kernel_rfl) (fun _ _ _ h => h) (.inl ⟨rfl, fun u hu => (by go_simp)⟩) S0.out ?_
      refine U_take2 6 (i := 3) (v := .bool wi) rfl (by kernel_rfl) (by kernel_rfl) (by kernel_rfl) (by kernel_rfl) (by kernel_rfl) (fun _ _ _ h => h) (.inl ⟨rfl, fun u hu => (by go_simp)⟩) S0.out ?_
      refine U_step (j := 4) (by kernel_rfl) rfl (fun K hK => ?_)
      go_simp
      (with_reducible refine HW.out.mono ?_); intro e W1 h1
      have hpb := word_but h1
      have hszW : W0.drew.heap.size = W0.heap.size := rfl
      rw [hszW] at hpb
      have hNW : N + 1 < W0.heap.size := (Array.getElem?_eq_some_iff.1 HI.out.blk).1
      rcases word_shape h1 with ⟨sp, wa, wn, wc, rfl⟩ | ⟨ch, rfl⟩
      · obtain ⟨x, r, hwr, hsp, hrd1, htk⟩ : ∃ x r, word wi d l' = .ok x r ∧ sp = x.spread ∧ RdAt W1 rb s (s.length - r.length) d all3 ∧ ToksIs 33 W1 (New W0.heap.size) (.slice wa wn wc) x.toks := by
          unfold WordP at h1
          cases hwo : word wi d l' with
          | halt hh => rw [hwo] at h1; cases h1.1
          | ok x r =>
            rw [hwo] at h1
            obtain ⟨v, e, q1, q2, q3⟩ := h1
            simp only [Ending.returned.injEq, Value.agg.injEq, Array.mk.injEq, List.cons.injEq, Value.bool.injEq, and_true] at e
            obtain ⟨e1, rfl⟩ := e
            exact ⟨x, r, rfl, e1, q1, q2⟩
        subst hsp
        clear h1
        have hblk1 := hpb.heap hNW (by omega) HI.out.blk
        refine hK.out _ _ (.inr (by rw [Lib.cell_of_heap hblk1]; rfl)) ?_
        clear hK K
        refine U_step (j := 5) (by kernel_rfl) rfl (fun K hK => ?_)
        go_simp
        obtain ⟨css, hrow, hrb, hcl, hel⟩ := HI.out.row
        have b2 : Below W1.heap.size W1 (W1.alloc (.cells #[.bool x.spread, .slice wa wn wc] 49)) := (Below.refl _ _).alloc (Nat.le_refl _) _
        have hr2 : (W1.alloc (.cells #[.bool x.spread, .slice wa wn wc] 49)).ownsRow 0 49 2 (.slice a ws.length cap) ws.length css.flatten := by
          refine ownsRow_heap2 hrow fun q cur hq hc => ?_
          have h1 : N ≤ q := hrb q hq
          have h2 := hpb.heap (Array.getElem?_eq_some_iff.1 hc).1 (by omega) hc
          exact (b2.block q (Array.getElem?_eq_some_iff.1 h2).1).trans h2
        have hblk2 := (b2.block (N + 1) (Array.getElem?_eq_some_iff.1 hblk1).1).trans hblk1
        have hnew := new1 W1 (.cells #[.bool x.spread, .slice wa wn wc] 49)
        have hsz2 : (W1.alloc (.cells #[.bool x.spread, .slice wa wn wc] 49)).heap.size = W1.heap.size + 1 := by simp
        have hsm := HI.out.small
        have hll1 := HI.out.here.len
        refine hK.out _ _ (.inr (by rw [Lib.cell_of_heap hblk2]; rfl)) ?_
        clear hK K
        refine U_step (j := 6) (by kernel_rfl) rfl (fun K hK => ?_)
        refine step_append_lies _ rfl (.tmp 16) (.tmp 20) 45 rfl 0 49 i0 (.agg #[.bool false, .slice none 0 0]) 2 32 Tryz.underlying45 hi0 hz0 hz1 hz2 rfl (by decide) _ ws.length css.flatten (by rfl) hr2 ⟨W1.heap.size, 0, none⟩ 1 1 [.bool x.spread, .slice wa wn wc] (by rfl) rfl (World.news_of_block hnew) (by intro u hu; simp at hu; rcases hu with rfl | rfl <;> rfl) (by decide) (by unfold maxLen; omega) (by omega) (Nat.zero_le _) (W1.heap.size + 1) hsz2 ?_
        intro g cap' W3 hrow3 hg3 hgc hglt
        refine hK.out _ _ (.inl rfl) ?_
        clear hK K
        refine U_then (by kernel_rfl) ?_
        refine U_take (i := 7) (v := .pointer (some ⟨N + 1, 1, none⟩)) rfl (by kernel_rfl) (by kernel_rfl) (by kernel_rfl) (by kernel_rfl) (by kernel_rfl) (fun _ _ _ h => h) (.inl ⟨rfl, fun u hu => (by go_simp)⟩) trivial ?_
        refine U_step (j := 8) (by kernel_rfl) rfl (fun K hK => ?_)
        have hown : (Value.slice a ws.length cap).ownBlock ≠ some (N + 1) := by
          intro e
          obtain ⟨cur, hc⟩ := (ownsRow_lt hr2 _ e).2
          exact cells_ne hc hblk2 (by decide) rfl
        have hblk3 := (hg3.block (N + 1) (Array.getElem?_eq_some_iff.1 hblk2).1 (fun e => hown e.symm)).trans hblk2
        have s1 : W3.cell? ⟨N + 1, 1, none⟩ = some (.slice a ws.length cap) := by rw [Lib.cell_of_heap hblk3]; rfl
        have s2 : W3.frozen? ⟨N + 1, 1, none⟩ = false := Lib.frozen_of_heap hblk3 1
        go_simp
        refine hK.out _ _ (.inr trivial) ?_
        clear hK K
        refine U_done (by kernel_rfl) ?_ _
        have hn := HI.out.next hlt HPL.out hwr hrd1 htk hpb hrow hrb hcl hel hrow3 hg3 hgc
        obtain ⟨hrd4, hat4, hsm4, hnx⟩ := hn
        have HNX := hid hnx
        clear hnx hrow3 hg3 hgc hglt hown hblk3 s1 s2 hr2 hblk2 hnew hsz2 hrow hrb hcl hel htk hrd1 hwr hblk1 b2 hpb HW k0 k1 S0
        obtain ⟨W4, hW4⟩ : ∃ W4, W4 = W3.setCell ⟨N + 1, 1, none⟩ (.slice (some ⟨g, 0, none⟩) (ws.length + 1) cap') := ⟨_, rfl⟩
        rw [← hW4] at hrd4 HNX ⊢
        clear hW4
        have hbk := hid (blanks_fn hrd4 hat4 hs)
        go_wp2_with fail
        (with_reducible refine hbk.out.mono ?_); rintro e W5 ⟨rfl, hrd5, hst⟩
        have HN5 := hid (HNX.out W5 hrd5 hst)
        go_wp2
        go_roundg ((blanks r).length + 1)
        case measure => simp; omega
        case rel => exact ⟨_, _, _, _, rfl, HN5.out⟩
      · have hres := HI.out.res
        rw [← HR.out] at hres
        obtain ⟨hh, hwr, rfl⟩ : ∃ hh, word wi d l' = .halt hh ∧ ch = stopOf s hh := by
          unfold WordP at h1
          cases hwo : word wi d l' with
          | halt hh => rw [hwo] at h1; exact ⟨hh, rfl, by simpa using h1.1⟩
          | ok x r => rw [hwo] at h1; obtain ⟨_, e, _⟩ := h1; cases e
        have hRR : R = .halt hh := by
          rw [← hres, command_cons HPL.out (HI.out.fresh HPL.out), hwr]
          rfl
        rw [hRR]
        refine ⟨rfl, rfl, ?_⟩
        rw [← HN.out]
        exact HI.out.but.drew.trans (hpb.mono (show N ≤ W0.heap.size by omega))
end Go.Proofs.YtkgpmkkodpjdfaaGreatDoor.Pz
/-
  The commands of a script.
-/
namespace Go.Proofs.YtkgpmkkodpjdfaaGreatDoor.Pz
open Go.RowKit
/-- what holds at a round's head in 'commands' -/
structure CInv (wi : Bool) (d : Nat) (s l : Str) (rb N : Nat) (w wr : World) (l' : Str) (i' : Nat) (v : Value) (cs : List Cmd) : Prop where
  rd : RdAt wr rb s i' d all3
  here : At s l' i'
  row : CmdsIs 33 49 47 s.length wr (New N) v cs
  but : But rb N w wr
  res : accW cs (commands wi d l') = commands wi d l
  small : cs.length + l'.length ≤ l.length
theorem CInv.drewN {wi : Bool} {d : Nat} {s l : Str} {rb N : Nat} {w wr : World} {l' : Str} {i' : Nat} {v : Value} {cs : List Cmd} (h : CInv wi d s l rb N w wr l' i' v cs) (n : Nat) : CInv wi d s l rb N w (wr.drewN n) l' i' v cs :=
  ⟨h.rd.drewN n, h.here, h.row.keep2 (fun _ h _ => h) (fun _ _ _ h => h) (fun _ _ _ h => h) (fun _ _ _ h => h), h.but.drewN n, h.res, h.small⟩
/-- the reader went on; the rest stands -/
theorem CInv.still {wi : Bool} {d : Nat} {s l : Str} {rb N : Nat} {w wr W : World} {l' l2 : Str} {i' i2 : Nat} {v : Value} {cs : List Cmd} (h : CInv wi d s l rb N w wr l' i' v cs) (hrb : rb < N) (hst : Still rb wr W) (hrd : RdAt W rb s i2 d all3) (hat : At s l2 i2)
    (hres : commands wi d l2 = commands wi d l') (hl : l2.length ≤ l'.length) : CInv wi d s l rb N w W l2 i2 v cs := by
  have hk : ∀ g, New N g → W.heap[g]? = wr.heap[g]? := fun g hg => hst.block g (by have : N ≤ g := hg; omega)
  refine ⟨hrd, hat, h.row.keep (fun _ h => h) hk, h.but.trans (hst.but N), by rw [hres]; exact h.res, by have := h.small; omega⟩
/-- one command more -/
theorem CInv.next {wi : Bool} {d : Nat} {s l : Str} {rb N : Nat} {w W0 W1 W3 : World} {l' : Str} {i' : Nat} {v : Value} {cs : List Cmd} {css : List (List Value)} {ws : List Wd} {r : Str} {wv : Value} {g cap' : Nat} (hI : CInv wi d s l rb N w W0 l' i' v cs) (hrb : rb < N) (hNW : N ≤ W0.heap.size)
    (hat : At s r (s.length - r.length)) (hres : commands wi d l' = (commands wi d r).cons ⟨l'.length, ws⟩) (hrl : r.length < l'.length) (hrd1 : RdAt W1 rb s (s.length - r.length) d all3)
    (htk : WdsIs 33 49 W1 (New W0.heap.size) wv ws) (hbut : But rb W0.heap.size W0 W1)
    (hrow : W0.ownsRow 0 47 2 v cs.length css.flatten) (hvb : ∀ g, v.ownBlock = some g → New N g) (hcl : css.length = cs.length) (hel : ∀ i (h1 : i < css.length) (h2 : i < cs.length), CmdIs 33 49 s.length W0 (New N) css[i] cs[i] ∧ css[i].length = 2)
    (hrow3 : W3.ownsRow 0 47 2 (.slice (some ⟨g, 0, none⟩) (cs.length + 1) cap') (cs.length + 1) (css.flatten ++ [.int .i64 (i' : Nat), wv])) (hg3 : (W1.alloc (.cells #[.int .i64 (i' : Nat), wv] 47)).grownBy W3 v.ownBlock) (hgc : v.ownBlock = some g ∨ g = W1.heap.size + 1) :
    CInv wi d s l rb N w W3 r (s.length - r.length) (.slice (some ⟨g, 0, none⟩) (cs.length + 1) cap') (cs ++ [⟨l'.length, ws⟩]) := by
  have hsz1 : W0.heap.size ≤ W1.heap.size := hbut.size
  have hown1 : ∀ q, v.ownBlock = some q → ∃ cur, W1.heap[q]? = some (.cells cur 47 (0, 0)) := fun q hq => by
    obtain ⟨cur, hc⟩ := (ownsRow_lt hrow q hq).2
    have h1 : N ≤ q := hvb q hq
    exact ⟨cur, hbut.heap (Array.getElem?_eq_some_iff.1 hc).1 (by omega) hc⟩
  have hne : ∀ q cur T, W1.heap[q]? = some (.cells cur T (0, 0)) → T ≠ 47 → some q ≠ v.ownBlock := by
    intro q cur T hq hT e
    obtain ⟨cur', hc⟩ := hown1 q e.symm
    exact cells_ne hq hc hT rfl
  have hfar : ∀ k, k < W1.heap.size → some k ≠ v.ownBlock → W3.heap[k]? = W1.heap[k]? := by
    intro k h1 h3
    rw [hg3.block k (by simp; omega) h3, ((Below.refl W1.heap.size W1).alloc (Nat.le_refl _) _).block k h1]
  have hsz3 : W1.heap.size < W3.heap.size := by have := hg3.size; simp at this; omega
  have hgN : N ≤ g := by
    rcases hgc with h | h
    · exact hvb g h
    · omega
  have hlen := hI.here.len
  refine ⟨(hfar rb hrd1.lt (fun e => by have : N ≤ rb := hvb rb e.symm; omega)).trans hrd1, hat, ?_, ?_, ?_, ?_⟩
  · refine RowIs.snoc (css := css) (cs := [.int .i64 (i' : Nat), wv]) hrow3 (fun q hq => ?_) hcl (fun j h1 h2 => ⟨(hel j h1 h2).1.keep2 (fun _ h _ => h) (fun q cur hq hc => ?_) (fun q cur hq hc => ?_), (hel j h1 h2).2⟩) ⟨wv, ?_, htk.keep2 (fun q hq _ => ?_) (fun q cur _ hc => ?_) (fun q cur _ hc => ?_)⟩ rfl
    · have e : g = q := Option.some.inj hq
      show N ≤ q
      omega
    · have hq' : N ≤ q := hq
      have h1 := hbut.heap (Array.getElem?_eq_some_iff.1 hc).1 (by omega) hc
      rw [hfar q (Array.getElem?_eq_some_iff.1 h1).1 (hne _ _ _ h1 (by decide))]
      exact h1
    · have hq' : N ≤ q := hq
      have h1 := hbut.heap (Array.getElem?_eq_some_iff.1 hc).1 (by omega) hc
      rw [hfar q (Array.getElem?_eq_some_iff.1 h1).1 (hne _ _ _ h1 (by decide))]
      exact h1
    · have e : ((s.length : Int) - (l'.length : Int)) = ((i' : Nat) : Int) := by omega
      show _ = [Value.int .i64 ((s.length : Int) - (l'.length : Int)), wv]
      rw [e]
    · have hq' : W0.heap.size ≤ q := hq
      show N ≤ q
      omega
    · rw [hfar q (Array.getElem?_eq_some_iff.1 hc).1 (hne _ _ _ hc (by decide))]
      exact hc
    · rw [hfar q (Array.getElem?_eq_some_iff.1 hc).1 (hne _ _ _ hc (by decide))]
      exact hc
  · refine hI.but.trans ⟨hg3.os.trans hbut.os, hg3.tape.trans hbut.tape, hg3.output.trans hbut.output, by omega, fun k h1 h2 => ?_⟩
    rw [hfar k (by omega) (fun e => by have : N ≤ k := hvb k e.symm; omega)]
    exact hbut.block k (by omega) h2
  · rw [← hI.res, hres, accW_cons]
  · have := hI.small
    simp
    omega
theorem blanks_twice : ∀ (l : Str), blanks (blanks l) = blanks l
  | [] => rfl
  | [c] => by
    by_cases h : (c != 10 && white c) = true
    · rw [blanks, if_pos h]; rfl
    · rw [blanks, if_neg h, blanks, if_neg h]
  | c :: d :: t => by
    by_cases h1 : (c == 92 && d == 10) = true
    · rw [blanks, if_pos h1]; exact blanks_twice t
    · by_cases h2 : (c != 10 && white c) = true
      · rw [blanks, if_neg h1, if_pos h2]; exact blanks_twice (d :: t)
      · rw [blanks, if_neg h1, if_neg h2, blanks, if_neg h1, if_neg h2]
theorem cmds_end {wi : Bool} {d : Nat} {s l : Str} {rb N : Nat} {w W : World} {l' : Str} {i' : Nat} {v : Value} {cs : List Cmd} {R : Res (List Cmd)} (hI : CInv wi d s l rb N w W l' i' v cs) (he : commands wi d l' = .ok [] l') (hN : N = w.heap.size) (hR : R = commands wi d l) (n : Nat) : CmdsP rb s d w R (.returned v) (W.drewN n) := by
  have hI := hI.drewN n
  have h := hI.res
  rw [he, ← hR] at h
  rw [← h]
  have hl := hI.here.len
  have e : s.length - l'.length = i' := by omega
  refine ⟨v, rfl, by rw [e]; exact hI.rd, ?_, by rw [← hN]; exact hI.but⟩
  rw [← hN, List.append_nil]
  exact hI.row
set_option maxRecDepth 100000 in
set_option maxHeartbeats 4000000 in
theorem commands_walk {wi : Bool} {d : Nat} {l : Str} (ihC : ∀ l', l'.length ≤ l.length → CmdC wi d l') : CmdsC wi d l := by
  intro w rb s i hs hd h hat
  obtain ⟨i0, hi0, hz0, hz1, hz2⟩ := info_parts Tryz.infoCmd
  have hlt := h.lt
  obtain ⟨N, hN⟩ : ∃ N, N = w.heap.size := ⟨_, rfl⟩
  have HN := hid hN
  obtain ⟨R, hR⟩ : ∃ R, R = commands wi d l := ⟨_, rfl⟩
  rw [← hR]
  have HR := hid hR
  have hll := hat.len
  have hI0 : CInv wi d s l rb N w w l i (.slice none 0 0) [] := ⟨h, hat, RowIs.nil, But.refl _ _ _, accW_nil _, by simp⟩
  have HI0 := hid hI0
  have hszs : (⟨s.toArray⟩ : ByteArray).size = s.length := Lib.size_mk _
  rw [← hN] at hlt
  clear hR hN h hat hI0
  go_enter Tryz.func50, Tryz.ntmps50
  go_wp2
  go_step3
  go_wp2
  go_step3
  go_wp2
  go_loopg [5] (l.length + 1) (fun n v wr => ∃ l' i' cs, n = l'.length + 1 ∧ CInv wi d s l rb N w wr l' i' v cs)
  case atStart => exact ⟨l, i, [], rfl, HI0.out⟩
  case round =>
    obtain ⟨l', i', cs, rfl, hI⟩ := hrel
    have hbk := hid (blanks_fn hI.rd hI.here hs)
    have HI := hid hI
    clear hI
    go_wp2_with fail
    (with_reducible refine hbk.out.mono ?_); rintro e W0 ⟨rfl, hrd, hst⟩
    have hbs := blanks_suf l'
    have hat0 : At s (blanks l') (s.length - (blanks l').length) := HI.out.here.suf hbs
    have hst0 := blanks_stop l' wi
    have hle := suf_len hbs
    have hcq := commands_eq wi d (blanks l')
    have hcq1 := commands_eq wi d l'
    rw [blanks_twice] at hcq
    have hI := HI.out.still hlt hst hrd hat0 (hcq.trans hcq1.symm) hle
    obtain ⟨b, hb⟩ : ∃ b, b = blanks l' := ⟨_, rfl⟩
    obtain ⟨i2, hi2⟩ : ∃ i2, i2 = s.length - (blanks l').length := ⟨_, rfl⟩
    rw [← hi2] at hI hrd hat0
    rw [← hb] at hI hst0 hat0 hcq hle
    clear hi2 hb hbs hcq1 hst HI
    have hp : ∀ n, Calls Tryz.prog 82 #[.pointer (some ⟨rb, 0, none⟩), .bool wi] (W0.drewN n) fun e w' => e = .returned (.bool (parted wi b)) ∧ ∃ m, w' = (W0.drewN n).drewN m := fun n => parted_fn (hrd.drewN n) hat0 hs wi
    have he : ∀ n, Calls Tryz.prog 32 #[.pointer (some ⟨rb, 0, none⟩)] (W0.drewN n) fun e w' => e = .returned (.bool (decide (s.length ≤ i2))) ∧ ∃ m, w' = (W0.drewN n).drewN m := fun n => end_fn (hrd.drewN n)
    obtain ⟨c0, c1, _⟩ := hrd.cells
    have z1 := hrd.free 1
    cases b with
    | nil =>
      have hge : s.length ≤ i2 := hat0.nil_iff.1 rfl
      rw [decide_eq_true hge] at he
      have HE := hid he
      have HI := hid hI
      clear he hp hcq hst0 hI
      go_wp2
      go_quiet ((go_at_call 32; exact Calls.quiet_of (HE.out _)))
      go_wp2
      rw [Exit.noGoto_ret]
      go_ret
      exact cmds_end HI.out (by rw [commands_eq]; rfl) HN.out HR.out _
    | cons c t =>
      have hlt2 := hat0.lt
      have hx := hat0.byte
      rw [decide_eq_false (by omega)] at he
      have HE := hid he
      have HI := hid hI
      have HCQ := hid hcq
      have HP := hid hp
      have HST := hid hst0
      clear he hI hcq hp hst0
      by_cases hin : wi = true ∧ c = 93
      · obtain ⟨rfl, rfl⟩ := hin
        go_wp2
        go_quiet ((go_at_call 32; exact Calls.quiet_of (HE.out _)))
        go_wp2
        rw [Exit.noGoto_ret]
        go_ret
        exact cmds_end HI.out (by rw [HCQ.out]; rfl) HN.out HR.out _
      cases wi with
      | false =>
        have hin0 : ¬ (false && c == 93) = true := by first | (simp; done) | simpa using hin
        have hcq := HCQ.out
        dsimp only at hcq
        rw [if_neg hin0] at hcq
        have HCQ2 := hid hcq
        clear hcq HCQ hin hin0
        go_wp2
        go_quiet ((go_at_call 32; exact Calls.quiet_of (HE.out _)))
        cases hpl : parted false (c :: t) with
        | true =>
          have hp := fun n => HP.out n
          rw [hpl] at hp
          have HP2 := hid hp
          have hcq := HCQ2.out
          rw [if_pos hpl] at hcq
          clear hp HP
          go_wp2_with fail
          (with_reducible refine (HP2.out _).mono ?_); rintro e W1 ⟨rfl, m, hW1⟩
          rw [World.drewN_drewN] at hW1
          subst hW1
          go_wp2
          go_roundg (t.length + 1)
          case measure => simp at hle ⊢; omega
          case rel => exact ⟨t, i2 + 1, cs, rfl, (HI.out.drewN _).still hlt ((Still.refl rb _).set 1 _) ((hrd.drewN _).go (by simp)) hat0.tail hcq.symm (by simp)⟩
        | false =>
          have hp := fun n => HP.out n
          rw [hpl] at hp
          have HP2 := hid hp
          have hcq := HCQ2.out
          rw [if_neg (by rw [hpl]; simp)] at hcq
          have HCQ3 := hid hcq
          have hst1 := HST.out hpl
          have HST1 := hid hst1
          have HPL := hid hpl
          clear hp HP hcq HCQ2 hst1 HST hpl
          go_wp2_with fail
          (with_reducible refine (HP2.out _).mono ?_); rintro e W1 ⟨rfl, m, hW1⟩
          rw [World.drewN_drewN] at hW1
          subst hW1
          by_cases h35 : c = 35
          · subst h35
            have hcq := HCQ3.out
            rw [if_pos (by decide)] at hcq
            have HC := hid (fun n => comment_fn (hrd.drewN n) hat0 hs)
            go_wp2
            go_quiet (fail)
            go_wp2_with fail
            (with_reducible refine (HC.out _).mono ?_); rintro e W2 ⟨rfl, hrd2, hst2⟩
            have hsf := comment_suf (35 :: t) false
            have hl2 : (comment false (35 :: t)).length ≤ t.length := by rw [comment_hash]; exact suf_len (comment_suf t false)
            have hI2 := (HI.out.drewN _).still hlt hst2 hrd2 (hat0.suf hsf) hcq.symm (suf_len hsf)
            have HI2 := hid hI2
            clear hI2
            go_wp2
            go_roundg ((comment false (35 :: t)).length + 1)
            case measure => simp at hle ⊢; omega
            case rel => exact ⟨_, _, cs, rfl, HI2.out⟩
          · have n35 := byte_ne 35 h35 rfl
            have hcq := HCQ3.out
            rw [if_neg (by simpa using h35)] at hcq
            have HCQ := hid hcq
            clear hcq HCQ3
            have HC := hid (fun n => ihC (c :: t) (by have := HI.out.small; omega) (W0.drewN n) rb s i2 hs hd (hrd.drewN n) hat0 (fun _ => HST1.out))
            go_wp2
            go_quiet (fail)
            go_wp2_with fail
            (with_reducible refine (HC.out _).mono ?_); intro e W2 h2
            have hres := HI.out.res
            rw [← HR.out, HCQ.out] at hres
            have HRES := hid hres
            clear hres
            unfold CmdP at h2
            cases hco : command false d (c :: t) with
            | halt hh =>
              rw [hco] at h2
              obtain ⟨rfl, hb⟩ := h2
              have hRR : R = .halt hh := by rw [← HRES.out, hco]; rfl
              rw [hRR]
              have hNW : N ≤ W0.heap.size := by have := HI.out.but.size; rw [HN.out]; exact this
              refine ⟨rfl, rfl, ?_⟩
              rw [← HN.out]
              exact (HI.out.but.drewN _).trans (hb.mono hNW)
            | ok ws r =>
              rw [hco] at h2
              obtain ⟨wv, rfl, hrd2, hws, hb⟩ := h2
              have HCO := hid hco
              have HWS := hid hws
              obtain ⟨wa, wc, rfl⟩ : ∃ wa wc, wv = .slice wa ws.length wc := by
                obtain ⟨a, cap, hv, _⟩ := RowIs.cell hws
                exact ⟨a, cap, hv⟩
              clear hco hws HE HC HP2
              obtain ⟨a, cap, rfl⟩ : ∃ a cap, u5 = .slice a cs.length cap := by
                obtain ⟨a, cap, hv, _⟩ := RowIs.cell HI.out.row
                exact ⟨a, cap, hv⟩
              have hb' : But rb W0.heap.size W0 W2 := ⟨hb.os, hb.tape, hb.output, hb.size, hb.block⟩
              have hws' : WdsIs 33 49 W2 (New W0.heap.size) (.slice wa ws.length wc) ws := HWS.out
              clear HWS hb
              have hNW : N ≤ W0.heap.size := by have := HI.out.but.size; rw [HN.out]; exact this
              obtain ⟨css, hrow, hrb, hcl, hel⟩ := HI.out.row
              have b2 : Below W2.heap.size W2 (W2.alloc (.cells #[.int .i64 (i2 : Nat), .slice wa ws.length wc] 47)) := (Below.refl _ _).alloc (Nat.le_refl _) _
              have hr2 : (W2.alloc (.cells #[.int .i64 (i2 : Nat), .slice wa ws.length wc] 47)).ownsRow 0 47 2 (.slice a cs.length cap) cs.length css.flatten := by
                refine ownsRow_heap2 hrow fun q cur hq hc => ?_
                have h1 : N ≤ q := hrb q hq
                have h2 := hb'.heap (Array.getElem?_eq_some_iff.1 hc).1 (by omega) hc
                exact (b2.block q (Array.getElem?_eq_some_iff.1 h2).1).trans h2
              have hnew := new1 W2 (.cells #[.int .i64 (i2 : Nat), .slice wa ws.length wc] 47)
              have hsz2 : (W2.alloc (.cells #[.int .i64 (i2 : Nat), .slice wa ws.length wc] 47)).heap.size = W2.heap.size + 1 := by simp
              have hsm := HI.out.small
              have hll1 := HI.out.here.len
              go_wp2_with (at_builtin; refine wpList_append_lies _ rfl (.tmp 8) (.tmp 12) 37 rfl 0 47 i0 (.agg #[.int .i64 0, .slice none 0 0]) 2 32 Tryz.underlying37 hi0 hz0 hz1 hz2 rfl (by decide) _ cs.length css.flatten (by rfl) hr2 ⟨W2.heap.size, 0, none⟩ 1 1 [.int .i64 (i2 : Nat), .slice wa ws.length wc] (by rfl) rfl (World.news_of_block hnew) (by intro u hu; simp at hu; rcases hu with rfl | rfl <;> rfl) (by decide) (by unfold maxLen; omega) (by omega) (Nat.zero_le _) (W2.heap.size + 1) hsz2 ?_)
              intro g cap' W3 hrow3 hg3 hgc hglt
              have hcok := (cmd_ok false d (c :: t) (fun _ => HST1.out) ws r HCO.out)
              have hrl := (hcok.2.2 HPL.out).1
              have hres1 := HCQ.out
              rw [HCO.out] at hres1
              have hnx := HI.out.next hlt hNW (hat0.suf hcok.1) hres1 hrl hrd2 hws' hb' hrow hrb hcl hel hrow3 hg3 hgc
              have HNX := hid hnx
              clear hnx hrow3 hg3 hgc hglt hr2 hrow hrb hcl hel hnew hcok
              go_wp2
              go_roundg (r.length + 1)
              case measure => simp at hle hrl ⊢; omega
              case rel => exact ⟨_, _, _, rfl, HNX.out⟩
      | true =>
        have h93 : c ≠ 93 := fun e => hin ⟨rfl, e⟩
        have n93 := byte_ne 93 h93 rfl
        have hin0 : ¬ (true && c == 93) = true := by first | (simp; done) | simpa using hin
        have hcq := HCQ.out
        dsimp only at hcq
        rw [if_neg hin0] at hcq
        have HCQ2 := hid hcq
        clear hcq HCQ hin hin0
        go_wp2
        go_quiet ((go_at_call 32; exact Calls.quiet_of (HE.out _)))
        cases hpl : parted true (c :: t) with
        | true =>
          have hp := fun n => HP.out n
          rw [hpl] at hp
          have HP2 := hid hp
          have hcq := HCQ2.out
          rw [if_pos hpl] at hcq
          clear hp HP
          go_wp2_with fail
          (with_reducible refine (HP2.out _).mono ?_); rintro e W1 ⟨rfl, m, hW1⟩
          rw [World.drewN_drewN] at hW1
          subst hW1
          go_wp2
          go_roundg (t.length + 1)
          case measure => simp at hle ⊢; omega
          case rel => exact ⟨t, i2 + 1, cs, rfl, (HI.out.drewN _).still hlt ((Still.refl rb _).set 1 _) ((hrd.drewN _).go (by simp)) hat0.tail hcq.symm (by simp)⟩
        | false =>
          have hp := fun n => HP.out n
          rw [hpl] at hp
          have HP2 := hid hp
          have hcq := HCQ2.out
          rw [if_neg (by rw [hpl]; simp)] at hcq
          have HCQ3 := hid hcq
          have hst1 := HST.out hpl
          have HST1 := hid hst1
          have HPL := hid hpl
          clear hp HP hcq HCQ2 hst1 HST hpl
          go_wp2_with fail
          (with_reducible refine (HP2.out _).mono ?_); rintro e W1 ⟨rfl, m, hW1⟩
          rw [World.drewN_drewN] at hW1
          subst hW1
          by_cases h35 : c = 35
          · subst h35
            have hcq := HCQ3.out
            rw [if_pos (by decide)] at hcq
            have HC := hid (fun n => comment_fn (hrd.drewN n) hat0 hs)
            go_wp2
            go_quiet (fail)
            go_wp2_with fail
            (with_reducible refine (HC.out _).mono ?_); rintro e W2 ⟨rfl, hrd2, hst2⟩
            have hsf := comment_suf (35 :: t) false
            have hl2 : (comment false (35 :: t)).length ≤ t.length := by rw [comment_hash]; exact suf_len (comment_suf t false)
            have hI2 := (HI.out.drewN _).still hlt hst2 hrd2 (hat0.suf hsf) hcq.symm (suf_len hsf)
            have HI2 := hid hI2
            clear hI2
            go_wp2
            go_roundg ((comment false (35 :: t)).length + 1)
            case measure => simp at hle ⊢; omega
            case rel => exact ⟨_, _, cs, rfl, HI2.out⟩
          · have n35 := byte_ne 35 h35 rfl
            have hcq := HCQ3.out
            rw [if_neg (by simpa using h35)] at hcq
            have HCQ := hid hcq
            clear hcq HCQ3
            have HC := hid (fun n => ihC (c :: t) (by have := HI.out.small; omega) (W0.drewN n) rb s i2 hs hd (hrd.drewN n) hat0 (fun _ => HST1.out))
            go_wp2
            go_quiet (fail)
            go_wp2_with fail
            (with_reducible refine (HC.out _).mono ?_); intro e W2 h2
            have hres := HI.out.res
            rw [← HR.out, HCQ.out] at hres
            have HRES := hid hres
            clear hres
            unfold CmdP at h2
            cases hco : command true d (c :: t) with
            | halt hh =>
              rw [hco] at h2
              obtain ⟨rfl, hb⟩ := h2
              have hRR : R = .halt hh := by rw [← HRES.out, hco]; rfl
              rw [hRR]
              have hNW : N ≤ W0.heap.size := by have := HI.out.but.size; rw [HN.out]; exact this
              refine ⟨rfl, rfl, ?_⟩
              rw [← HN.out]
              exact (HI.out.but.drewN _).trans (hb.mono hNW)
            | ok ws r =>
              rw [hco] at h2
              obtain ⟨wv, rfl, hrd2, hws, hb⟩ := h2
              have HCO := hid hco
              have HWS := hid hws
              obtain ⟨wa, wc, rfl⟩ : ∃ wa wc, wv = .slice wa ws.length wc := by
                obtain ⟨a, cap, hv, _⟩ := RowIs.cell hws
                exact ⟨a, cap, hv⟩
              clear hco hws HE HC HP2
              obtain ⟨a, cap, rfl⟩ : ∃ a cap, u5 = .slice a cs.length cap := by
                obtain ⟨a, cap, hv, _⟩ := RowIs.cell HI.out.row
                exact ⟨a, cap, hv⟩
              have hb' : But rb W0.heap.size W0 W2 := ⟨hb.os, hb.tape, hb.output, hb.size, hb.block⟩
              have hws' : WdsIs 33 49 W2 (New W0.heap.size) (.slice wa ws.length wc) ws := HWS.out
              clear HWS hb
              have hNW : N ≤ W0.heap.size := by have := HI.out.but.size; rw [HN.out]; exact this
              obtain ⟨css, hrow, hrb, hcl, hel⟩ := HI.out.row
              have b2 : Below W2.heap.size W2 (W2.alloc (.cells #[.int .i64 (i2 : Nat), .slice wa ws.length wc] 47)) := (Below.refl _ _).alloc (Nat.le_refl _) _
              have hr2 : (W2.alloc (.cells #[.int .i64 (i2 : Nat), .slice wa ws.length wc] 47)).ownsRow 0 47 2 (.slice a cs.length cap) cs.length css.flatten := by
                refine ownsRow_heap2 hrow fun q cur hq hc => ?_
                have h1 : N ≤ q := hrb q hq
                have h2 := hb'.heap (Array.getElem?_eq_some_iff.1 hc).1 (by omega) hc
                exact (b2.block q (Array.getElem?_eq_some_iff.1 h2).1).trans h2
              have hnew := new1 W2 (.cells #[.int .i64 (i2 : Nat), .slice wa ws.length wc] 47)
              have hsz2 : (W2.alloc (.cells #[.int .i64 (i2 : Nat), .slice wa ws.length wc] 47)).heap.size = W2.heap.size + 1 := by simp
              have hsm := HI.out.small
              have hll1 := HI.out.here.len
              go_wp2_with (at_builtin; refine wpList_append_lies _ rfl (.tmp 8) (.tmp 12) 37 rfl 0 47 i0 (.agg #[.int .i64 0, .slice none 0 0]) 2 32 Tryz.underlying37 hi0 hz0 hz1 hz2 rfl (by decide) _ cs.length css.flatten (by rfl) hr2 ⟨W2.heap.size, 0, none⟩ 1 1 [.int .i64 (i2 : Nat), .slice wa ws.length wc] (by rfl) rfl (World.news_of_block hnew) (by intro u hu; simp at hu; rcases hu with rfl | rfl <;> rfl) (by decide) (by unfold maxLen; omega) (by omega) (Nat.zero_le _) (W2.heap.size + 1) hsz2 ?_)
              intro g cap' W3 hrow3 hg3 hgc hglt
              have hcok := (cmd_ok true d (c :: t) (fun _ => HST1.out) ws r HCO.out)
              have hrl := (hcok.2.2 HPL.out).1
              have hres1 := HCQ.out
              rw [HCO.out] at hres1
              have hnx := HI.out.next hlt hNW (hat0.suf hcok.1) hres1 hrl hrd2 hws' hb' hrow hrb hcl hel hrow3 hg3 hgc
              have HNX := hid hnx
              clear hnx hrow3 hg3 hgc hglt hr2 hrow hrb hcl hel hnew hcok
              go_wp2
              go_roundg (r.length + 1)
              case measure => simp at hle hrl ⊢; omega
              case rel => exact ⟨_, _, _, rfl, HNX.out⟩
end Go.Proofs.YtkgpmkkodpjdfaaGreatDoor.Pz
/-
  All contracts at once.
-/
namespace Go.Proofs.YtkgpmkkodpjdfaaGreatDoor.Pz
theorem all_c : ∀ (n : Nat), (∀ w d l, l.length * 8 + 5 ≤ n → CmdsC w d l) ∧ (∀ w d l, l.length * 8 + 4 ≤ n → CmdC w d l) ∧ (∀ w d l, l.length * 8 + 3 ≤ n → WordC w d l) ∧
    (∀ f g d l, l.length * 8 + 2 ≤ n → PartsC f g d l) ∧ (∀ d l, l.length * 8 + 6 ≤ n → ScriptC d l) ∧ (∀ g d l, l.length * 8 + 1 ≤ n → VarC g d l) := by
  intro n
  induction n with
  | zero => refine ⟨?_, ?_, ?_, ?_, ?_, ?_⟩ <;> intros <;> omega
  | succ n ih =>
    obtain ⟨i1, i2, i3, i4, i5, i6⟩ := ih
    refine ⟨fun w d l h => commands_walk (fun l' h' => i2 w d l' (by omega)), fun w d l h => command_walk (fun l' h' => i3 w d l' (by omega)),
      fun w d l h => word_walk (fun t e => braced_walk (fun r hr => i3 w d r ?_)) (fun t e => quoted_walk (i4 .quote all3 d t ?_)) (i4 (.bare w) all3 d l (by omega)),
      fun f g d l h => parts_walk (fun l' h' => i6 g d l' (by omega)) (fun l' h' => i5 d l' (by omega)),
      fun d l h => script_walk (i1 true (d + 1) l (by omega)), fun g d l h => var_walk (fun l' h' => i4 .paren g (d + 1) l' (by omega))⟩
    · rw [e] at h; simp only [List.length_cons] at h; omega
    · rw [e] at h; simp only [List.length_cons] at h; omega
theorem commands_c (w : Bool) (d : Nat) (l : Str) : CmdsC w d l := (all_c (l.length * 8 + 5)).1 w d l (Nat.le_refl _)
theorem word_c (w : Bool) (d : Nat) (l : Str) : WordC w d l := (all_c (l.length * 8 + 3)).2.2.1 w d l (Nat.le_refl _)
theorem parts_c (f : Upto) (g : Told) (d : Nat) (l : Str) : PartsC f g d l := (all_c (l.length * 8 + 2)).2.2.2.1 f g d l (Nat.le_refl _)
end Go.Proofs.YtkgpmkkodpjdfaaGreatDoor.Pz
/-
  A reading that may stop: the deferred call recovers.
-/
namespace Go.Proofs.YtkgpmkkodpjdfaaGreatDoor.Pz
open Go.RowKit
set_option maxRecDepth 100000 in
/-- the deferred call, where the reading went through -/
theorem reads_idle (p : Addr) (w : World) : CallsD Tryz.prog 52 #[.pointer (some p)] .returning w fun e u' w' => e = .returned (.tuple #[]) ∧ u' = .returning ∧ w' = w := by
  have he : ∀ w : World, (binOp .eql 20 .nilIface .nilIface).run Tryz.prog w = .ok (.bool true) w := fun _ => by kernel_rfl
  refine callsD_of_wpS Tryz.func52 rfl fun c₀ cs hu => ?_
  apply wpS_seq
  apply wpS_region
  simp [wpOpsS, go_sem, recoverD, hu, Tryz.ntmps52, Exit.thenS]
  refine wpS_of_wp ?_
  go_wp2
  cases c₀
  simp_all [bodyPostS, results, Tryz.results52]
set_option maxRecDepth 100000 in
/-- the deferred call, where the reading stopped -/
theorem reads_stop (b : Nat) (a e : Int) (o : Bool) (w : World) (hb : w.heap[b]? = some (.cells #[.int .i64 0, .int .i64 0, .bool false] 56 (0, 0))) :
    CallsD Tryz.prog 52 #[.pointer (some ⟨b, 0, none⟩)] (.panicking [{ v := .iface 56 (.agg #[.int .i64 a, .int .i64 e, .bool o]), recovered := false }]) w fun e' u' w' => e' = .returned (.tuple #[]) ∧
      u' = .panicking [{ v := .iface 56 (.agg #[.int .i64 a, .int .i64 e, .bool o]), recovered := true }] ∧ But b w.heap.size w w' ∧ w'.heap[b]? = some (.cells #[.int .i64 a, .int .i64 e, .bool o] 56 (0, 0)) := by
  have c0 : w.cell? ⟨b, 0, none⟩ = some (.int .i64 0) := by rw [Lib.cell_of_heap hb]; rfl
  have c1 : w.cell? ⟨b, 1, none⟩ = some (.int .i64 0) := by rw [Lib.cell_of_heap hb]; rfl
  have c2 : w.cell? ⟨b, 2, none⟩ = some (.bool false) := by rw [Lib.cell_of_heap hb]; rfl
  have z0 : w.frozen? ⟨b, 0, none⟩ = false := Lib.frozen_of_heap hb 0
  have z1 : w.frozen? ⟨b, 1, none⟩ = false := Lib.frozen_of_heap hb 1
  have z2 : w.frozen? ⟨b, 2, none⟩ = false := Lib.frozen_of_heap hb 2
  have hlt : b < w.heap.size := (Array.getElem?_eq_some_iff.1 hb).1
  obtain ⟨pv, hpv⟩ : ∃ pv, pv = Value.agg #[.int .i64 a, .int .i64 e, .bool o] := ⟨_, rfl⟩
  rw [← hpv]
  have hta : ∀ w : World, (Instr.typeAssert (.iface 56 pv) 20 56 true).run Tryz.prog w = .ok (.tuple #[pv, .bool true]) w := fun _ => by kernel_rfl
  have HPV := hid hpv
  have HB := hid hb
  clear hpv hb
  refine callsD_of_wpS Tryz.func52 rfl fun c₀ cs hu => ?_
  apply wpS_seq
  apply wpS_region
  simp [wpOpsS, go_sem, recoverD, hu, Tryz.ntmps52, Exit.thenS]
  refine wpS_of_wp ?_
  have harr : Array.replicate 10 undef = #[undef, undef, undef, undef, undef, undef, undef, undef, undef, undef] := rfl
  rw [harr]
  have hpv := HPV.out
  clear HPV
  subst hpv
  clear harr
  have HU := hid hu
  clear hu
  go_wp2
  obtain ⟨W', hW'⟩ : ∃ W', W' = ((((w.setCell ⟨b, 0, none⟩ (.int .i64 a)).setCell ⟨b, 1, none⟩ (.int .i64 e)).setCell ⟨b, 2, none⟩ (.bool o)).alloc (.cells #[.int .i64 a, .int .i64 e, .bool o] 56)) := ⟨_, rfl⟩
  have HF : Hid (But b w.heap.size w W' ∧ W'.heap[b]? = some (.cells #[.int .i64 a, .int .i64 e, .bool o] 56 (0, 0))) := by
    refine hid ⟨?_, ?_⟩
    · rw [hW']
      exact ((((But.refl b w.heap.size w).set 0 _).set 1 _).set 2 _).alloc (by simp [World.setCell]) _
    · rw [hW', Below.heap_alloc _ _ _ (by simp [World.setCell]; exact hlt)]
      simp [World.setCell, Array.getElem?_modify, HB.out]
  rw [← hW']
  clear hW' HB c0 c1 c2 z0 z1 z2 hta
  have hu := HU.out
  cases c₀
  simp only at hu
  subst hu
  clear HU
  simp [bodyPostS, results, Tryz.results52]
  exact HF.out
/-- how a reading ended, and what 'reads' tells of it -/
def ReadsP (N : Nat) (Q : Ending → World → Prop) (e : Ending) (w' : World) : Prop := ∃ e1 w1, Q e1 w1 ∧ But N w1.heap.size w1 w' ∧
  ((e1 = .returned (.tuple #[]) ∧ e = .returned (.agg #[.int .i64 0, .int .i64 0, .bool false])) ∨ ∃ a e' o, e1 = .panicked (stopAt a e' o) ∧ e = .returned (.agg #[.int .i64 a, .int .i64 e', .bool o]))
set_option maxRecDepth 100000 in
theorem reads_fn {k : Nat} {fst cap : Array Value} {w : World} {Q : Ending → World → Prop} (hent : ∀ args w, (callFunc k args).run Tryz.prog w = .ok (.enter k args) w)
    (hc : Calls Tryz.prog k (fst ++ cap) (w.alloc (.cells #[.int .i64 0, .int .i64 0, .bool false] 56)) Q)
    (hq : ∀ e1 w1, Q e1 w1 → w1.heap[w.heap.size]? = some (.cells #[.int .i64 0, .int .i64 0, .bool false] 56 (0, 0)) ∧ (e1 = .returned (.tuple #[]) ∨ ∃ a e o, e1 = .panicked (stopAt a e o))) :
    Calls Tryz.prog 29 #[.func (.func k) fst cap] w (ReadsP w.heap.size Q) := by
  have hmf : ∀ (fn : Fn) (first cap : Array Value) (w : World), (Instr.makeFunc fn first cap).run Tryz.prog w = .ok (.func fn first cap) w := fun _ _ _ _ => rfl
  obtain ⟨N, hN⟩ : ∃ N, N = w.heap.size := ⟨_, rfl⟩
  have HC := hid hc
  have HQ := hid hq
  have HN := hid hN
  clear hc hq hN
  go_enter_defers Tryz.func29, Tryz.ntmps29
  go_wp2_with fail
  (with_reducible refine HC.out.mono ?_); intro e1 w1 h1
  obtain ⟨hb, rfl | ⟨a, e', o, rfl⟩⟩ := HQ.out e1 w1 h1
  · have c0 : w1.cell? ⟨w.heap.size, 0, none⟩ = some (.int .i64 0) := by rw [Lib.cell_of_heap hb]; rfl
    have c1 : w1.cell? ⟨w.heap.size, 1, none⟩ = some (.int .i64 0) := by rw [Lib.cell_of_heap hb]; rfl
    have c2 : w1.cell? ⟨w.heap.size, 2, none⟩ = some (.bool false) := by rw [Lib.cell_of_heap hb]; rfl
    have z0 : w1.frozen? ⟨w.heap.size, 0, none⟩ = false := Lib.frozen_of_heap hb 0
    have z1 : w1.frozen? ⟨w.heap.size, 1, none⟩ = false := Lib.frozen_of_heap hb 1
    have z2 : w1.frozen? ⟨w.heap.size, 2, none⟩ = false := Lib.frozen_of_heap hb 2
    go_wp2
    refine leaves_cons (f := 52) (args := #[.pointer (some ⟨w.heap.size, 0, none⟩)]) (by simp) (by simp [go_sem]) ?_
    refine (reads_idle ⟨w.heap.size, 0, none⟩ _).mono ?_
    rintro e u' w'' ⟨rfl, rfl, rfl⟩
    have HW := hid h1
    obtain ⟨W', hW'⟩ : ∃ W', W' = (((w1.setCell ⟨w.heap.size, 0, none⟩ (.int .i64 0)).setCell ⟨w.heap.size, 1, none⟩ (.int .i64 0)).setCell ⟨w.heap.size, 2, none⟩ (.bool false)) := ⟨_, rfl⟩
    have hb2 : W'.heap[w.heap.size]? = some (.cells #[.int .i64 0, .int .i64 0, .bool false] 56 (0, 0)) := by
      rw [hW']; simp [World.setCell, Array.getElem?_modify, hb]
    have HBT : Hid (But w.heap.size w1.heap.size w1 W') := by
      refine hid ?_
      rw [hW']
      exact (((But.refl _ _ _).set 0 _).set 1 _).set 2 _
    rw [← hW']
    clear c0 c1 c2 z0 z1 z2 h1 hW' hb
    have c0 : W'.cell? ⟨w.heap.size, 0, none⟩ = some (.int .i64 0) := by rw [Lib.cell_of_heap hb2]; rfl
    have c1 : W'.cell? ⟨w.heap.size, 1, none⟩ = some (.int .i64 0) := by rw [Lib.cell_of_heap hb2]; rfl
    have c2 : W'.cell? ⟨w.heap.size, 2, none⟩ = some (.bool false) := by rw [Lib.cell_of_heap hb2]; rfl
    clear hb2
    simp [Leaves, settle, results, Tryz.results29, go_sem, c0, c1, c2]
    exact ⟨_, _, HW.out, HBT.out, .inl ⟨rfl, rfl⟩⟩
  · refine leaves_cons (f := 52) (args := #[.pointer (some ⟨w.heap.size, 0, none⟩)]) (by simp) (by simp [go_sem]) ?_
    refine (reads_stop w.heap.size a e' o w1 hb).mono ?_
    rintro e u' w'' ⟨rfl, rfl, hbt, hb2⟩
    have HW := hid h1
    have HBT := hid hbt
    have c0 : w''.cell? ⟨w.heap.size, 0, none⟩ = some (.int .i64 a) := by rw [Lib.cell_of_heap hb2]; rfl
    have c1 : w''.cell? ⟨w.heap.size, 1, none⟩ = some (.int .i64 e') := by rw [Lib.cell_of_heap hb2]; rfl
    have c2 : w''.cell? ⟨w.heap.size, 2, none⟩ = some (.bool o) := by rw [Lib.cell_of_heap hb2]; rfl
    clear hb hb2 h1 hbt
    simp [Leaves, settle, results, Tryz.results29, go_sem, c0, c1, c2]
    exact ⟨_, _, HW.out, HBT.out, .inr ⟨_, _, _, rfl, rfl⟩⟩
end Go.Proofs.YtkgpmkkodpjdfaaGreatDoor.Pz
/-
  A script, read whole.
-/
namespace Go.Proofs.YtkgpmkkodpjdfaaGreatDoor.Pz
open Go.RowKit
set_option maxRecDepth 100000 in
theorem whole_fn (s : Str) (w : World) : Calls Tryz.prog 34 #[.string ⟨s.toArray⟩] w fun e w' => e = .returned (.pointer (some ⟨w.heap.size, 0, none⟩)) ∧
    w' = w.alloc (.cells #[.string ⟨s.toArray⟩, .int .i64 0, .int .i64 0, .bool true, .bool true, .bool true] 54) := by
  go_enter Tryz.func34, Tryz.ntmps34
  go_wp2
  go_ret
  exact ⟨rfl, rfl⟩
set_option maxRecDepth 100000 in
/-- what Script's function does -/
theorem script1_fn {w : World} {rb p q : Nat} {s : Str} (hs : s.length ≤ 1000000) (hp : Box w p 52 (.pointer (some ⟨rb, 0, none⟩))) (hq : Box w q 37 (.slice none 0 0)) (h : RdAt w rb s 0 0 all3) (hqr : q ≠ rb) :
    Calls Tryz.prog 49 #[.pointer (some ⟨p, 0, none⟩), .pointer (some ⟨q, 0, none⟩)] w fun e w' => Two rb (some q) w w' ∧
      match commands false 0 s with
      | .ok cs _ => e = .returned (.tuple #[]) ∧ ∃ v, Box w' q 37 v ∧ CmdsIs 33 49 47 s.length w' (New w.heap.size) v cs
      | .halt hh => e = .panicked (stopOf s hh) ∧ Box w' q 37 (.slice none 0 0) := by
  have c0 := hp.cell
  have hc := hid (commands_c false 0 s w rb s 0 hs (by omega) h (At.start s))
  have HQ := hid hq
  clear hq
  obtain ⟨R, hR⟩ : ∃ R, R = commands false 0 s := ⟨_, rfl⟩
  rw [← hR] at hc ⊢
  clear hR
  go_enter Tryz.func49, Tryz.ntmps49
  go_wp2_with fail
  (with_reducible refine hc.out.mono ?_); intro e w1 h1
  cases R with
  | halt hh =>
    obtain ⟨rfl, hb⟩ := h1
    exact ⟨rfl, ⟨hb.os, hb.tape, hb.output, hb.size, fun k h1 h2 _ => hb.block k h1 h2⟩, rfl, HQ.out.but hb hqr⟩
  | ok cs r =>
    obtain ⟨v, rfl, hrd, hcs, hb⟩ := h1
    have hq1 : Box w1 q 37 (.slice none 0 0) := HQ.out.but hb hqr
    obtain ⟨a, cap, rfl⟩ : ∃ a cap, v = .slice a cs.length cap := by
      obtain ⟨a, cap, hv, _⟩ := RowIs.cell hcs
      exact ⟨a, cap, hv⟩
    have k0 := hq1.cell
    have z0 := hq1.free
    have HB := hid hb
    have HCS := hid hcs
    clear hb hcs
    go_wp2
    go_end0
    have hq2 := hq1.set (.slice a cs.length cap)
    have hk : ∀ k, k ≠ q → (w1.setCell ⟨q, 0, none⟩ (.slice a cs.length cap)).heap[k]? = w1.heap[k]? := fun k hk => Below.heap_setCell _ _ _ _ (fun e => hk e)
    refine ⟨⟨HB.out.os, HB.out.tape, HB.out.output, ?_, fun k h1 h2 h3 => (hk k (fun e => h3 (by rw [e]))).trans (HB.out.block k h1 h2)⟩, rfl, _, hq2, ?_⟩
    · have := HB.out.size
      simp [World.setCell]
      omega
    · refine HCS.out.keep2 (fun _ h _ => h) (fun g cur _ hc => ?_) (fun g cur _ hc => ?_) (fun g cur _ hc => ?_)
      · rw [hk g (cells_ne hc hq1 (by decide))]; exact hc
      · rw [hk g (cells_ne hc hq1 (by decide))]; exact hc
      · rw [hk g (cells_ne hc hq1 (by decide))]; exact hc
/-- what 'Script' answers -/
def ScriptQ (s : Str) (w : World) (e : Ending) (w' : World) : Prop := Below w.heap.size w w' ∧
  match commands false 0 s with
  | .ok cs _ => ∃ v, e = .returned (.tuple #[v, .int .i64 0, .int .i64 0]) ∧ CmdsIs 33 49 47 s.length w' (New w.heap.size) v cs
  | .halt h => ∃ a e' o, stopOf s h = stopAt a e' o ∧ e' ≠ 0 ∧ e = .returned (.tuple #[.slice none 0 0, .int .i64 a, .int .i64 e'])
set_option maxRecDepth 100000 in
set_option maxHeartbeats 1000000 in
theorem script_fn {s : Str} (hs : s.length ≤ 1000000) (w : World) : Calls Tryz.prog 27 #[.string ⟨s.toArray⟩] w (ScriptQ s w) := by
  have hmf : ∀ (fn : Fn) (first cap : Array Value) (w : World), (Instr.makeFunc fn first cap).run Tryz.prog w = .ok (.func fn first cap) w := fun _ _ _ _ => rfl
  have eg : ∀ args w, (callFunc 49 args).run Tryz.prog w = .ok (.enter 49 args) w := enters_of Tryz.func49 (by kernel_rfl) rfl
  have EG := hid eg
  clear eg
  obtain ⟨N, hN⟩ : ∃ N, N = w.heap.size := ⟨_, rfl⟩
  have HN := hid hN
  clear hN
  go_enter Tryz.func27, Tryz.ntmps27
  go_wp2_with fail
  (with_reducible refine (whole_fn s _).mono ?_); rintro e w1 ⟨rfl, hw1⟩
  have HW1 := hid hw1
  clear hw1
  go_wp2_with fail
  rw [← HN.out]
  have hW1 := HW1.out
  have hs1 : w1.heap.size = N + 1 + 1 := by rw [hW1, HN.out]; simp
  rw [hs1]
  obtain ⟨W2, hW2⟩ : ∃ W2, W2 = w1.alloc (.cells #[.pointer (some ⟨N + 1, 0, none⟩)] 52) := ⟨_, rfl⟩
  have hs2 : W2.heap.size = N + 1 + 1 + 1 := by rw [hW2]; simp; exact hs1
  have hb2 : Below N w W2 := by
    rw [hW2, hW1]
    refine (((Below.refl _ _).alloc (by rw [HN.out]; exact Nat.le_refl _) _).alloc ?_ _).alloc ?_ _
    · simp; rw [HN.out]; omega
    · simp; rw [HN.out]; omega
  obtain ⟨W3, hW3⟩ : ∃ W3, W3 = W2.alloc (.cells #[.int .i64 0, .int .i64 0, .bool false] 56) := ⟨_, rfl⟩
  have n0 : w1.heap[N]? = some (.cells #[.slice none 0 0] 37 (0, 0)) := by rw [hW1, HN.out]; exact (new2 w _ _).1
  have n1 : w1.heap[N + 1]? = some (.cells #[.string ⟨s.toArray⟩, .int .i64 0, .int .i64 0, .bool true, .bool true, .bool true] 54 (0, 0)) := by rw [hW1, HN.out]; exact (new2 w _ _).2
  have n2 : W2.heap[N + 1 + 1]? = some (.cells #[.pointer (some ⟨N + 1, 0, none⟩)] 52 (0, 0)) := by rw [hW2, ← hs1]; exact new1 w1 _
  have n3 : W3.heap[N + 1 + 1 + 1]? = some (.cells #[.int .i64 0, .int .i64 0, .bool false] 56 (0, 0)) := by rw [hW3, ← hs2]; exact new1 W2 _
  have b12 : Below w1.heap.size w1 W2 := by rw [hW2]; exact (Below.refl _ _).alloc (Nat.le_refl _) _
  have b23 : Below W2.heap.size W2 W3 := by rw [hW3]; exact (Below.refl _ _).alloc (Nat.le_refl _) _
  have m0 : Box W3 N 37 (.slice none 0 0) := (b23.block N (by omega)).trans ((b12.block N (by omega)).trans n0)
  have m1 : RdAt W3 (N + 1) s 0 0 all3 := (b23.block (N + 1) (by omega)).trans ((b12.block (N + 1) (by omega)).trans n1)
  have m2 : Box W3 (N + 1 + 1) 52 (.pointer (some ⟨N + 1, 0, none⟩)) := (b23.block _ (by omega)).trans n2
  have hs3 : W3.heap.size = N + 1 + 1 + 1 + 1 := by rw [hW3]; simp; exact hs2
  have hsc := script1_fn hs m2 m0 m1 (by omega)
  rw [hW3] at hsc
  have hap : (#[] : Array Value) ++ #[Value.pointer (some ⟨N + 1 + 1, 0, none⟩), Value.pointer (some ⟨N, 0, none⟩)] = #[Value.pointer (some ⟨N + 1 + 1, 0, none⟩), Value.pointer (some ⟨N, 0, none⟩)] := by simp
  rw [← hap] at hsc
  have hrd := hid (reads_fn (k := 49) (fst := #[]) (cap := #[Value.pointer (some ⟨N + 1 + 1, 0, none⟩), Value.pointer (some ⟨N, 0, none⟩)]) (w := W2) EG.out hsc (fun e1 w1 hq => by
    obtain ⟨ht, hm⟩ := hq
    refine ⟨?_, ?_⟩
    · rw [hs2, ht.block _ (by simp; omega) (by omega) (by simp; omega), ← hW3]
      exact n3
    · cases hR : commands false 0 s with
      | ok cs r => rw [hR] at hm; exact .inl hm.1
      | halt hh =>
        rw [hR] at hm
        refine .inr ?_
        rw [hm.1]
        cases hh with
        | lacks b => exact ⟨_, _, _, rfl⟩
        | wrong b => exact ⟨_, _, _, rfl⟩
        | deep => exact ⟨_, _, _, rfl⟩))
  rw [← hW3] at hrd
  rw [← hW2]
  have HB23 := hid b23
  clear n0 n1 n2 b12 b23 hsc hW3 hW2 hW1 m1 m2 HW1
  (with_reducible refine hrd.out.mono ?_); rintro e w4 ⟨e1, w3, ⟨ht, hm⟩, hb, hcase⟩
  rw [hs2] at hb
  have hbw : Below N w w4 := by
    have h3 := hb2.trans (HB23.out.mono (show N ≤ W2.heap.size by omega))
    have z1 := ht.size
    have z2 := hb.size
    refine h3.trans ⟨hb.os.trans ht.os, hb.tape.trans ht.tape, hb.output.trans ht.output, by omega, fun k hk => ?_⟩
    rw [hb.block k (by omega) (by omega)]
    exact ht.block k (by omega) (by omega) (by simp; omega)
  rw [HN.out] at hbw
  have HBW := hid hbw
  have hsz3 := ht.size
  have n3 : w3.heap[N + 1 + 1 + 1]? = some (.cells #[.int .i64 0, .int .i64 0, .bool false] 56 (0, 0)) := (ht.block _ (by omega) (by omega) (by simp; omega)).trans n3
  obtain ⟨R, hR⟩ : ∃ R, R = commands false 0 s := ⟨_, rfl⟩
  rw [← hR] at hm
  have HR := hid hR
  clear hbw hR hrd hap
  cases R with
  | ok cs r =>
    obtain ⟨rfl, v, hv, hcs⟩ := hm
    obtain ⟨a, cap, rfl⟩ : ∃ a cap, v = .slice a cs.length cap := by
      obtain ⟨a, cap, hv, _⟩ := RowIs.cell hcs
      exact ⟨a, cap, hv⟩
    have hv4 : Box w4 N 37 (.slice a cs.length cap) := (hb.block N (by omega) (by omega)).trans hv
    have hcs4 : CmdsIs 33 49 47 s.length w4 (New N) (.slice a cs.length cap) cs := by
      have hk : ∀ (g : Nat) (cur : Array Value) (T : TypeId), w3.heap[g]? = some (.cells cur T (0, 0)) → T ≠ 56 → w4.heap[g]? = some (.cells cur T (0, 0)) := fun g cur T hc hT => (hb.block g (Array.getElem?_eq_some_iff.1 hc).1 (cells_ne hc n3 hT)).trans hc
      refine hcs.keep2 (fun g h _ => ?_) (fun g cur _ hc => hk _ _ _ hc (by decide)) (fun g cur _ hc => hk _ _ _ hc (by decide)) (fun g cur _ hc => hk _ _ _ hc (by decide))
      have h' : W3.heap.size ≤ g := h
      show N ≤ g
      omega
    have HCS := hid hcs4
    have hN4 : N < w4.heap.size := hv4.lt
    rcases hcase with ⟨_, rfl⟩ | ⟨_, _, _, e, _⟩
    · have y0 := hv4.cell
      have y1 := hv4.free
      clear hcs hcs4 hv hb ht
      go_wp2
      have hq5 : Box _ N 37 (.slice a cs.length cap) := hv4.set (.slice a cs.length cap)
      have hk : ∀ k, k ≠ N → (w4.setCell ⟨N, 0, none⟩ (.slice a cs.length cap)).heap[k]? = w4.heap[k]? := fun k hk => Below.heap_setCell _ _ _ _ (fun e => hk e)
      obtain ⟨W5, hW5⟩ : ∃ W5, W5 = w4.setCell ⟨N, 0, none⟩ (.slice a cs.length cap) := ⟨_, rfl⟩
      have hs5 : W5.heap.size = w4.heap.size := by rw [hW5]; simp [World.setCell]
      have hos : W5.os = w4.os ∧ W5.tape = w4.tape ∧ W5.output = w4.output := by rw [hW5]; exact ⟨rfl, rfl, rfl⟩
      rw [← hW5] at hq5 hk ⊢
      have hbA : Below W5.heap.size W5 (W5.alloc (.cells #[.int .i64 0, .int .i64 0, .bool false] 56)) := (Below.refl _ _).alloc (Nat.le_refl _) _
      have hq6 : Box _ N 37 (.slice a cs.length cap) := (hbA.block N (by omega)).trans hq5
      have y2 := hq6.cell
      refine bodyPost_ret (v := .tuple #[.slice a cs.length cap, .int .i64 0, .int .i64 0]) (by simp [results, Tryz.results27, go_sem, y2]) rfl ⟨?_, ?_⟩
      · rw [← HN.out]
        have hB := HBW.out
        rw [← HN.out] at hB
        refine hB.trans (Below.trans ⟨hos.1, hos.2.1, hos.2.2, by omega, fun k hk' => hk k (by omega)⟩ (hbA.mono (by omega)))
      · rw [← HR.out, ← HN.out]
        refine ⟨_, rfl, ?_⟩
        have hk2 : ∀ (g : Nat) (cur : Array Value) (T : TypeId), w4.heap[g]? = some (.cells cur T (0, 0)) → T ≠ 37 → (W5.alloc (.cells #[.int .i64 0, .int .i64 0, .bool false] 56)).heap[g]? = some (.cells cur T (0, 0)) := fun g cur T hc hT => by
          rw [hbA.block g (by rw [hs5]; exact (Array.getElem?_eq_some_iff.1 hc).1), hk g (cells_ne hc hv4 hT)]
          exact hc
        exact HCS.out.keep2 (fun _ h _ => h) (fun g cur _ hc => hk2 _ _ _ hc (by decide)) (fun g cur _ hc => hk2 _ _ _ hc (by decide)) (fun g cur _ hc => hk2 _ _ _ hc (by decide))
    · cases e
  | halt hh =>
    obtain ⟨rfl, hv⟩ := hm
    rcases hcase with ⟨e, _⟩ | ⟨a, e', o, he, rfl⟩
    · cases e
    · have hv4 : Box w4 N 37 (.slice none 0 0) := (hb.block N hv.lt (by omega)).trans hv
      have he1 : stopOf s hh = stopAt a e' o := by simpa using he
      have he0 : e' ≠ 0 := by
        cases hh <;> (simp [stopOf, stopAt] at he1; omega)
      have hen : (e' != 0) = true := by simpa using he0
      have y0 := hv4.cell
      have y1 := hv4.free
      have HE1 := hid he1
      have HE0 := hid he0
      have hN4 : N < w4.heap.size := hv4.lt
      clear hb ht hv he he1 he0
      go_wp2
      go_region
      go_wp2
      have hq5 : Box _ N 37 (.slice none 0 0) := hv4.set (.slice none 0 0)
      have hk : ∀ k, k ≠ N → (w4.setCell ⟨N, 0, none⟩ (.slice none 0 0)).heap[k]? = w4.heap[k]? := fun k hk => Below.heap_setCell _ _ _ _ (fun e => hk e)
      obtain ⟨W5, hW5⟩ : ∃ W5, W5 = w4.setCell ⟨N, 0, none⟩ (.slice none 0 0) := ⟨_, rfl⟩
      have hs5 : W5.heap.size = w4.heap.size := by rw [hW5]; simp [World.setCell]
      have hos : W5.os = w4.os ∧ W5.tape = w4.tape ∧ W5.output = w4.output := by rw [hW5]; exact ⟨rfl, rfl, rfl⟩
      rw [← hW5] at hq5 hk ⊢
      have hbA : Below W5.heap.size W5 (W5.alloc (.cells #[.int .i64 a, .int .i64 e', .bool o] 56)).drew := ((Below.refl _ _).alloc (Nat.le_refl _) _).drew
      have hq6 : Box _ N 37 (.slice none 0 0) := (hbA.block N (by omega)).trans hq5
      have y2 := hq6.cell
      refine bodyPost_ret (v := .tuple #[.slice none 0 0, .int .i64 a, .int .i64 e']) (by simp [results, Tryz.results27, go_sem, y2]) rfl ⟨?_, ?_⟩
      · rw [← HN.out]
        have hB := HBW.out
        rw [← HN.out] at hB
        refine hB.trans (Below.trans ⟨hos.1, hos.2.1, hos.2.2, by omega, fun k hk' => hk k (by omega)⟩ (hbA.mono (by omega)))
      · rw [← HR.out]
        exact ⟨_, _, _, HE1.out, HE0.out, rfl⟩
end Go.Proofs.YtkgpmkkodpjdfaaGreatDoor.Pz
/-
  Whether a script is complete.
-/
namespace Go.Proofs.YtkgpmkkodpjdfaaGreatDoor.Pz
open Go.RowKit
set_option maxRecDepth 100000 in
/-- what Complete's function does -/
theorem complete1_fn {w : World} {rb p : Nat} {s : Str} (hs : s.length ≤ 1000000) (hp : Box w p 52 (.pointer (some ⟨rb, 0, none⟩))) (h : RdAt w rb s 0 0 all3) :
    Calls Tryz.prog 51 #[.pointer (some ⟨p, 0, none⟩)] w fun e w' => But rb w.heap.size w w' ∧
      match commands false 0 s with
      | .ok _ _ => e = .returned (.tuple #[])
      | .halt hh => e = .panicked (stopOf s hh) := by
  have c0 := hp.cell
  have hc := hid (commands_c false 0 s w rb s 0 hs (by omega) h (At.start s))
  obtain ⟨R, hR⟩ : ∃ R, R = commands false 0 s := ⟨_, rfl⟩
  rw [← hR] at hc ⊢
  clear hR
  go_enter Tryz.func51, Tryz.ntmps51
  go_wp2_with fail
  (with_reducible refine hc.out.mono ?_); intro e w1 h1
  cases R with
  | halt hh =>
    obtain ⟨rfl, hb⟩ := h1
    exact ⟨rfl, hb, rfl⟩
  | ok cs r =>
    obtain ⟨v, rfl, hrd, hcs, hb⟩ := h1
    have HB := hid hb
    clear hb hcs
    go_wp2
    go_end0
    exact ⟨HB.out, rfl⟩
/-- whether a reading needs no more text -/
def whole {α : Type} : Res α → Bool
  | .ok _ _ => true
  | .halt (.lacks _) => false
  | .halt _ => true
set_option maxRecDepth 100000 in
set_option maxHeartbeats 1000000 in
theorem complete_fn {s : Str} (hs : s.length ≤ 1000000) (w : World) : Calls Tryz.prog 28 #[.string ⟨s.toArray⟩] w fun e w' => e = .returned (.bool (whole (commands false 0 s))) ∧ Below w.heap.size w w' := by
  have hmf : ∀ (fn : Fn) (first cap : Array Value) (w : World), (Instr.makeFunc fn first cap).run Tryz.prog w = .ok (.func fn first cap) w := fun _ _ _ _ => rfl
  have hf : ∀ (a e : Int) (o : Bool) (w : World), (Instr.field 56 (.agg #[.int .i64 a, .int .i64 e, .bool o]) 2).run Tryz.prog w = .ok (.bool o) w := fun _ _ _ _ => by kernel_rfl
  have eg : ∀ args w, (callFunc 51 args).run Tryz.prog w = .ok (.enter 51 args) w := enters_of Tryz.func51 (by kernel_rfl) rfl
  have EG := hid eg
  clear eg
  obtain ⟨N, hN⟩ : ∃ N, N = w.heap.size := ⟨_, rfl⟩
  have HN := hid hN
  clear hN
  obtain ⟨R, hR⟩ : ∃ R, R = commands false 0 s := ⟨_, rfl⟩
  rw [← hR]
  have HR := hid hR
  clear hR
  go_enter Tryz.func28, Tryz.ntmps28
  go_wp2_with fail
  (with_reducible refine (whole_fn s _).mono ?_); rintro e w1 ⟨rfl, hw1⟩
  have HW1 := hid hw1
  clear hw1
  go_wp2_with fail
  rw [← HN.out]
  have hW1 := HW1.out
  have hs1 : w1.heap.size = N + 1 := by rw [hW1, HN.out]; simp
  rw [hs1]
  obtain ⟨W2, hW2⟩ : ∃ W2, W2 = w1.alloc (.cells #[.pointer (some ⟨N, 0, none⟩)] 52) := ⟨_, rfl⟩
  have hs2 : W2.heap.size = N + 1 + 1 := by rw [hW2]; simp; exact hs1
  have hb2 : Below N w W2 := by
    rw [hW2, hW1]
    refine ((Below.refl _ _).alloc (by rw [HN.out]; exact Nat.le_refl _) _).alloc ?_ _
    simp; rw [HN.out]; omega
  obtain ⟨W3, hW3⟩ : ∃ W3, W3 = W2.alloc (.cells #[.int .i64 0, .int .i64 0, .bool false] 56) := ⟨_, rfl⟩
  have n0 : w1.heap[N]? = some (.cells #[.string ⟨s.toArray⟩, .int .i64 0, .int .i64 0, .bool true, .bool true, .bool true] 54 (0, 0)) := by rw [hW1, HN.out]; exact new1 w _
  have n2 : W2.heap[N + 1]? = some (.cells #[.pointer (some ⟨N, 0, none⟩)] 52 (0, 0)) := by rw [hW2, ← hs1]; exact new1 w1 _
  have n3 : W3.heap[N + 1 + 1]? = some (.cells #[.int .i64 0, .int .i64 0, .bool false] 56 (0, 0)) := by rw [hW3, ← hs2]; exact new1 W2 _
  have b12 : Below w1.heap.size w1 W2 := by rw [hW2]; exact (Below.refl _ _).alloc (Nat.le_refl _) _
  have b23 : Below W2.heap.size W2 W3 := by rw [hW3]; exact (Below.refl _ _).alloc (Nat.le_refl _) _
  have m1 : RdAt W3 N s 0 0 all3 := (b23.block N (by omega)).trans ((b12.block N (by omega)).trans n0)
  have m2 : Box W3 (N + 1) 52 (.pointer (some ⟨N, 0, none⟩)) := (b23.block _ (by omega)).trans n2
  have hs3 : W3.heap.size = N + 1 + 1 + 1 := by rw [hW3]; simp; exact hs2
  have hsc := complete1_fn hs m2 m1
  rw [hW3] at hsc
  have hap : (#[] : Array Value) ++ #[Value.pointer (some ⟨N + 1, 0, none⟩)] = #[Value.pointer (some ⟨N + 1, 0, none⟩)] := by simp
  rw [← hap] at hsc
  have hrd := hid (reads_fn (k := 51) (fst := #[]) (cap := #[Value.pointer (some ⟨N + 1, 0, none⟩)]) (w := W2) EG.out hsc (fun e1 w1 hq => by
    obtain ⟨ht, hm⟩ := hq
    refine ⟨?_, ?_⟩
    · rw [hs2, ht.block _ (by simp; omega) (by omega), ← hW3]
      exact n3
    · cases hR : commands false 0 s with
      | ok cs r => rw [hR] at hm; exact .inl hm
      | halt hh =>
        rw [hR] at hm
        refine .inr ?_
        rw [hm]
        cases hh with
        | lacks b => exact ⟨_, _, _, rfl⟩
        | wrong b => exact ⟨_, _, _, rfl⟩
        | deep => exact ⟨_, _, _, rfl⟩))
  rw [← hW3] at hrd
  rw [← hW2]
  have HB23 := hid b23
  clear n0 n2 b12 b23 hsc hW3 hW2 hW1 m1 m2 HW1
  (with_reducible refine hrd.out.mono ?_); rintro e w4 ⟨e1, w3, ⟨ht, hm⟩, hb, hcase⟩
  rw [hs2] at hb
  have hbw : Below N w w4 := by
    have h3 := hb2.trans (HB23.out.mono (show N ≤ W2.heap.size by omega))
    have z1 := ht.size
    have z2 := hb.size
    refine h3.trans ⟨hb.os.trans ht.os, hb.tape.trans ht.tape, hb.output.trans ht.output, by omega, fun k hk => ?_⟩
    rw [hb.block k (by omega) (by omega)]
    exact ht.block k (by omega) (by omega)
  rw [HN.out] at hbw
  have HBW := hid hbw
  rw [← HR.out] at hm
  clear hbw hrd hap HR
  cases R with
  | ok cs r =>
    subst hm
    rcases hcase with ⟨_, rfl⟩ | ⟨_, _, _, e, _⟩
    · clear hb ht
      go_wp2
      go_ret
      exact ⟨rfl, HBW.out⟩
    · cases e
  | halt hh =>
    subst hm
    rcases hcase with ⟨e, _⟩ | ⟨a, e', o, he, rfl⟩
    · cases e
    · have he1 : stopOf s hh = stopAt a e' o := by simpa using he
      have ho : whole (Res.halt hh : Res (List Cmd)) = !o := by
        cases hh <;> (simp [stopOf, stopAt] at he1; simp [whole, he1])
      have HO := hid ho
      clear hb ht he he1 ho
      go_wp2
      go_ret
      exact ⟨by rw [HO.out]; rfl, HBW.out⟩
end Go.Proofs.YtkgpmkkodpjdfaaGreatDoor.Pz
/-
  Parts, read whole, as far as it is told.
-/
namespace Go.Proofs.YtkgpmkkodpjdfaaGreatDoor.Pz
open Go.RowKit
theorem never_ends {rb : Nat} {w0 : World} : EndsBy .never rb w0 32 #[.pointer (some ⟨rb, 0, none⟩)] #[] :=
  ⟨enters_of Tryz.func32 (by kernel_rfl) rfl, fun w' s' l' i' d' g' _ hr ha _ => by
    have h : (#[Value.pointer (some ⟨rb, 0, none⟩)] ++ #[] : Array Value) = #[Value.pointer (some ⟨rb, 0, none⟩)] := by simp
    rw [h]
    have he : Upto.never.ends l' = decide (s'.length ≤ i') := by
      show l'.isEmpty = _
      have := ha.nil_iff
      cases l' with
      | nil => simp at this ⊢; exact this
      | cons c t => simp at this ⊢; omega
    rw [he]
    exact end_fn hr⟩
set_option maxRecDepth 100000 in
/-- what Subst's function does -/
theorem subst1_fn {w : World} {rb p q : Nat} {s : Str} {g : Told} (hs : s.length ≤ 1000000) (hp : Box w p 52 (.pointer (some ⟨rb, 0, none⟩))) (hq : Box w q 25 (.slice none 0 0)) (h : RdAt w rb s 0 0 g) (hqr : q ≠ rb) :
    Calls Tryz.prog 30 #[.pointer (some ⟨p, 0, none⟩), .pointer (some ⟨q, 0, none⟩)] w fun e w' => Two rb (some q) w w' ∧
      match parts .never g 0 s with
      | .ok cs _ => e = .returned (.tuple #[]) ∧ ∃ v, Box w' q 25 v ∧ ToksIs 33 w' (New w.heap.size) v (filled cs)
      | .halt hh => e = .panicked (stopOf s hh) ∧ Box w' q 25 (.slice none 0 0) := by
  have hmf : ∀ (fn : Fn) (first cap : Array Value) (w : World), (Instr.makeFunc fn first cap).run Tryz.prog w = .ok (.func fn first cap) w := fun _ _ _ _ => rfl
  have c0 := hp.cell
  have hc := hid (parts_c .never g 0 s w rb s 0 _ _ _ hs (by omega) h (At.start s) never_ends)
  have HQ := hid hq
  clear hq
  obtain ⟨R, hR⟩ : ∃ R, R = parts .never g 0 s := ⟨_, rfl⟩
  rw [← hR] at hc ⊢
  clear hR
  go_enter Tryz.func30, Tryz.ntmps30
  go_wp2_with fail
  (with_reducible refine hc.out.mono ?_); intro e w1 h1
  cases R with
  | halt hh =>
    obtain ⟨rfl, hb⟩ := h1
    exact ⟨rfl, ⟨hb.os, hb.tape, hb.output, hb.size, fun k h1 h2 _ => hb.block k h1 h2⟩, rfl, HQ.out.but hb hqr⟩
  | ok cs r =>
    obtain ⟨v, rfl, hrd, hcs, hb⟩ := h1
    have hq1 : Box w1 q 25 (.slice none 0 0) := HQ.out.but hb hqr
    obtain ⟨a, cap, rfl⟩ : ∃ a cap, v = .slice a (filled cs).length cap := by
      obtain ⟨a, cap, hv, _⟩ := RowIs.cell hcs
      exact ⟨a, cap, hv⟩
    have k0 := hq1.cell
    have z0 := hq1.free
    have HB := hid hb
    have HCS := hid hcs
    clear hb hcs
    go_wp2
    go_end0
    have hq2 := hq1.set (.slice a (filled cs).length cap)
    have hk : ∀ k, k ≠ q → (w1.setCell ⟨q, 0, none⟩ (.slice a (filled cs).length cap)).heap[k]? = w1.heap[k]? := fun k hk => Below.heap_setCell _ _ _ _ (fun e => hk e)
    refine ⟨⟨HB.out.os, HB.out.tape, HB.out.output, ?_, fun k h1 h2 h3 => (hk k (fun e => h3 (by rw [e]))).trans (HB.out.block k h1 h2)⟩, rfl, _, hq2, ?_⟩
    · have := HB.out.size
      simp [World.setCell]
      omega
    · refine HCS.out.keep2 (fun _ h _ => h) (fun g cur _ hc => ?_)
      rw [hk g (cells_ne hc hq1 (by decide))]; exact hc
/-- what 'Subst' answers -/
def SubstQ (g : Told) (s : Str) (w : World) (e : Ending) (w' : World) : Prop := Below w.heap.size w w' ∧
  match parts .never g 0 s with
  | .ok cs _ => ∃ v, e = .returned (.tuple #[v, .int .i64 0, .int .i64 0]) ∧ ToksIs 33 w' (New w.heap.size) v (if s.isEmpty then [] else filled cs)
  | .halt h => ∃ a e' o, stopOf s h = stopAt a e' o ∧ e' ≠ 0 ∧ e = .returned (.tuple #[.slice none 0 0, .int .i64 a, .int .i64 e'])
set_option maxRecDepth 100000 in
set_option maxHeartbeats 1000000 in
theorem subst_fn {s : Str} (hs : s.length ≤ 1000000) (g : Told) (w : World) : Calls Tryz.prog 11 #[.string ⟨s.toArray⟩, .bool g.slashes, .bool g.vars, .bool g.scripts] w (SubstQ g s w) := by
  have hmf : ∀ (fn : Fn) (first cap : Array Value) (w : World), (Instr.makeFunc fn first cap).run Tryz.prog w = .ok (.func fn first cap) w := fun _ _ _ _ => rfl
  have eg : ∀ args w, (callFunc 30 args).run Tryz.prog w = .ok (.enter 30 args) w := enters_of Tryz.func30 (by kernel_rfl) rfl
  have EG := hid eg
  clear eg
  obtain ⟨N, hN⟩ : ∃ N, N = w.heap.size := ⟨_, rfl⟩
  have HN := hid hN
  clear hN
  go_enter Tryz.func11, Tryz.ntmps11
  go_wp2_with fail
  rw [← HN.out]
  obtain ⟨w1, hW1⟩ : ∃ w1, w1 = (w.alloc (.cells #[.slice none 0 0] 25)).alloc (.cells #[.string ⟨s.toArray⟩, .int .i64 0, .int .i64 0, .bool g.slashes, .bool g.vars, .bool g.scripts] 54) := ⟨_, rfl⟩
  rw [← hW1]
  have hs1 : w1.heap.size = N + 1 + 1 := by rw [hW1, HN.out]; simp
  obtain ⟨W2, hW2⟩ : ∃ W2, W2 = w1.alloc (.cells #[.pointer (some ⟨N + 1, 0, none⟩)] 52) := ⟨_, rfl⟩
  have hs2 : W2.heap.size = N + 1 + 1 + 1 := by rw [hW2]; simp; exact hs1
  have hb2 : Below N w W2 := by
    rw [hW2, hW1]
    refine (((Below.refl _ _).alloc (by rw [HN.out]; exact Nat.le_refl _) _).alloc ?_ _).alloc ?_ _
    · simp; rw [HN.out]; omega
    · simp; rw [HN.out]; omega
  obtain ⟨W3, hW3⟩ : ∃ W3, W3 = W2.alloc (.cells #[.int .i64 0, .int .i64 0, .bool false] 56) := ⟨_, rfl⟩
  have n0 : w1.heap[N]? = some (.cells #[.slice none 0 0] 25 (0, 0)) := by rw [hW1, HN.out]; exact (new2 w _ _).1
  have n1 : w1.heap[N + 1]? = some (.cells #[.string ⟨s.toArray⟩, .int .i64 0, .int .i64 0, .bool g.slashes, .bool g.vars, .bool g.scripts] 54 (0, 0)) := by rw [hW1, HN.out]; exact (new2 w _ _).2
  have n2 : W2.heap[N + 1 + 1]? = some (.cells #[.pointer (some ⟨N + 1, 0, none⟩)] 52 (0, 0)) := by rw [hW2, ← hs1]; exact new1 w1 _
  have n3 : W3.heap[N + 1 + 1 + 1]? = some (.cells #[.int .i64 0, .int .i64 0, .bool false] 56 (0, 0)) := by rw [hW3, ← hs2]; exact new1 W2 _
  have b12 : Below w1.heap.size w1 W2 := by rw [hW2]; exact (Below.refl _ _).alloc (Nat.le_refl _) _
  have b23 : Below W2.heap.size W2 W3 := by rw [hW3]; exact (Below.refl _ _).alloc (Nat.le_refl _) _
  have m0 : Box W3 N 25 (.slice none 0 0) := (b23.block N (by omega)).trans ((b12.block N (by omega)).trans n0)
  have m1 : RdAt W3 (N + 1) s 0 0 g := (b23.block (N + 1) (by omega)).trans ((b12.block (N + 1) (by omega)).trans n1)
  have m2 : Box W3 (N + 1 + 1) 52 (.pointer (some ⟨N + 1, 0, none⟩)) := (b23.block _ (by omega)).trans n2
  have hs3 : W3.heap.size = N + 1 + 1 + 1 + 1 := by rw [hW3]; simp; exact hs2
  have hsc := subst1_fn hs m2 m0 m1 (by omega)
  rw [hW3] at hsc
  have hap : (#[] : Array Value) ++ #[Value.pointer (some ⟨N + 1 + 1, 0, none⟩), Value.pointer (some ⟨N, 0, none⟩)] = #[Value.pointer (some ⟨N + 1 + 1, 0, none⟩), Value.pointer (some ⟨N, 0, none⟩)] := by simp
  rw [← hap] at hsc
  have hrd := hid (reads_fn (k := 30) (fst := #[]) (cap := #[Value.pointer (some ⟨N + 1 + 1, 0, none⟩), Value.pointer (some ⟨N, 0, none⟩)]) (w := W2) EG.out hsc (fun e1 w1 hq => by
    obtain ⟨ht, hm⟩ := hq
    refine ⟨?_, ?_⟩
    · rw [hs2, ht.block _ (by simp; omega) (by omega) (by simp; omega), ← hW3]
      exact n3
    · cases hR : parts .never g 0 s with
      | ok cs r => rw [hR] at hm; exact .inl hm.1
      | halt hh =>
        rw [hR] at hm
        refine .inr ?_
        rw [hm.1]
        cases hh with
        | lacks b => exact ⟨_, _, _, rfl⟩
        | wrong b => exact ⟨_, _, _, rfl⟩
        | deep => exact ⟨_, _, _, rfl⟩))
  rw [← hW3] at hrd
  rw [← hW2]
  have HB23 := hid b23
  clear n0 n1 n2 b12 b23 hsc hW3 hW2 hW1 m1 m2
  (with_reducible refine hrd.out.mono ?_); rintro e w4 ⟨e1, w3, ⟨ht, hm⟩, hb, hcase⟩
  rw [hs2] at hb
  have hbw : Below N w w4 := by
    have h3 := hb2.trans (HB23.out.mono (show N ≤ W2.heap.size by omega))
    have z1 := ht.size
    have z2 := hb.size
    refine h3.trans ⟨hb.os.trans ht.os, hb.tape.trans ht.tape, hb.output.trans ht.output, by omega, fun k hk => ?_⟩
    rw [hb.block k (by omega) (by omega)]
    exact ht.block k (by omega) (by omega) (by simp; omega)
  rw [HN.out] at hbw
  have HBW := hid hbw
  have hsz3 := ht.size
  have n3 : w3.heap[N + 1 + 1 + 1]? = some (.cells #[.int .i64 0, .int .i64 0, .bool false] 56 (0, 0)) := (ht.block _ (by omega) (by omega) (by simp; omega)).trans n3
  obtain ⟨R, hR⟩ : ∃ R, R = parts .never g 0 s := ⟨_, rfl⟩
  rw [← hR] at hm
  have HR := hid hR
  clear hbw hR hrd hap
  cases R with
  | ok cs r =>
    obtain ⟨rfl, v, hv, hcs⟩ := hm
    obtain ⟨a, cap, rfl⟩ : ∃ a cap, v = .slice a (filled cs).length cap := by
      obtain ⟨a, cap, hv, _⟩ := RowIs.cell hcs
      exact ⟨a, cap, hv⟩
    have hv4 : Box w4 N 25 (.slice a (filled cs).length cap) := (hb.block N (by omega) (by omega)).trans hv
    have hcs4 : ToksIs 33 w4 (New N) (.slice a (filled cs).length cap) (filled cs) := by
      have hk : ∀ (g : Nat) (cur : Array Value) (T : TypeId), w3.heap[g]? = some (.cells cur T (0, 0)) → T ≠ 56 → w4.heap[g]? = some (.cells cur T (0, 0)) := fun g cur T hc hT => (hb.block g (Array.getElem?_eq_some_iff.1 hc).1 (cells_ne hc n3 hT)).trans hc
      refine hcs.keep2 (fun g h _ => ?_) (fun g cur _ hc => hk _ _ _ hc (by decide))
      have h' : W3.heap.size ≤ g := h
      show N ≤ g
      omega
    have HCS := hid hcs4
    have hN4 : N < w4.heap.size := hv4.lt
    rcases hcase with ⟨_, rfl⟩ | ⟨_, _, _, e, _⟩
    · have y0 := hv4.cell
      have y1 := hv4.free
      clear hcs hcs4 hv hb ht
      by_cases hse : s = []
      · have hsb : s.isEmpty = true := by rw [hse]; rfl
        go_wp2
        have hq5 : Box _ N 25 (.slice none 0 0) := hv4.set (.slice none 0 0)
        have hk : ∀ k, k ≠ N → (w4.setCell ⟨N, 0, none⟩ (.slice none 0 0)).heap[k]? = w4.heap[k]? := fun k hk => Below.heap_setCell _ _ _ _ (fun e => hk e)
        obtain ⟨W5, hW5⟩ : ∃ W5, W5 = w4.setCell ⟨N, 0, none⟩ (.slice none 0 0) := ⟨_, rfl⟩
        have hs5 : W5.heap.size = w4.heap.size := by rw [hW5]; simp [World.setCell]
        have hos : W5.os = w4.os ∧ W5.tape = w4.tape ∧ W5.output = w4.output := by rw [hW5]; exact ⟨rfl, rfl, rfl⟩
        rw [← hW5] at hq5 hk ⊢
        have hbA : Below W5.heap.size W5 (W5.alloc (.cells #[.int .i64 0, .int .i64 0, .bool false] 56)) := (Below.refl _ _).alloc (Nat.le_refl _) _
        have hq6 : Box _ N 25 (.slice none 0 0) := (hbA.block N (by omega)).trans hq5
        have y2 := hq6.cell
        refine bodyPost_ret (v := .tuple #[.slice none 0 0, .int .i64 0, .int .i64 0]) (by simp [results, Tryz.results11, go_sem, y2]) rfl ⟨?_, ?_⟩
        · rw [← HN.out]
          have hB := HBW.out
          rw [← HN.out] at hB
          refine hB.trans (Below.trans ⟨hos.1, hos.2.1, hos.2.2, by omega, fun k hk' => hk k (by omega)⟩ (hbA.mono (by omega)))
        · rw [← HR.out, ← HN.out]
          refine ⟨_, rfl, ?_⟩
          rw [if_pos (by simp [hse])]
          exact RowIs.nil
      · have hsb : s.isEmpty = false := by simpa using hse
        go_wp2
        have hq5 : Box _ N 25 (.slice a (filled cs).length cap) := hv4.set (.slice a (filled cs).length cap)
        have hk : ∀ k, k ≠ N → (w4.setCell ⟨N, 0, none⟩ (.slice a (filled cs).length cap)).heap[k]? = w4.heap[k]? := fun k hk => Below.heap_setCell _ _ _ _ (fun e => hk e)
        obtain ⟨W5, hW5⟩ : ∃ W5, W5 = w4.setCell ⟨N, 0, none⟩ (.slice a (filled cs).length cap) := ⟨_, rfl⟩
        have hs5 : W5.heap.size = w4.heap.size := by rw [hW5]; simp [World.setCell]
        have hos : W5.os = w4.os ∧ W5.tape = w4.tape ∧ W5.output = w4.output := by rw [hW5]; exact ⟨rfl, rfl, rfl⟩
        rw [← hW5] at hq5 hk ⊢
        have hbA : Below W5.heap.size W5 (W5.alloc (.cells #[.int .i64 0, .int .i64 0, .bool false] 56)) := (Below.refl _ _).alloc (Nat.le_refl _) _
        have hq6 : Box _ N 25 (.slice a (filled cs).length cap) := (hbA.block N (by omega)).trans hq5
        have y2 := hq6.cell
        refine bodyPost_ret (v := .tuple #[.slice a (filled cs).length cap, .int .i64 0, .int .i64 0]) (by simp [results, Tryz.results11, go_sem, y2]) rfl ⟨?_, ?_⟩
        · rw [← HN.out]
          have hB := HBW.out
          rw [← HN.out] at hB
          refine hB.trans (Below.trans ⟨hos.1, hos.2.1, hos.2.2, by omega, fun k hk' => hk k (by omega)⟩ (hbA.mono (by omega)))
        · rw [← HR.out, ← HN.out]
          refine ⟨_, rfl, ?_⟩
          have hk2 : ∀ (g : Nat) (cur : Array Value) (T : TypeId), w4.heap[g]? = some (.cells cur T (0, 0)) → T ≠ 25 → (W5.alloc (.cells #[.int .i64 0, .int .i64 0, .bool false] 56)).heap[g]? = some (.cells cur T (0, 0)) := fun g cur T hc hT => by
            rw [hbA.block g (by rw [hs5]; exact (Array.getElem?_eq_some_iff.1 hc).1), hk g (cells_ne hc hv4 hT)]
            exact hc
          rw [if_neg (by simp [hse])]
          exact HCS.out.keep2 (fun _ h _ => h) (fun g cur _ hc => hk2 _ _ _ hc (by decide))
    · cases e
  | halt hh =>
    obtain ⟨rfl, hv⟩ := hm
    rcases hcase with ⟨e, _⟩ | ⟨a, e', o, he, rfl⟩
    · cases e
    · have hv4 : Box w4 N 25 (.slice none 0 0) := (hb.block N hv.lt (by omega)).trans hv
      have he1 : stopOf s hh = stopAt a e' o := by simpa using he
      have he0 : e' ≠ 0 := by
        cases hh <;> (simp [stopOf, stopAt] at he1; omega)
      have hen : (e' != 0) = true := by simpa using he0
      have y0 := hv4.cell
      have y1 := hv4.free
      have HE1 := hid he1
      have HE0 := hid he0
      have hN4 : N < w4.heap.size := hv4.lt
      clear hb ht hv he he1 he0
      go_wp2
      go_region
      go_wp2
      have hq5 : Box _ N 25 (.slice none 0 0) := hv4.set (.slice none 0 0)
      have hk : ∀ k, k ≠ N → (w4.setCell ⟨N, 0, none⟩ (.slice none 0 0)).heap[k]? = w4.heap[k]? := fun k hk => Below.heap_setCell _ _ _ _ (fun e => hk e)
      obtain ⟨W5, hW5⟩ : ∃ W5, W5 = w4.setCell ⟨N, 0, none⟩ (.slice none 0 0) := ⟨_, rfl⟩
      have hs5 : W5.heap.size = w4.heap.size := by rw [hW5]; simp [World.setCell]
      have hos : W5.os = w4.os ∧ W5.tape = w4.tape ∧ W5.output = w4.output := by rw [hW5]; exact ⟨rfl, rfl, rfl⟩
      rw [← hW5] at hq5 hk ⊢
      have hbA : Below W5.heap.size W5 (W5.alloc (.cells #[.int .i64 a, .int .i64 e', .bool o] 56)).drew := ((Below.refl _ _).alloc (Nat.le_refl _) _).drew
      have hq6 : Box _ N 25 (.slice none 0 0) := (hbA.block N (by omega)).trans hq5
      have y2 := hq6.cell
      refine bodyPost_ret (v := .tuple #[.slice none 0 0, .int .i64 a, .int .i64 e']) (by simp [results, Tryz.results11, go_sem, y2]) rfl ⟨?_, ?_⟩
      · rw [← HN.out]
        have hB := HBW.out
        rw [← HN.out] at hB
        refine hB.trans (Below.trans ⟨hos.1, hos.2.1, hos.2.2, by omega, fun k hk' => hk k (by omega)⟩ (hbA.mono (by omega)))
      · rw [← HR.out]
        exact ⟨_, _, _, HE1.out, HE0.out, rfl⟩
end Go.Proofs.YtkgpmkkodpjdfaaGreatDoor.Pz
/-
  The reading of the sanity check's two texts, step by step.
-/
namespace Go.Proofs.YtkgpmkkodpjdfaaGreatDoor.Pz
theorem cmds_one {w : Bool} {d : Nat} {l t : Str} {c : UInt8} {ws : List Wd} {r : Str} {R : Res (List Cmd)} (hb : blanks l = c :: t) (h1 : (w && c == 93) = false) (h2 : parted w (c :: t) = false) (h3 : (c == 35) = false)
    (hc : command w d (c :: t) = .ok ws r) (hr : (commands w d r).cons ⟨(c :: t).length, ws⟩ = R) : commands w d l = R := by
  rw [commands_eq, hb]
  dsimp only
  rw [if_neg (by rw [h1]; simp), if_neg (by rw [h2]; simp), if_neg (by rw [h3]; simp), hc]
  exact hr
theorem cmds_halt {w : Bool} {d : Nat} {l t : Str} {c : UInt8} {h : Halt} (hb : blanks l = c :: t) (h1 : (w && c == 93) = false) (h2 : parted w (c :: t) = false) (h3 : (c == 35) = false)
    (hc : command w d (c :: t) = .halt h) : commands w d l = .halt h := by
  rw [commands_eq, hb]
  dsimp only
  rw [if_neg (by rw [h1]; simp), if_neg (by rw [h2]; simp), if_neg (by rw [h3]; simp), hc]
theorem cmds_skip {w : Bool} {d : Nat} {l t : Str} {c : UInt8} {R : Res (List Cmd)} (hb : blanks l = c :: t) (h1 : (w && c == 93) = false) (h2 : parted w (c :: t) = true) (hr : commands w d t = R) : commands w d l = R := by
  rw [commands_eq, hb]
  dsimp only
  rw [if_neg (by rw [h1]; simp), if_pos h2, hr]
theorem cmds_note {w : Bool} {d : Nat} {l t : Str} {c : UInt8} {R : Res (List Cmd)} (hb : blanks l = c :: t) (h1 : (w && c == 93) = false) (h2 : parted w (c :: t) = false) (h3 : (c == 35) = true) (hr : commands w d (comment false (c :: t)) = R) : commands w d l = R := by
  rw [commands_eq, hb]
  dsimp only
  rw [if_neg (by rw [h1]; simp), if_neg (by rw [h2]; simp), if_pos h3, hr]
theorem cmds_stop {w : Bool} {d : Nat} {l t : Str} {c : UInt8} (hb : blanks l = c :: t) (h1 : (w && c == 93) = true) : commands w d l = .ok [] (c :: t) := by
  rw [commands_eq, hb]
  dsimp only
  rw [if_pos h1]
theorem cmds_nil {w : Bool} {d : Nat} {l : Str} (hb : blanks l = []) : commands w d l = .ok [] [] := by
  rw [commands_eq, hb]
theorem cmd_one {w : Bool} {d : Nat} {l : Str} {x : Wd} {r b : Str} {ws : List Wd} {r' : Str} (h : parted w l = false) (he : ended w l = false) (hw : word w d l = .ok x r) (hb : blanks r = b) (hr : command w d b = .ok ws r') : command w d l = .ok (x :: ws) r' := by
  rw [command_cons h he, hw]
  dsimp only
  rw [hb, hr]
  rfl
theorem cmd_last {w : Bool} {d : Nat} {l : Str} {x : Wd} {r b : Str} {h' : Halt} (h : parted w l = false) (he : ended w l = false) (hw : word w d l = .ok x r) (hb : blanks r = b) (hr : command w d b = .halt h') : command w d l = .halt h' := by
  rw [command_cons h he, hw]
  dsimp only
  rw [hb, hr]
  rfl
theorem cmd_halt {w : Bool} {d : Nat} {l : Str} {h' : Halt} (h : parted w l = false) (he : ended w l = false) (hw : word w d l = .halt h') : command w d l = .halt h' := by
  rw [command_cons h he, hw]
theorem word_of {w : Bool} {d : Nat} {c : UInt8} {t : Str} {ts : List Tok} {r : Str} (h1 : c ≠ 123) (h2 : c ≠ 34) (hp : parts (.bare w) all3 d (c :: t) = .ok ts r) : word w d (c :: t) = .ok ⟨false, filled ts⟩ r := by
  rw [word_bare h1 h2, hp]
theorem parts_one {f : Upto} {g : Told} {d : Nat} {c : UInt8} {t : Str} {ts : List Tok} {r : Str} (h : f.ends (c :: t) = false) (h1 : (c == 92) = false) (h2 : (c == 36) = false) (h3 : (c == 91) = false) (hp : parts f g d t = .ok ts r) : parts f g d (c :: t) = .ok (glue [c] ts) r := by
  rw [parts_cons h, h1, h2, h3]
  simp only [Bool.false_and, Bool.false_eq_true, if_false]
  rw [hp]
  rfl
theorem parts_var {f : Upto} {d : Nat} {t : Str} {ts : List Tok} {x : Tok} {r r' : Str} (h : f.ends (36 :: t) = false) (hv : varOf all3 d t = .ok (some x) r) (hp : parts f all3 d r = .ok ts r') : parts f all3 d (36 :: t) = .ok (x :: ts) r' := by
  rw [parts_cons h, if_neg (by decide), if_pos (by decide), hv]
  dsimp only
  rw [hp]
  rfl
theorem parts_script {f : Upto} {d : Nat} {t : Str} {ts : List Tok} {x : Str} {r r' : Str} (h : f.ends (91 :: t) = false) (hv : script d t = .ok x r) (hp : parts f all3 d r = .ok ts r') : parts f all3 d (91 :: t) = .ok (.mk 3 x false [] :: ts) r' := by
  rw [parts_cons h, if_neg (by decide), if_neg (by decide), if_pos (by decide), hv]
  dsimp only
  rw [hp]
  rfl
theorem script_of {d : Nat} {l : Str} {cs : List Cmd} {c : UInt8} {r : Str} (h : (d == maxDeep) = false) (hc : commands true (d + 1) l = .ok cs (c :: r)) : ∃ x, script d l = .ok x r := by
  rw [script, if_neg (by rw [h]; simp), hc]
  exact ⟨_, rfl⟩
def text1 : Str := [115, 101, 116, 32, 120, 32, 91, 102, 32, 34, 36, 97, 32, 98, 34, 93, 59, 32, 35, 32, 110, 111]
def text2 : Str := [115, 101, 116, 32, 120, 32, 123, 97]
theorem wSet (w : Bool) (d : Nat) (t : Str) : word w d (115 :: 101 :: 116 :: 32 :: t) = .ok ⟨false, [Tok.txt [115, 101, 116]]⟩ (32 :: t) :=
  word_of (by decide) (by decide) (parts_one (by cases w <;> rfl) rfl rfl rfl (parts_one (by cases w <;> rfl) rfl rfl rfl (parts_one (by cases w <;> rfl) rfl rfl rfl (parts_end (by cases w <;> rfl) _ _))))
theorem wX (w : Bool) (d : Nat) (t : Str) : word w d (120 :: 32 :: t) = .ok ⟨false, [Tok.txt [120]]⟩ (32 :: t) :=
  word_of (by decide) (by decide) (parts_one (by cases w <;> rfl) rfl rfl rfl (parts_end (by cases w <;> rfl) _ _))
theorem wF (w : Bool) (d : Nat) (t : Str) : word w d (102 :: 32 :: t) = .ok ⟨false, [Tok.txt [102]]⟩ (32 :: t) :=
  word_of (by decide) (by decide) (parts_one (by cases w <;> rfl) rfl rfl rfl (parts_end (by cases w <;> rfl) _ _))
theorem wQ (t : Str) : ∃ x, word true 1 (34 :: 36 :: 97 :: 32 :: 98 :: 34 :: 93 :: t) = .ok x (93 :: t) := by
  have hv : varOf all3 1 (97 :: 32 :: 98 :: 34 :: 93 :: t) = .ok (some (.mk 2 [97] false [])) (32 :: 98 :: 34 :: 93 :: t) := varOf_plain (by simp) rfl (by decide) (fun t' h => by cases h)
  have hp : parts .quote all3 1 (36 :: 97 :: 32 :: 98 :: 34 :: 93 :: t) = .ok _ (34 :: 93 :: t) := parts_var rfl hv (parts_one rfl rfl rfl rfl (parts_one rfl rfl rfl rfl (parts_end rfl _ _)))
  rw [word_quote, hp]
  dsimp only
  rw [if_pos (show ended true (93 :: t) = true from rfl)]
  exact ⟨_, rfl⟩
theorem ex1 : ∃ c r, commands false 0 text1 = .ok [c] r ∧ c.words.length = 3 := by
  obtain ⟨q, hq⟩ := wQ [59, 32, 35, 32, 110, 111]
  have hin : commands true 1 [102, 32, 34, 36, 97, 32, 98, 34, 93, 59, 32, 35, 32, 110, 111] = .ok [⟨15, [⟨false, [Tok.txt [102]]⟩, q]⟩] [93, 59, 32, 35, 32, 110, 111] :=
    cmds_one rfl rfl rfl rfl (cmd_one rfl rfl (wF _ _ _) rfl (cmd_one rfl rfl hq rfl (command_end rfl _))) (by rw [cmds_stop rfl rfl]; rfl)
  obtain ⟨x, hx⟩ := script_of (d := 0) rfl hin
  have hw : word false 0 (91 :: [102, 32, 34, 36, 97, 32, 98, 34, 93, 59, 32, 35, 32, 110, 111]) = .ok ⟨false, filled [.mk 3 x false []]⟩ [59, 32, 35, 32, 110, 111] :=
    word_of (by decide) (by decide) (parts_script rfl hx (parts_end rfl _ _))
  have hrest : commands false 0 [59, 32, 35, 32, 110, 111] = .ok [] [] := cmds_skip rfl rfl rfl (cmds_note rfl rfl rfl rfl (cmds_nil rfl))
  refine ⟨_, _, cmds_one rfl rfl rfl rfl (cmd_one rfl rfl (wSet _ _ _) rfl (cmd_one rfl rfl (wX _ _ _) rfl (cmd_one rfl rfl hw rfl (command_end rfl _)))) (by rw [show blanks [59, 32, 35, 32, 110, 111] = [59, 32, 35, 32, 110, 111] from rfl, hrest]; rfl), rfl⟩
theorem ex2 : commands false 0 text2 = .halt (.lacks 2) :=
  cmds_halt rfl rfl rfl rfl (cmd_last rfl rfl (wSet _ _ _) rfl (cmd_last rfl rfl (wX _ _ _) rfl (cmd_halt rfl rfl (by rw [show blanks [32, 123, 97] = [123, 97] from rfl, word_brace]; rfl))))
end Go.Proofs.YtkgpmkkodpjdfaaGreatDoor.Pz
