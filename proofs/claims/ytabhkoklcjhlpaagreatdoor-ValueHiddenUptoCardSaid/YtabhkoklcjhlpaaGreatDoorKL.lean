/-
  Part KL of the proofs of this seat: contracts of functions and plain facts, merged from 1 texts.
-/
import Derived.Test.YtabhkoklcjhlpaaGreatDoorK0
import Derived.Test.YtabhkoklcjhlpaaGreatDoorK1
import Derived.Test.YtabhkoklcjhlpaaGreatDoorK2
import Derived.Test.YtabhkoklcjhlpaaGreatDoorK3
import Derived.Test.YtabhkoklcjhlpaaGreatDoorK4
import Derived.Test.YtabhkoklcjhlpaaGreatDoorK5
import Derived.Test.YtabhkoklcjhlpaaGreatDoorK6
import Derived.Test.YtabhkoklcjhlpaaGreatDoorK7
import Derived.Test.YtabhkoklcjhlpaaGreatDoorK8
import Derived.Test.YtabhkoklcjhlpaaGreatDoorK9
import Derived.Test.YtabhkoklcjhlpaaGreatDoorKA
import Derived.Test.YtabhkoklcjhlpaaGreatDoorKB
import Derived.Test.YtabhkoklcjhlpaaGreatDoorKC
import Derived.Test.YtabhkoklcjhlpaaGreatDoorKD
import Derived.Test.YtabhkoklcjhlpaaGreatDoorKE
import Derived.Test.YtabhkoklcjhlpaaGreatDoorKF
import Derived.Test.YtabhkoklcjhlpaaGreatDoorKG
import Derived.Test.YtabhkoklcjhlpaaGreatDoorKH
import Derived.Test.YtabhkoklcjhlpaaGreatDoorKI
import Derived.Test.YtabhkoklcjhlpaaGreatDoorKJ
/-
  All three stores, by their texts: Forget, Ask, play, act, Text, Count.
-/
namespace Go.Proofs.YtabhkoklcjhlpaaGreatDoor.Pz
open Go.RowKit
/-- all three stores have the texts T -/
def HidI (B stx sty st2 : Nat) (T : List Str) (w : World) : Prop := ∃ X A, J3 B stx sty st2 w X A (AR A) ∧ txA X = T ∧ txA A = T
/-- the second one and the reference's have had the act already -/
def HidP (B stx sty st2 : Nat) (a : ActD) (T : List Str) (w : World) : Prop := ∃ X A, J3 B stx sty st2 w X (stepA a A) (AR (stepA a A)) ∧ txA X = T ∧ txA A = T ∧ FitA A
section
variable {B stx sty st2 : Nat} {w w' : World} {T : List Str}
theorem HidI.on (h : HidI B stx sty st2 T w) (hb : Below w.heap.size w w') : HidI B stx sty st2 T w' := by
  obtain ⟨X, A, h1, h2⟩ := h
  exact ⟨X, A, h1.on hb, h2⟩
theorem HidP.on {a : ActD} (h : HidP B stx sty st2 a T w) (hb : Below w.heap.size w w') : HidP B stx sty st2 a T w' := by
  obtain ⟨X, A, h1, h2⟩ := h
  exact ⟨X, A, h1.on hb, h2⟩
theorem HidI.low (h : HidI B stx sty st2 T w) : B ≤ w.heap.size := by
  obtain ⟨X, A, h1, _⟩ := h
  exact h1.low
theorem stepA_len (a : ActD) (A : ShA) : (stepA a A).length ≤ A.length + 1 := by
  have h := congrArg List.length (show txA (stepA a A) = txA (stepA a A) from rfl)
  unfold stepA
  split
  · simp
  · split
    · simp
    · split
      · exact copyA_len A _
      · split
        · rw [askA_len]; omega
        · split
          · rw [elemA_len]; omega
          · split
            · rw [appendA_len]; omega
            · split
              · rw [putA_len]; omega
              · split
                · rw [enterKeyA_len]; omega
                · split
                  · simp [forgetA]
                  · omega
theorem hid_forget (h : HidI B stx sty st2 T w) (hml : ML w) (hT : T.length ≤ 1000) :
    Calls Tryz.prog 37 #[.pointer (some ⟨stx, 0, none⟩)] w fun e w' => e = .returned (.tuple #[]) ∧ HidI B stx sty st2 T w' ∧ Below B w w' ∧ KeepX w w' := by
  obtain ⟨X, A, h1, rfl, h3⟩ := h
  have hl : X.length ≤ 1000 := by rw [← txA_len]; exact hT
  refine (h1.progX (r := .tuple #[]) (X' := forgetA X) (fun v S g1 g3 => by have h9 := forgetA_fn g1 hml (by rw [shape_lenS g3]; omega); rw [g3] at h9; exact h9)).mono ?_
  rintro e w' ⟨he, hj, hb, hx⟩
  exact ⟨he, ⟨_, A, hj, forget_tx X, h3⟩, hb, hx⟩
theorem hid_ask (h : HidI B stx sty st2 T w) (hml : ML w) (k n : Int) :
    Calls Tryz.prog 12 #[.pointer (some ⟨stx, 0, none⟩), .int .i64 k, .int .i64 n] w fun e w' => (∃ z, e = .returned (.int .i64 z)) ∧ HidI B stx sty st2 T w' ∧ Below B w w' ∧ KeepX w w' := by
  obtain ⟨X, A, h1, rfl, h3⟩ := h
  have hf := h1.fitX
  refine (h1.progX (r := .int .i64 (askA X k n).1) (X' := (askA X k n).2) (fun v S g1 g3 => by have h9 := askA_fn g1 hml k n; rw [g3] at h9; exact h9)).mono ?_
  rintro e w' ⟨he, hj, hb, hx⟩
  exact ⟨⟨_, he⟩, ⟨_, A, hj, by rw [txA_AR, (ask_rel hf k n).2, ask_tx, ← txA_AR], h3⟩, hb, hx⟩
theorem hid_play (h : HidI B stx sty st2 T w) (hml : ML w) (hmB : 0 < B) (hT : T.length ≤ 1000) (a : ActD) (lv : Value) (hlv : StrsB B w lv a.l) (hok : a.ok) :
    Calls Tryz.prog 38 #[.pointer (some ⟨sty, 0, none⟩), .pointer (some ⟨st2, 0, none⟩), .agg (a.cells lv)] w fun e w' => e = .returned (.bool true) ∧ HidP B stx sty st2 a T w' ∧ Below B w w' ∧ KeepX w w' := by
  obtain ⟨X, A, h1, h2, rfl⟩ := h
  have hl : A.length ≤ 1000 := by rw [← txA_len]; exact hT
  have hf := h1.fit
  refine (h1.both (r := .bool true) (A' := stepA a A) (A2' := AR (stepA a A)) (fun Q hq => (play_fn hq hml hmB hl a lv hlv hok).mono fun e w' hh => ⟨hh.1, hh.2.1, hh.2.2.2.1, hh.2.2.2.2⟩)).mono ?_
  rintro e w' ⟨he, hj, hb, hx⟩
  exact ⟨he, ⟨X, A, hj, h2, rfl, hf⟩, hb, hx⟩
theorem hid_act {a : ActD} (h : HidP B stx sty st2 a T w) (hml : ML w) (hmB : 0 < B) (hT : T.length ≤ 1000) (lv : Value) (hlv : StrsB B w lv a.l) (hok : a.ok) (h3 : a.kind ≠ 3) (h8 : a.kind ≠ 8) :
    Calls Tryz.prog 39 #[.pointer (some ⟨stx, 0, none⟩), .pointer (some ⟨sty, 0, none⟩), .agg (a.cells lv)] w fun e w' => e = .returned (.bool true) ∧ HidI B stx sty st2 (stepT a T) w' ∧ Below B w w' ∧ KeepX w w' := by
  obtain ⟨X, A, h1, h2, rfl, hf⟩ := h
  have hl : X.length ≤ 1000 := by rw [← txA_len, h2]; exact hT
  have hfx := h1.fitX
  have hfa := h1.fit
  have ht := step_tx hf a
  refine (act_fn h1 hml hmB hl a lv hlv hok h3 h8 ?_ ?_).mono ?_
  · by_cases h4 : a.kind = 4
    · left
      rw [ht, h2]
      unfold stepT
      rw [if_neg (by omega), if_neg (by omega), if_neg (by omega), if_neg (by omega), if_pos h4]
    · exact .inr h4
  · intro h4
    have he : stepA a A = (elemA A a.h a.n).2 := by
      unfold stepA
      rw [if_neg (by omega), if_neg (by omega), if_neg (by omega), if_neg (by omega), if_pos h4]
    rw [he] at hfa ⊢
    exact elem_again hf hfa
  · rintro e w' ⟨he, A2, hj, h5, hb, hx⟩
    exact ⟨he, ⟨_, A2, hj, by rw [step_tx hfx, h2], by rw [h5, ht]⟩, hb, hx⟩
theorem hid_textX (h : HidI B stx sty st2 T w) (hml : ML w) (k : Int) :
    Calls Tryz.prog 14 #[.pointer (some ⟨stx, 0, none⟩), .int .i64 k] w fun e w' => e = .returned (.tuple #[.string ⟨(textT T k).1.toArray⟩, .int .i64 (textT T k).2]) ∧ HidI B stx sty st2 T w' ∧ Below B w w' ∧ KeepX w w' := by
  obtain ⟨X, A, h1, rfl, h3⟩ := h
  refine (h1.progX (r := .tuple #[.string ⟨(textT (txA X) k).1.toArray⟩, .int .i64 (textT (txA X) k).2]) (X' := X) (fun v S g1 g3 => by
    have h9 := textA_fn g1 hml k
    rw [g3, text_tx] at h9
    exact h9.mono fun e w' hh => ⟨hh.1, _, hh.2, g3⟩)).mono ?_
  rintro e w' ⟨he, hj, hb, hx⟩
  exact ⟨he, ⟨X, A, hj, rfl, h3⟩, hb, hx⟩
theorem hid_textY (h : HidI B stx sty st2 T w) (hml : ML w) (k : Int) :
    Calls Tryz.prog 14 #[.pointer (some ⟨sty, 0, none⟩), .int .i64 k] w fun e w' => e = .returned (.tuple #[.string ⟨(textT T k).1.toArray⟩, .int .i64 (textT T k).2]) ∧ HidI B stx sty st2 T w' ∧ Below B w w' ∧ KeepX w w' := by
  obtain ⟨X, A, h1, h2, rfl⟩ := h
  refine (h1.both (r := .tuple #[.string ⟨(textT (txA A) k).1.toArray⟩, .int .i64 (textT (txA A) k).2]) (A' := A) (A2' := AR A) (fun Q hq => hq.prog (fun v S g1 g3 => by
    have h9 := textA_fn g1 hml k
    rw [g3, text_tx] at h9
    exact h9.mono fun e w' hh => ⟨hh.1, _, hh.2, g3⟩))).mono ?_
  rintro e w' ⟨he, hj, hb, hx⟩
  exact ⟨he, ⟨X, A, hj, h2, rfl⟩, hb, hx⟩
theorem hid_count (h : HidI B stx sty st2 T w) : Calls Tryz.prog 40 #[.pointer (some ⟨st2, 0, none⟩)] w fun e w' => e = .returned (.int .i64 (T.length : Nat)) ∧ w' = w := by
  obtain ⟨X, A, ⟨vx, Sx, _, _, v, S, v2, R, h1, h2, h3, h4, _⟩, _, rfl⟩ := h
  have h9 := count_fn h2
  rw [shapeR_lenR h4, AR_len, ← txA_len] at h9
  exact h9
theorem stepT_len (a : ActD) (T : List Str) : (stepT a T).length ≤ T.length + 1 := by
  unfold stepT copyT appendT putT enterKeyT enterT
  repeat' split
  all_goals simp
theorem hid_new (h1 : w.heap[stx]? = some (.cells #[.slice none 0 0] 69 (0, 0))) (h2 : w.heap[sty]? = some (.cells #[.slice none 0 0] 69 (0, 0))) (h3 : w.heap[st2]? = some (.cells #[.slice none 0 0] 105 (0, 0)))
    (b1 : B ≤ stx) (b2 : B ≤ sty) (b3 : B ≤ st2) (hB : B ≤ w.heap.size) (hn : stx ≠ sty) : HidI B stx sty st2 [] w := by
  have h4 : stx ≠ st2 := kinds_ne h1 h3 (by decide)
  have hl := (Array.getElem?_eq_some_iff.1 h1).1
  refine ⟨[], [], ⟨.slice none 0 0, [], store_new h1 b1 hB, rfl, .slice none 0 0, [], .slice none 0 0, [], store_new h2 b2 hB, store_newR h3 b3 hB, rfl, rfl, fun q hq => ?_, fun q hq => ?_⟩, rfl, rfl⟩
  · obtain ⟨k, hk, rfl⟩ := List.mem_map.1 hq
    simp only [foot, Value.ownBlock, Option.toList, List.map_nil, List.append_nil, List.mem_singleton] at hk
    subst hk
    exact ⟨hl, rfl, by simp [foot, Value.ownBlock, hn]⟩
  · obtain ⟨k, hk, rfl⟩ := List.mem_map.1 hq
    simp only [foot, Value.ownBlock, Option.toList, List.map_nil, List.append_nil, List.mem_singleton] at hk
    subst hk
    exact ⟨hl, rfl, by simp [footR, Value.ownBlock, h4]⟩
end
end Go.Proofs.YtabhkoklcjhlpaaGreatDoor.Pz
