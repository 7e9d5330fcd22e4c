/-
  The reference: Itoa of a digit, Text, told, Canonical, Valid.
-/
import Derived.Test.YtkhgoeippamobaaGreatDoorRefI
namespace Go.Proofs.YtkhgoeippamobaaGreatDoor
open Go.RowKit
/-- the text of a digit -/
def digS (d : Nat) : List UInt8 := [UInt8.ofNat (chN d)]
theorem lit_dig (d : Nat) (h : d < 10) : ∀ s : ByteArray, s = ⟨#[48, 49, 50, 51, 52, 53, 54, 55, 56, 57, 97, 98, 99, 100, 101, 102, 103, 104, 105, 106, 107, 108, 109, 110, 111, 112, 113, 114, 115, 116, 117, 118, 119, 120, 121, 122]⟩ → s.extract d (d + 1) = ⟨(digS d).toArray⟩ := by
  rintro s rfl
  have : d = 0 ∨ d = 1 ∨ d = 2 ∨ d = 3 ∨ d = 4 ∨ d = 5 ∨ d = 6 ∨ d = 7 ∨ d = 8 ∨ d = 9 := by omega
  rcases this with rfl | rfl | rfl | rfl | rfl | rfl | rfl | rfl | rfl | rfl <;> decide
theorem smallI_fn (d : Nat) (hd : d < 10) (w : World) :
    Calls Tryz.prog 159 #[.int .i64 d] w fun e w' => e = .returned (.string ⟨(digS d).toArray⟩) ∧ w' = w := by
  have HL := hid (lit_dig d hd)
  go_enter Tryz.func159, Tryz.ntmps159
  go_wp2
  go_ret
  exact ⟨by rw [← HL.out _ rfl]; rfl, rfl⟩
theorem fmtI_fn (d : Nat) (hd : d < 10) (w : World) :
    Calls Tryz.prog 152 #[.int .i64 d, .int .i64 10] w fun e w' => e = .returned (.string ⟨(digS d).toArray⟩) ∧ w' = w := by
  have hc := hid (smallI_fn d hd w)
  go_enter Tryz.func152, Tryz.ntmps152
  go_wp2_with fail
  (with_reducible refine hc.out.mono ?_); rintro e w' ⟨rfl, rfl⟩
  go_wp2
  go_ret
  exact ⟨rfl, rfl⟩
theorem itoaI_fn (d : Nat) (hd : d < 10) (w : World) :
    Calls Tryz.prog 141 #[.int .i64 d] w fun e w' => e = .returned (.string ⟨(digS d).toArray⟩) ∧ w' = w := by
  have hc := hid (fmtI_fn d hd w)
  go_enter Tryz.func141, Tryz.ntmps141
  go_wp2_with fail
  (with_reducible refine hc.out.mono ?_); rintro e w' ⟨rfl, rfl⟩
  go_wp2
  go_ret
  exact ⟨rfl, rfl⟩
theorem itoa_fn (d : Nat) (hd : d < 10) (w : World) :
    Calls Tryz.prog 121 #[.int .i64 d] w fun e w' => e = .returned (.string ⟨(digS d).toArray⟩) ∧ w' = w := by
  have hc := hid (itoaI_fn d hd w)
  go_enter Tryz.func121, Tryz.ntmps121
  go_wp2_with fail
  (with_reducible refine hc.out.mono ?_); rintro e w' ⟨rfl, rfl⟩
  go_wp2
  go_ret
  exact ⟨rfl, rfl⟩
/-- the text of the lowest digits -/
def lowS (n k : Nat) : List UInt8 := (List.range k).map fun t => UInt8.ofNat (chN (dgt 10 n (k - 1 - t)))
theorem lowS_zero (n : Nat) : lowS n 0 = [] := rfl
theorem lowS_length (n k : Nat) : (lowS n k).length = k := by simp [lowS]
theorem lowS_succ (n k : Nat) : lowS n (k + 1) = digS (dgt 10 n k) ++ lowS n k := by
  unfold lowS digS
  rw [List.range_succ_eq_map]
  simp only [List.map_cons, List.map_map, List.singleton_append, List.cons.injEq]
  refine ⟨by simp, ?_⟩
  apply List.map_congr_left
  intro t ht
  have := List.mem_range.1 ht
  show UInt8.ofNat (chN (dgt 10 n (k + 1 - 1 - (t + 1)))) = _
  rw [show k + 1 - 1 - (t + 1) = k - 1 - t from by omega]
theorem lowS_all (n : Nat) : lowS n (dlen 10 n) = strOf 10 n := rfl
set_option maxRecDepth 100000 in
set_option maxHeartbeats 4000000 in
theorem textR_fn {v : Value} {z : Int} {w : World} (h : DNum w v z) (hl : dlen 10 z.natAbs ≤ 1000000) :
    Calls Tryz.prog 79 #[v] w fun e w' => e = .returned (.string ⟨(numText 10 z.natAbs (decide (z < 0))).toArray⟩) ∧ Below w.heap.size w w' := by
  obtain ⟨s, rfl, h⟩ := h
  generalize hneg : decide (z < 0) = neg
  clear hneg
  generalize z.natAbs = n at *
  obtain ⟨a, cap, rfl⟩ := h.shape
  have k0 := Blk.new w #[.bool neg, .slice a (dlen 10 n) cap] 56
  have hb0 : Below w.heap.size w (w.alloc (.cells #[.bool neg, .slice a (dlen 10 n) cap] 56)) := (Below.refl _ _).alloc (Nat.le_refl _) _
  have hrep := h.below hb0
  have hem := strOf_isEmpty 10 n (by decide)
  go_enter Tryz.func79, Tryz.ntmps79
  go_wp2
  generalize w.alloc (.cells #[.bool neg, .slice a (dlen 10 n) cap] 56) = W at *
  obtain ⟨⟨p1, p2⟩, q1, q2⟩ := k0.two
  have hcell := hrep
  obtain ⟨a', cap', hv, hcap, hcell⟩ := hcell
  simp only [Value.slice.injEq, true_and] at hv
  obtain ⟨rfl, rfl⟩ := hv
  go_loop [3, 9] (fun sv iv => ∃ k : Nat, iv = .int .i64 k ∧ k ≤ dlen 10 n ∧ sv = .string ⟨(lowS n k).toArray⟩) (fun _ iv => dlen 10 n - (intOf iv).toNat)
  case atStart => exact ⟨0, rfl, Nat.zero_le _, rfl⟩
  case round =>
    obtain ⟨k, rfl, hk, rfl⟩ := hrel
    by_cases hlt : k < dlen 10 n
    · obtain ⟨b, off, rfl, hbl, hc⟩ := hcell (by omega)
      have hck := hc k hlt
      have HC := hid (itoa_fn (dgt 10 n k) (dgt_lt 10 n k (by decide)) W)
      have HS := hid (lowS_succ n k)
      have hlen := lowS_length n k
      have h1 : (⟨(lowS n k).toArray⟩ : ByteArray).size = k := by rw [Lib.size_mk]; exact hlen
      have h2 : (⟨(digS (dgt 10 n k)).toArray⟩ : ByteArray).size = 1 := rfl
      clear hlen
      go_wp2_with fail
      (with_reducible refine HC.out.mono ?_); rintro e w' ⟨rfl, rfl⟩
      go_wp2
      go_round
      case rel => exact ⟨k + 1, by go_num, by omega, by rw [HS.out]; exact congrArg Value.string (by apply ByteArray.ext; simp [ByteArray.data_append])⟩
      case measure => simp [intOf] <;> omega
    · obtain rfl : k = dlen 10 n := by omega
      rw [lowS_all]
      have HE := hem
      by_cases h0 : n = 0
      · rw [decide_eq_true h0] at hem
        have hn : numText 10 n neg = [48] := by rw [numText, if_pos h0]
        have HN := hid hn
        clear h0 hn HE
        go_wp2
        go_ret
        exact ⟨by rw [HN.out]; rfl, hb0⟩
      · rw [decide_eq_false h0] at hem
        have hlen := strOf_length 10 n
        have hsz : (strOf 10 n).length ≤ 32000000 := by omega
        clear hlen HE
        cases neg
        · have hn : numText 10 n false = strOf 10 n := by rw [numText, if_neg h0]; rfl
          have HN := hid hn
          clear h0 hn
          go_wp2
          go_ret
          exact ⟨by rw [HN.out]; rfl, hb0⟩
        · have hn : numText 10 n true = 45 :: strOf 10 n := by rw [numText, if_neg h0]; rfl
          have HN := hid hn
          clear h0 hn
          go_wp2
          go_ret
          exact ⟨by rw [HN.out]; rfl, hb0⟩
end Go.Proofs.YtkhgoeippamobaaGreatDoor
