/-
  The reference: told.
-/
import Derived.Test.YtkhgoeippamobaaGreatDoorRefJ
namespace Go.Proofs.YtkhgoeippamobaaGreatDoor
open Go.RowKit
/-- a slice of numbers -/
def Nums (w : World) (v : Value) (zs : List Int) : Prop :=
  ∃ (a : Option Addr) (cap : Nat), v = .slice a zs.length cap ∧ zs.length ≤ cap ∧ (0 < zs.length → ∃ b, a = some ⟨b, 0, none⟩ ∧ b < w.heap.size ∧ ∀ i, i < zs.length → ∃ s c, w.cell? ⟨b, i * 2, none⟩ = some (.bool (decide (zs.getD i 0 < 0))) ∧ w.cell? ⟨b, i * 2 + 1, none⟩ = some (.slice s (dlen 10 (zs.getD i 0).natAbs) c) ∧ DecRep w (.slice s (dlen 10 (zs.getD i 0).natAbs) c) (zs.getD i 0).natAbs)
theorem Nums.nil (w : World) : Nums w (.slice none 0 0) [] := ⟨none, 0, rfl, Nat.le_refl _, fun h => absurd h (Nat.lt_irrefl 0)⟩
theorem Nums.below {w w' : World} {v : Value} {zs : List Int} (h : Nums w v zs) (hb : Below w.heap.size w w') : Nums w' v zs := by
  obtain ⟨a, cap, rfl, hc, h⟩ := h
  refine ⟨a, cap, rfl, hc, fun h0 => ?_⟩
  obtain ⟨b, rfl, hlt, hcell⟩ := h h0
  refine ⟨b, rfl, Nat.lt_of_lt_of_le hlt hb.size, fun i hi => ?_⟩
  obtain ⟨s, c, h1, h2, h3⟩ := hcell i hi
  exact ⟨s, c, (hb.cell (p := ⟨b, i * 2, none⟩) hlt).trans h1, (hb.cell (p := ⟨b, i * 2 + 1, none⟩) hlt).trans h2, h3.below hb⟩
/-- whether one of the numbers is too long -/
def anyBig (zs : List Int) : Bool := zs.any fun z => decide (big600 ≤ z.natAbs)
def toldRes (z : Int) (zs : List Int) : List UInt8 × Int := if anyBig zs then ([], 4) else resOf z
theorem DNum.shape {w : World} {v : Value} {z : Int} (h : DNum w v z) : ∃ a c, v = .agg #[.bool (decide (z < 0)), .slice a (dlen 10 z.natAbs) c] ∧ DecRep w (.slice a (dlen 10 z.natAbs) c) z.natAbs := by
  obtain ⟨s, rfl, h⟩ := h
  obtain ⟨a, c, rfl⟩ := h.shape
  exact ⟨a, c, rfl, h⟩
set_option maxRecDepth 100000 in
set_option maxHeartbeats 4000000 in
theorem told_fn {v u : Value} {z : Int} {zs : List Int} {w : World} (h : DNum w v z) (hl : dlen 10 z.natAbs ≤ 10000000) (hs : Nums w u zs) (hz : ∀ x ∈ zs, dlen 10 x.natAbs ≤ 10000000) (hn : zs.length ≤ 100) :
    Calls Tryz.prog 64 #[v, u] w fun e w' => e = .returned (.tuple #[.string ⟨(toldRes z zs).1.toArray⟩, .int .i64 (toldRes z zs).2]) ∧ Below w.heap.size w w' := by
  obtain ⟨a, cap, rfl, hd⟩ := h.shape
  have hs0 := hs
  obtain ⟨su, cu, rfl, hcu, hcell⟩ := hs0
  have k0 := Blk.new w #[.bool (decide (z < 0)), .slice a (dlen 10 z.natAbs) cap] 56
  have hb0 : Below w.heap.size w (w.alloc (.cells #[.bool (decide (z < 0)), .slice a (dlen 10 z.natAbs) cap] 56)) := (Below.refl _ _).alloc (Nat.le_refl _) _
  have hsz0 : (w.alloc (.cells #[.bool (decide (z < 0)), .slice a (dlen 10 z.natAbs) cap] 56)).heap.size = w.heap.size + 1 := by simp
  have HZ := hid hz
  have HC := hid hcell
  clear hz hcell
  go_enter Tryz.func64, Tryz.ntmps64
  go_wp2
  generalize w.alloc (.cells #[.bool (decide (z < 0)), .slice a (dlen 10 z.natAbs) cap] 56) = W at *
  go_loopw [10] (fun iv wr => ∃ k : Nat, iv = .int .i64 k ∧ k ≤ zs.length ∧ anyBig (zs.take k) = false ∧ Below w.heap.size w wr ∧ Blk wr w.heap.size #[.bool (decide (z < 0)), .slice a (dlen 10 z.natAbs) cap] 56) (fun iv _ => zs.length - (intOf iv).toNat)
  case atStart => exact ⟨0, rfl, Nat.zero_le _, rfl, hb0, k0⟩
  case round =>
    obtain ⟨k, rfl, hk, hany, hbr, kr⟩ := hrel
    have HA := hid hany
    clear hany
    by_cases hlt : k < zs.length
    · obtain ⟨b, rfl, hbl, hc⟩ := HC.out (by omega)
      obtain ⟨s, c, c1, c2, c3⟩ := hc k hlt
      have c1 := (hbr.cell (p := ⟨b, k * 2, none⟩) hbl).trans c1
      have c2 := (hbr.cell (p := ⟨b, k * 2 + 1, none⟩) hbl).trans c2
      have e : zs.getD k 0 = zs[k] := by rw [List.getD_eq_getElem?_getD, List.getElem?_eq_getElem hlt]; rfl
      have hdl := HZ.out (zs[k]) (List.getElem_mem hlt)
      rw [e] at c1 c2 c3
      have HT := hid (show anyBig (zs.take (k + 1)) = decide (big600 ≤ (zs[k]).natAbs) by
        have h1 := HA.out
        unfold anyBig at h1 ⊢
        rw [List.take_add_one, List.getElem?_eq_getElem hlt, List.any_append, h1]
        simp)
      have hmono : anyBig (zs.take (k + 1)) = true → anyBig zs = true := by
        unfold anyBig
        intro h
        rw [List.any_eq_true] at h ⊢
        obtain ⟨x, h1, h2⟩ := h
        exact ⟨x, List.mem_of_mem_take h1, h2⟩
      have HM := hid hmono
      clear hmono e hc
      generalize zs[k] = y at *
      have k1 := Blk.new wr #[.bool (decide (y < 0)), .slice s (dlen 10 y.natAbs) c] 56
      have hb1 : Below wr.heap.size wr (wr.alloc (.cells #[.bool (decide (y < 0)), .slice s (dlen 10 y.natAbs) c] 56)) := (Below.refl _ _).alloc (Nat.le_refl _) _
      have hD : DNum (wr.alloc (.cells #[.bool (decide (y < 0)), .slice s (dlen 10 y.natAbs) c] 56)) (.agg #[.bool (decide (y < 0)), .slice s (dlen 10 y.natAbs) c]) y := ⟨_, rfl, (c3.below hbr).below hb1⟩
      have HLC := hid (long_fn hD (by omega))
      have hszr := hbr.size
      go_wp2_with fail
      (with_reducible refine HLC.out.mono ?_); rintro e w2 ⟨rfl, hb2⟩
      have hb3 := hbr.trans ((hb1.mono hszr).trans (hb2.mono (Nat.le_trans hszr hb1.size)))
      by_cases hbig : big600 ≤ y.natAbs
      · have HR := hid (show toldRes z zs = ([], 4) by unfold toldRes; rw [HM.out (by rw [HT.out]; exact decide_eq_true hbig)]; rfl)
        rw [decide_eq_true hbig]
        clear hbig
        go_wp2
        go_ret2
        exact ⟨by rw [HR.out]; rfl, hb3⟩
      · have HF := hid (show anyBig (zs.take (k + 1)) = false by rw [HT.out]; exact decide_eq_false hbig)
        rw [decide_eq_false hbig]
        clear hbig
        have kr2 := (kr.later hb1).later hb2
        go_wp2
        go_roundw
        case rel => exact ⟨k + 1, by go_num, by omega, HF.out, hb3, kr2⟩
        case measure => simp [intOf] <;> omega
    · obtain rfl : k = zs.length := by omega
      have hany := HA.out
      rw [List.take_length] at hany
      have HR := hid (show toldRes z zs = resOf z by unfold toldRes; rw [hany]; rfl)
      clear hany
      have hD : DNum wr (.agg #[.bool (decide (z < 0)), .slice a (dlen 10 z.natAbs) cap]) z := ⟨_, rfl, hd.below hbr⟩
      have HLC := hid (long_fn hD (by omega))
      have hszr := hbr.size
      obtain ⟨⟨p1, p2⟩, q1, q2⟩ := kr.two
      go_wp2_with fail
      (with_reducible refine HLC.out.mono ?_); rintro e w2 ⟨rfl, hb2⟩
      have hb3 := hbr.trans (hb2.mono hszr)
      clear p1 p2 q1 q2
      obtain ⟨⟨p1, p2⟩, q1, q2⟩ := (kr.later hb2).two
      by_cases hbig : big600 ≤ z.natAbs
      · have HR2 := hid (show resOf z = ([], 4) by unfold resOf; rw [if_neg (by omega)])
        rw [decide_eq_true hbig]
        clear hbig
        go_wp2
        go_ret2
        exact ⟨by rw [HR.out, HR2.out]; rfl, hb3⟩
      · have HR2 := hid (show resOf z = (numText 10 z.natAbs (decide (z < 0)), 0) by unfold resOf; rw [if_pos (by omega)])
        have HTC := hid (textR_fn (hD.below hb2) (by have := (digits_600 z.natAbs).2 (by omega); omega))
        rw [decide_eq_false hbig]
        clear hbig
        go_wp2_with fail
        (with_reducible refine HTC.out.mono ?_); rintro e w3 ⟨rfl, hb4⟩
        go_wp2
        go_ret2
        exact ⟨by rw [HR.out, HR2.out]; rfl, hb3.trans (hb4.mono (Nat.le_trans hszr hb2.size))⟩
/-- a number that was read, told -/
theorem toldRes_nil (z : Int) : toldRes z [] = resOf z := rfl
end Go.Proofs.YtkhgoeippamobaaGreatDoor
