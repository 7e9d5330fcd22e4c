/-
  The laws' helper: right.
-/
import Derived.Test.YtkhgoeippamobaaGreatDoorRefL
import Derived.Test.YtkhgoeippamobaaGreatDoorBack
namespace Go.Proofs.YtkhgoeippamobaaGreatDoor
open Go.RowKit
/-- a slice of texts -/
def Strs (w : World) (v : Value) (ls : List (List UInt8)) : Prop :=
  ∃ (b cap : Nat), v = .slice (some ⟨b, 0, none⟩) ls.length cap ∧ ls.length ≤ cap ∧ b < w.heap.size ∧ ∀ i, i < ls.length → w.cell? ⟨b, i, none⟩ = some (.string ⟨(ls.getD i []).toArray⟩)
def rightB (ls : List (List UInt8)) : Bool := ls.all fun l => validRes l && decide (l.length ≤ 60)
set_option maxRecDepth 100000 in
set_option maxHeartbeats 4000000 in
theorem right_fn {v : Value} {ls : List (List UInt8)} {w : World} (h : Strs w v ls) (hn : ls.length ≤ 100) (hz : ∀ l ∈ ls, l.length ≤ 2000000) :
    Calls Tryz.prog 10 #[v] w fun e w' => e = .returned (.bool (rightB ls)) ∧ Below w.heap.size w w' := by
  obtain ⟨b, cap, rfl, hcap, hbl, hc⟩ := h
  have HZ := hid hz
  have HC := hid hc
  clear hz hc
  go_enter Tryz.func10, Tryz.ntmps10
  go_wp2
  go_loopw [7] (fun iv wr => ∃ k : Nat, iv = .int .i64 k ∧ k ≤ ls.length ∧ rightB (ls.take k) = true ∧ Below w.heap.size w wr) (fun iv _ => ls.length - (intOf iv).toNat)
  case atStart => exact ⟨0, rfl, Nat.zero_le _, rfl, Below.refl _ _⟩
  case round =>
    obtain ⟨k, rfl, hk, hall, hbr⟩ := hrel
    have HA := hid hall
    clear hall
    by_cases hlt : k < ls.length
    · have hck := (hbr.cell (p := ⟨b, k, none⟩) hbl).trans (HC.out k hlt)
      have e : ls.getD k [] = ls[k] := by rw [List.getD_eq_getElem?_getD, List.getElem?_eq_getElem hlt]; rfl
      have hlen := HZ.out (ls[k]) (List.getElem_mem hlt)
      rw [e] at hck
      have HT := hid (show rightB (ls.take (k + 1)) = (validRes (ls[k]) && decide ((ls[k]).length ≤ 60)) by
        have h1 := HA.out
        unfold rightB at h1 ⊢
        rw [List.take_add_one, List.getElem?_eq_getElem hlt, List.all_append, h1]
        simp)
      have hmono : rightB (ls.take (k + 1)) = false → rightB ls = false := by
        unfold rightB
        intro h
        rw [List.all_eq_false] at h ⊢
        obtain ⟨x, h1, h2⟩ := h
        exact ⟨x, List.mem_of_mem_take h1, h2⟩
      have HM := hid hmono
      clear hmono e
      generalize ls[k] = l at *
      have HV := hid (validR_fn l hlen wr)
      have h1 : (⟨l.toArray⟩ : ByteArray).size = l.length := Lib.size_mk _
      have hszr := hbr.size
      cases hval : validRes l with
      | false =>
        rw [hval] at HV HT
        have HV := hid HV.out
        have HR := hid (HM.out (by rw [HT.out]; rfl))
        clear hval
        go_wp2_with fail
        (with_reducible refine HV.out.mono ?_); rintro e w2 ⟨rfl, hb2⟩
        go_wp2
        go_ret
        exact ⟨by rw [HR.out]; rfl, hbr.trans (hb2.mono hszr)⟩
      | true =>
        rw [hval] at HV HT
        have HV := hid HV.out
        clear hval
        by_cases h60 : l.length ≤ 60
        · have HR := hid (show rightB (ls.take (k + 1)) = true by rw [HT.out, decide_eq_true h60]; rfl)
          go_wp2_with fail
          (with_reducible refine HV.out.mono ?_); rintro e w2 ⟨rfl, hb2⟩
          go_wp2
          go_roundw
          case rel => exact ⟨k + 1, by go_num, by omega, HR.out, hbr.trans (hb2.mono hszr)⟩
          case measure => simp [intOf] <;> omega
        · have HR := hid (HM.out (by rw [HT.out, decide_eq_false h60]; rfl))
          go_wp2_with fail
          (with_reducible refine HV.out.mono ?_); rintro e w2 ⟨rfl, hb2⟩
          go_wp2
          go_ret
          exact ⟨by rw [HR.out]; rfl, hbr.trans (hb2.mono hszr)⟩
    · obtain rfl : k = ls.length := by omega
      have hall := HA.out
      rw [List.take_length] at hall
      have HR := hid hall
      clear hall
      go_wp2
      go_ret
      exact ⟨by rw [HR.out]; rfl, hbr⟩
theorem rightB_mem (ls : List (List UInt8)) (h : rightB ls = true) (l : List UInt8) (hl : l ∈ ls) : pOK l = true ∧ (pVal l).natAbs < 2 ^ 240 ∧ l.length ≤ 60 := by
  unfold rightB at h
  have h1 := List.all_eq_true.1 h l hl
  rw [Bool.and_eq_true, decide_eq_true_eq] at h1
  obtain ⟨h1, h2⟩ := h1
  have hok : pOK l = true := by
    unfold validRes at h1
    rw [canRes_eq] at h1
    cases hp : pOK l with
    | true => rfl
    | false => rw [hp, if_neg (by decide)] at h1; exact absurd h1 (by decide)
  exact ⟨hok, pVal_small l h2 hok, h2⟩
theorem lt_big (z : Int) (h : z.natAbs < 2 ^ 500) : z.natAbs < big600 := Nat.lt_of_lt_of_le h big600_ge
theorem two_small (a b : List UInt8) (z : Int) (oa : pOK a = true) (ob : pOK b = true) (ha : (pVal a).natAbs < big600) (hb : (pVal b).natAbs < big600) (hz : z.natAbs < big600) : twoRes a b 0 z = (txt z, 0) := by
  unfold twoRes
  rw [if_pos ⟨oa, ob⟩, if_neg (by simp), if_neg (by omega), resOf_small z hz]
theorem one_small (a : List UInt8) (z : Int) (oa : pOK a = true) (ha : (pVal a).natAbs < big600) (hz : z.natAbs < big600) : oneRes a 0 z = (txt z, 0) := by
  unfold oneRes
  rw [if_pos oa, if_neg (by simp), if_neg (by omega), resOf_small z hz]
end Go.Proofs.YtkhgoeippamobaaGreatDoor
