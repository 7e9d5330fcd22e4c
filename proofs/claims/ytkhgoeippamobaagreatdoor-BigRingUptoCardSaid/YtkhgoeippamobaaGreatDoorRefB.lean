/-
  The reference: Strip.
-/
import Derived.Test.YtkhgoeippamobaaGreatDoorRefA
namespace Go.Proofs.YtkhgoeippamobaaGreatDoor
open Go.RowKit
set_option maxRecDepth 100000 in
set_option maxHeartbeats 4000000 in
theorem trim_fn (l : List UInt8) (hl : l.length ≤ 1000000000) (w : World) :
    Calls Tryz.prog 143 #[.string ⟨l.toArray⟩, .string ⟨#[9, 10, 11, 12, 13, 32]⟩, .bool true, .bool true] w fun e w' => e = .returned (.string ⟨(strip l).toArray⟩) ∧ w' = w := by
  go_enter Tryz.func143, Tryz.ntmps143
  go_upto_block 0 with fail
  go_cut [0] from 9 to 21 (fun v wx => v = .string ⟨(l.dropWhile isWh).toArray⟩ ∧ w = wx)
  case first =>
    go_wp2_with fail
    go_loop [0] (fun v => ∃ t : List UInt8, t.length ≤ 1000000000 ∧ v = .string ⟨t.toArray⟩ ∧ t.dropWhile isWh = l.dropWhile isWh) (fun v => Lib.strSize v)
    case atStart => exact ⟨l, hl, rfl, rfl⟩
    case round =>
      obtain ⟨t, ht, rfl, he⟩ := hrel
      have hE := hid he
      clear he
      cases t with
      | cons x t =>
        have h1 : (⟨(x :: t).toArray⟩ : ByteArray).size = t.length + 1 := by rw [Lib.size_mk]; simp
        have h2 : (⟨(x :: t).toArray⟩ : ByteArray).extract 1 (t.length + 1) = ⟨t.toArray⟩ := by
          rw [Lib.extract_mk]; simp
        have hx : ∀ h, (⟨(x :: t).toArray⟩ : ByteArray)[0]'h = x := fun h => rfl
        have hne : (x :: t == ([] : List UInt8)) = false := rfl
        have hl' : t.length ≤ 999999999 := by simpa using ht
        have hc := hid (has_white x w)
        clear ht
        go_wp2_with fail
        (with_reducible refine hc.out.mono ?_); rintro e w' ⟨rfl, rfl⟩
        cases hw : isWh x
        · have hd : (x :: t).dropWhile isWh = x :: t := by rw [List.dropWhile_cons, hw]; rfl
          go_wp2
          go_meet
          case rel => exact ⟨by rw [← hE.out, hd], rfl⟩
        · have hd : (x :: t).dropWhile isWh = t.dropWhile isWh := by rw [List.dropWhile_cons, hw]; rfl
          go_wp2
          refine ⟨⟨t, by omega, rfl, by rw [← hE.out, hd]⟩, ?_⟩
          rw [Lib.strSize_string, Lib.strSize_string, h1, Lib.size_mk]
          omega
      | nil =>
        have h1 : (⟨([] : List UInt8).toArray⟩ : ByteArray).size = 0 := rfl
        go_wp2
        go_meet
        case rel => exact ⟨by rw [← hE.out]; rfl, rfl⟩
  case rest =>
    obtain ⟨rfl, rfl⟩ := hcut
    have hL : (l.dropWhile isWh).length ≤ 1000000000 := Nat.le_trans (List.dropWhile_sublist _).length_le hl
    go_upto_block 2 with fail
    go_cut [0] from 22 to 40 (fun v wx => v = .string ⟨(strip l).toArray⟩ ∧ w = wx)
    case first =>
      go_wp2_with fail
      go_loop [0] (fun v => ∃ t : List UInt8, t.length ≤ 1000000000 ∧ v = .string ⟨t.toArray⟩ ∧ (t.reverse.dropWhile isWh).reverse = strip l) (fun v => Lib.strSize v)
      case atStart => exact ⟨_, hL, rfl, rfl⟩
      case round =>
        obtain ⟨t, ht, rfl, he⟩ := hrel
        have hE := hid he
        clear he
        rcases nil_or_snoc t with rfl | ⟨t, x, rfl⟩
        · have h1 : (⟨([] : List UInt8).toArray⟩ : ByteArray).size = 0 := rfl
          go_wp2
          go_meet
          case rel => exact ⟨by rw [← hE.out]; rfl, rfl⟩
        · have hre : (t ++ [x]).reverse = x :: t.reverse := by simp
          rw [hre] at hE
          have hE := hid hE.out
          clear hre
          have h1 : (⟨(t ++ [x]).toArray⟩ : ByteArray).size = t.length + 1 := by rw [Lib.size_mk]; simp
          have h2 : (⟨(t ++ [x]).toArray⟩ : ByteArray).extract 0 t.length = ⟨t.toArray⟩ := by
            rw [Lib.extract_mk]; simp
          have hx : ∀ h, (⟨(t ++ [x]).toArray⟩ : ByteArray)[t.length]'h = x := by
            intro h
            show (t ++ [x])[t.length] = x
            simp
          have hne : ((t ++ [x]) == ([] : List UInt8)) = false := by cases t <;> rfl
          have hl' : t.length ≤ 999999999 := by simpa using ht
          have hc := hid (has_white x w)
          clear ht
          generalize hT : t ++ [x] = T at *
          have HT := hid hT
          clear hT
          go_wp2_with fail
          (with_reducible refine hc.out.mono ?_); rintro e w' ⟨rfl, rfl⟩
          cases hw : isWh x
          · have hd : (x :: t.reverse).dropWhile isWh = x :: t.reverse := by rw [List.dropWhile_cons, hw]; rfl
            go_wp2
            go_meet
            case rel => exact ⟨by rw [← hE.out, hd]; simp [HT.out], rfl⟩
          · have hd : (x :: t.reverse).dropWhile isWh = t.reverse.dropWhile isWh := by rw [List.dropWhile_cons, hw]; rfl
            go_wp2
            refine ⟨⟨t, by omega, rfl, by rw [← hE.out, hd]⟩, ?_⟩
            rw [Lib.strSize_string, Lib.strSize_string, h1, Lib.size_mk]
            omega
    case rest =>
      obtain ⟨rfl, rfl⟩ := hcut
      go_wp2
      go_ret
      exact ⟨rfl, rfl⟩
theorem strip_fn (l : List UInt8) (hl : l.length ≤ 1000000000) (w : World) :
    Calls Tryz.prog 125 #[.string ⟨l.toArray⟩] w fun e w' => e = .returned (.string ⟨(strip l).toArray⟩) ∧ w' = w := by
  have hc := hid (trim_fn l hl w)
  go_enter Tryz.func125, Tryz.ntmps125
  go_wp2_with fail
  (with_reducible refine hc.out.mono ?_); rintro e w' ⟨rfl, rfl⟩
  go_wp2
  go_ret
  exact ⟨rfl, rfl⟩
end Go.Proofs.YtkhgoeippamobaaGreatDoor
