/-
  Reading a number: the walk.
-/
import Derived.Test.YtkhgoeippamobaaGreatDoorReadFn
import Derived.Deep.CutBlock
import Derived.Deep.DeepCutAuto
import Derived.Outline
namespace Go.Proofs.YtkhgoeippamobaaGreatDoor
open Go.RowKit
def strip (l : List UInt8) : List UInt8 := ((l.dropWhile isWh).reverse.dropWhile isWh).reverse
def pNeg (s : List UInt8) : Bool := ([45] : List UInt8).isPrefixOf s
def pRest (s : List UInt8) : List UInt8 := if ([45] : List UInt8).isPrefixOf s || ([43] : List UInt8).isPrefixOf s then s.tail else s
def pBase (s : List UInt8) : Nat := if ([48, 120] : List UInt8).isPrefixOf s then 16 else if ([48, 111] : List UInt8).isPrefixOf s then 8 else if ([48, 98] : List UInt8).isPrefixOf s then 2 else 10
def pBody (s : List UInt8) : List UInt8 := if ([48, 120] : List UInt8).isPrefixOf s || ([48, 111] : List UInt8).isPrefixOf s || ([48, 98] : List UInt8).isPrefixOf s then s.drop 2 else s
/-- whether a text is a number -/
def pOK (l : List UInt8) : Bool := rOK (pBase (pRest (strip l))) (pBody (pRest (strip l)))
/-- the number that a text is -/
def pVal (l : List UInt8) : Int := sgnInt (pNeg (strip l)) (numOf (pBase (pRest (strip l))) (pBody (pRest (strip l))))
theorem nil_or_snoc (t : List UInt8) : t = [] ∨ ∃ u x, t = u ++ [x] := by
  rcases List.eq_nil_or_concat t with h | ⟨u, x, h⟩
  · exact .inl h
  · exact .inr ⟨u, x, by rw [h, List.concat_eq_append]⟩
theorem read_at (T : List UInt8) (hT : T.length ≤ 1000000000) (b : Nat) (B : Int) (hB : B = (b : Int)) (hb2 : 2 ≤ b) (hb36 : b ≤ 36) (neg : Bool) (w : World) :
    Calls Tryz.prog 139 #[.string ⟨T.toArray⟩, .int .i64 B, .bool neg] w (ReadP b T neg w) := by
  subst hB
  exact read_fn T hT b hb2 hb36 neg w
theorem strip_len (l : List UInt8) : (strip l).length ≤ l.length := by
  unfold strip
  rw [List.length_reverse]
  refine Nat.le_trans (List.dropWhile_sublist _).length_le ?_
  rw [List.length_reverse]
  exact (List.dropWhile_sublist _).length_le
/-- the three beginnings -/
theorem sign_cases (S : List UInt8) : ∃ T, pRest S = T ∧ (S = 45 :: T ∧ pNeg S = true ∨ S = 43 :: T ∧ pNeg S = false ∧ ([45] : List UInt8).isPrefixOf S = false ∧ ([43] : List UInt8).isPrefixOf S = true ∨ S = T ∧ pNeg S = false ∧ ([45] : List UInt8).isPrefixOf S = false ∧ ([43] : List UInt8).isPrefixOf S = false) := by
  refine ⟨_, rfl, ?_⟩
  cases S with
  | nil => right; right; exact ⟨rfl, rfl, rfl, rfl⟩
  | cons x S =>
    by_cases h1 : x = 45
    · subst h1
      left
      exact ⟨by simp [pRest, List.isPrefixOf], by simp [pNeg, List.isPrefixOf]⟩
    · by_cases h2 : x = 43
      · subst h2
        right; left
        exact ⟨by simp [pRest, List.isPrefixOf], by simp [pNeg, List.isPrefixOf], by simp [List.isPrefixOf], by simp [List.isPrefixOf]⟩
      · right; right
        have e1 : (45 == x) = false := by simpa using fun h => h1 h.symm
        have e2 : (43 == x) = false := by simpa using fun h => h2 h.symm
        exact ⟨by simp [pRest, List.isPrefixOf, e1, e2], by simp [pNeg, List.isPrefixOf, e1], by simp [List.isPrefixOf, e1], by simp [List.isPrefixOf, e2]⟩
theorem cut2 (T : List UInt8) (p q : UInt8) (hT : T.length ≤ 1000000000) (w : World) (b : Bool) (hb : ([p, q] : List UInt8).isPrefixOf T = b) : Calls Tryz.prog 138 #[.string ⟨T.toArray⟩, .string ⟨#[p, q]⟩] w fun e w' => e = .returned (if b then .tuple #[.string ⟨(T.drop 2).toArray⟩, .bool true] else .tuple #[.string ⟨T.toArray⟩, .bool false]) ∧ w' = w := by
  have h := cutPrefix_fn T [p, q] hT (by simp) w
  rw [hb] at h
  exact h
theorem pre1 (S : List UInt8) (p : UInt8) (hS : S.length ≤ 1000000000) (w : World) (b : Bool) (hb : ([p] : List UInt8).isPrefixOf S = b) : Calls Tryz.prog 137 #[.string ⟨S.toArray⟩, .string ⟨#[p]⟩] w fun e w' => e = .returned (.bool b) ∧ w' = w := by
  have h := hasPrefix_fn S [p] hS (by simp) w
  rw [hb] at h
  exact h
theorem ix0 (w : World) : (Instr.index 120 (.agg #[.string ⟨#[48, 120]⟩, .int .i64 16, .string ⟨#[48, 111]⟩, .int .i64 8, .string ⟨#[48, 98]⟩, .int .i64 2]) (.int .i64 0)).run Tryz.prog w = .ok (.agg #[.string ⟨#[48, 120]⟩, .int .i64 16]) w := by kernel_rfl
theorem ix1 (w : World) : (Instr.index 120 (.agg #[.string ⟨#[48, 120]⟩, .int .i64 16, .string ⟨#[48, 111]⟩, .int .i64 8, .string ⟨#[48, 98]⟩, .int .i64 2]) (.int .i64 1)).run Tryz.prog w = .ok (.agg #[.string ⟨#[48, 111]⟩, .int .i64 8]) w := by kernel_rfl
theorem ix2 (w : World) : (Instr.index 120 (.agg #[.string ⟨#[48, 120]⟩, .int .i64 16, .string ⟨#[48, 111]⟩, .int .i64 8, .string ⟨#[48, 98]⟩, .int .i64 2]) (.int .i64 2)).run Tryz.prog w = .ok (.agg #[.string ⟨#[48, 98]⟩, .int .i64 2]) w := by kernel_rfl
/-- what 'parse' answers -/
def ParseP (l : List UInt8) (w : World) (e : Ending) (w' : World) : Prop :=
  ∃ v, e = .returned (.tuple #[v, .bool (pOK l)]) ∧ Below w.heap.size w w' ∧ (pOK l = true → PNumO w' w.heap.size v (pVal l)) ∧ (∃ a n c g h, v = .agg #[.slice a n c, .bool g, .bool h])
set_option maxRecDepth 100000 in
set_option maxHeartbeats 4000000 in
theorem parse_fn (l : List UInt8) (hl : l.length ≤ 1000000000) (w : World) :
    Calls Tryz.prog 117 #[.string ⟨l.toArray⟩] w (ParseP l w) := by
  have k0 := Blk.new w #[.slice none 0 0, .bool false, .bool false] 49
  have hb0 : Below w.heap.size w (w.alloc (.cells #[.slice none 0 0, .bool false, .bool false] 49)) := (Below.refl _ _).alloc (Nat.le_refl _) _
  have hsz0 : (w.alloc (.cells #[.slice none 0 0, .bool false, .bool false] 49)).heap.size = w.heap.size + 1 := by simp
  go_enter Tryz.func117, Tryz.ntmps117
  go_upto_block 0 with fail
  generalize w.alloc (.cells #[.slice none 0 0, .bool false, .bool false] 49) = W at *
  go_cut [0] from 9 to 17 (fun v wx => v = .string ⟨(l.dropWhile isWh).toArray⟩ ∧ W = wx)
  case first =>
    go_wp2_with fail
    go_loop [0] (fun v => ∃ t : List UInt8, t.length ≤ 1000000000 ∧ v = .string ⟨t.toArray⟩ ∧ t.dropWhile isWh = l.dropWhile isWh) (fun v => Lib.strSize v)
    case atStart => exact ⟨l, hl, rfl, rfl⟩
    case round =>
      obtain ⟨t, ht, rfl, he⟩ := hrel
      have hE := hid he
      clear he
      cases t with
      | cons x t =>
        have h1 : (⟨(x :: t).toArray⟩ : ByteArray).size = t.length + 1 := by rw [Lib.size_mk]; simp
        have h2 : (⟨(x :: t).toArray⟩ : ByteArray).extract 1 (t.length + 1) = ⟨t.toArray⟩ := by
          rw [Lib.extract_mk]; simp
        have hx : ∀ h, (⟨(x :: t).toArray⟩ : ByteArray)[0]'h = x := fun h => rfl
        have hne : (x :: t == ([] : List UInt8)) = false := rfl
        have hl' : t.length ≤ 999999999 := by simpa using ht
        have hc := hid (white_fn x W)
        clear ht
        go_wp2_with fail
        (with_reducible refine hc.out.mono ?_); rintro e w' ⟨rfl, rfl⟩
        cases hw : isWh x
        · have hd : (x :: t).dropWhile isWh = x :: t := by rw [List.dropWhile_cons, hw]; rfl
          go_wp2
          go_meet
          case rel => exact ⟨by rw [← hE.out, hd], rfl⟩
        · have hd : (x :: t).dropWhile isWh = t.dropWhile isWh := by rw [List.dropWhile_cons, hw]; rfl
          go_wp2
          refine ⟨⟨t, by omega, rfl, by rw [← hE.out, hd]⟩, ?_⟩
          rw [Lib.strSize_string, Lib.strSize_string, h1, Lib.size_mk]
          omega
      | nil =>
        have h1 : (⟨([] : List UInt8).toArray⟩ : ByteArray).size = 0 := rfl
        go_wp2
        go_meet
        case rel => exact ⟨by rw [← hE.out]; rfl, rfl⟩
  case rest =>
    obtain ⟨rfl, rfl⟩ := hcut
    have hL : (l.dropWhile isWh).length ≤ 1000000000 := Nat.le_trans (List.dropWhile_sublist _).length_le hl
    go_upto_block 2 with fail
    go_cut [0] from 18 to 32 (fun v wx => v = .string ⟨(strip l).toArray⟩ ∧ W = wx)
    case first =>
      go_wp2_with fail
      go_loop [0] (fun v => ∃ t : List UInt8, t.length ≤ 1000000000 ∧ v = .string ⟨t.toArray⟩ ∧ (t.reverse.dropWhile isWh).reverse = strip l) (fun v => Lib.strSize v)
      case atStart => exact ⟨_, hL, rfl, rfl⟩
      case round =>
        obtain ⟨t, ht, rfl, he⟩ := hrel
        have hE := hid he
        clear he
        rcases nil_or_snoc t with rfl | ⟨t, x, rfl⟩
        · have h1 : (⟨([] : List UInt8).toArray⟩ : ByteArray).size = 0 := rfl
          go_wp2
          go_meet
          case rel => exact ⟨by rw [← hE.out]; rfl, rfl⟩
        · have hre : (t ++ [x]).reverse = x :: t.reverse := by simp
          rw [hre] at hE
          have hE := hid hE.out
          clear hre
          have h1 : (⟨(t ++ [x]).toArray⟩ : ByteArray).size = t.length + 1 := by rw [Lib.size_mk]; simp
          have h2 : (⟨(t ++ [x]).toArray⟩ : ByteArray).extract 0 t.length = ⟨t.toArray⟩ := by
            rw [Lib.extract_mk]; simp
          have hx : ∀ h, (⟨(t ++ [x]).toArray⟩ : ByteArray)[t.length]'h = x := by
            intro h
            show (t ++ [x])[t.length] = x
            simp
          have hne : ((t ++ [x]) == ([] : List UInt8)) = false := by cases t <;> rfl
          have hl' : t.length ≤ 999999999 := by simpa using ht
          have hc := hid (white_fn x W)
          clear ht
          generalize hT : t ++ [x] = T at *
          have HT := hid hT
          clear hT
          go_wp2_with fail
          (with_reducible refine hc.out.mono ?_); rintro e w' ⟨rfl, rfl⟩
          cases hw : isWh x
          · have hd : (x :: t.reverse).dropWhile isWh = x :: t.reverse := by rw [List.dropWhile_cons, hw]; rfl
            go_wp2
            go_meet
            case rel => exact ⟨by rw [← hE.out, hd]; simp [HT.out], rfl⟩
          · have hd : (x :: t.reverse).dropWhile isWh = t.reverse.dropWhile isWh := by rw [List.dropWhile_cons, hw]; rfl
            go_wp2
            refine ⟨⟨t, by omega, rfl, by rw [← hE.out, hd]⟩, ?_⟩
            rw [Lib.strSize_string, Lib.strSize_string, h1, Lib.size_mk]
            omega
    case rest =>
      obtain ⟨rfl, rfl⟩ := hcut
      have hS : (strip l).length ≤ 1000000000 := Nat.le_trans (strip_len l) hl
      clear hL
      have hok : pOK l = rOK (pBase (pRest (strip l))) (pBody (pRest (strip l))) := rfl
      have hval : pVal l = sgnInt (pNeg (strip l)) (numOf (pBase (pRest (strip l))) (pBody (pRest (strip l)))) := rfl
      generalize strip l = S at *
      obtain ⟨T, hT, hcase⟩ := sign_cases S
      rw [hT] at hok hval
      clear hT
      have HOK := hid hok
      have HVAL := hid hval
      clear hok hval
      rcases hcase with ⟨rfl, hn⟩ | ⟨rfl, hn, hm, hp⟩ | ⟨hST, hn, hm, hp⟩
      · rw [hn] at HVAL
        have hc1 := hid (pre1 _ 45 hS W true rfl)
        have h1 : (⟨(45 :: T).toArray⟩ : ByteArray).size = T.length + 1 := by rw [Lib.size_mk]; simp
        have h2 : (⟨(45 :: T).toArray⟩ : ByteArray).extract 1 (T.length + 1) = ⟨T.toArray⟩ := by rw [Lib.extract_mk]; simp
        have hT' : T.length ≤ 999999999 := by simpa using hS
        go_upto_block 4 with (first | fail | (with_reducible refine hc1.out.mono ?_); rintro e w' ⟨rfl, rfl⟩)
        clear hc1 h1 h2 hS
        go_wp2_with fail
        go_loopw [46] (fun iv wr => ∃ i : Nat, iv = .int .i64 i ∧ i ≤ 3 ∧ (0 < i → ([48, 120] : List UInt8).isPrefixOf T = false) ∧ (1 < i → ([48, 111] : List UInt8).isPrefixOf T = false) ∧ (2 < i → ([48, 98] : List UInt8).isPrefixOf T = false) ∧ Below w.heap.size w wr ∧ Blk wr w.heap.size #[.slice none 0 0, .bool false, .bool false] 49) (fun iv _ => 3 - (intOf iv).toNat)
        case atStart => exact ⟨0, rfl, by decide, fun h => absurd h (by decide), fun h => absurd h (by decide), fun h => absurd h (by decide), hb0, k0⟩
        case round =>
          obtain ⟨i, rfl, hi, n1, n2, n3, hbr, kr⟩ := hrel
          clear k0 hb0 hsz0
          have x0 := ix0
          have x1 := ix1
          have x2 := ix2
          have hd2 : (T.drop 2).length ≤ 1000000000 := by rw [List.length_drop]; omega
          obtain rfl | rfl | rfl | rfl : i = 0 ∨ i = 1 ∨ i = 2 ∨ i = 3 := by omega
          · cases hpre : ([48, 120] : List UInt8).isPrefixOf T
            · have hc := hid (cut2 T 48 120 (by omega) (wr.alloc (.cells #[.string ⟨#[48, 120]⟩, .int .i64 16] 119)) false hpre)
              have hbn : Below w.heap.size w (wr.alloc (.cells #[.string ⟨#[48, 120]⟩, .int .i64 16] 119)) := hbr.alloc hbr.size _
              have kn := kr.alloc (.cells #[.string ⟨#[48, 120]⟩, .int .i64 16] 119)
              go_wp2_with fail
              (with_reducible refine hc.out.mono ?_); rintro e w' ⟨rfl, rfl⟩
              go_wp2
              go_roundw
              case rel => exact ⟨1, rfl, by decide, (by first | trivial | exact fun _ => hpre), fun h => absurd h (by decide), fun h => absurd h (by decide), hbn, kn⟩
              case measure => simp [intOf]
            · have hc := hid (cut2 T 48 120 (by omega) (wr.alloc (.cells #[.string ⟨#[48, 120]⟩, .int .i64 16] 119)) true hpre)
              have hcr := hid (read_at (T.drop 2) hd2 16 16 rfl (by decide) (by decide) true (wr.alloc (.cells #[.string ⟨#[48, 120]⟩, .int .i64 16] 119)))
              have e1 : pBase T = 16 := by simp [pBase, hpre]
              have e2 : pBody T = T.drop 2 := by simp [pBody, hpre]
              rw [e1, e2] at HOK HVAL
              have HOK := hid HOK.out
              have HVAL := hid HVAL.out
              clear e1 e2
              have hbn : Below w.heap.size w (wr.alloc (.cells #[.string ⟨#[48, 120]⟩, .int .i64 16] 119)) := hbr.alloc hbr.size _
              have kn := kr.alloc (.cells #[.string ⟨#[48, 120]⟩, .int .i64 16] 119)
              go_wp2_with fail
              (with_reducible refine hc.out.mono ?_); rintro e w' ⟨rfl, rfl⟩
              go_wp2_with fail
              (with_reducible refine hcr.out.mono ?_); rintro e w4 ⟨v, rfl, hb4, hp4, x1, x2, x3, y, z, rfl⟩
              obtain ⟨⟨r1, r2, r3⟩, r4, r5, r6⟩ := (kn.later hb4).three
              have hlt := kn.lt
              go_wp2
              have hbF := (((hbn.trans (hb4.mono hbn.size)).setCell (p := ⟨w.heap.size, 0, none⟩) (Nat.le_refl _) (.slice x1 x2 x3)).setCell (p := ⟨w.heap.size, 1, none⟩) (Nat.le_refl _) (.bool y)).setCell (p := ⟨w.heap.size, 2, none⟩) (Nat.le_refl _) (.bool z)
              try simp only [Exit.inBlock, Exit.then]
              refine bodyPost_ret (v := .tuple #[.agg #[.slice x1 x2 x3, .bool y, .bool z], .bool (rOK 16 (T.drop 2))]) (by simp [results, Tryz.results117, go_sem, r1, r2, r3]) rfl ⟨_, by rw [HOK.out], hbF, fun h => ?_, ⟨_, _, _, _, _, rfl⟩⟩
              rw [HVAL.out]
              exact (((hp4 (by rw [← HOK.out]; exact h)).set3 hlt (.slice x1 x2 x3) (.bool y) (.bool z)).mono (Nat.le_of_lt hlt))
          · have m1 := n1 (by decide)
            cases hpre : ([48, 111] : List UInt8).isPrefixOf T
            · have hc := hid (cut2 T 48 111 (by omega) (wr.alloc (.cells #[.string ⟨#[48, 111]⟩, .int .i64 8] 119)) false hpre)
              have hbn : Below w.heap.size w (wr.alloc (.cells #[.string ⟨#[48, 111]⟩, .int .i64 8] 119)) := hbr.alloc hbr.size _
              have kn := kr.alloc (.cells #[.string ⟨#[48, 111]⟩, .int .i64 8] 119)
              go_wp2_with fail
              (with_reducible refine hc.out.mono ?_); rintro e w' ⟨rfl, rfl⟩
              go_wp2
              go_roundw
              case rel => exact ⟨2, rfl, by decide, (by first | trivial | exact fun _ => m1), (by first | trivial | exact fun _ => hpre), fun h => absurd h (by decide), hbn, kn⟩
              case measure => simp [intOf]
            · have hc := hid (cut2 T 48 111 (by omega) (wr.alloc (.cells #[.string ⟨#[48, 111]⟩, .int .i64 8] 119)) true hpre)
              have hcr := hid (read_at (T.drop 2) hd2 8 8 rfl (by decide) (by decide) true (wr.alloc (.cells #[.string ⟨#[48, 111]⟩, .int .i64 8] 119)))
              have e1 : pBase T = 8 := by simp [pBase, m1, hpre]
              have e2 : pBody T = T.drop 2 := by simp [pBody, hpre]
              rw [e1, e2] at HOK HVAL
              have HOK := hid HOK.out
              have HVAL := hid HVAL.out
              clear e1 e2
              have hbn : Below w.heap.size w (wr.alloc (.cells #[.string ⟨#[48, 111]⟩, .int .i64 8] 119)) := hbr.alloc hbr.size _
              have kn := kr.alloc (.cells #[.string ⟨#[48, 111]⟩, .int .i64 8] 119)
              go_wp2_with fail
              (with_reducible refine hc.out.mono ?_); rintro e w' ⟨rfl, rfl⟩
              go_wp2_with fail
              (with_reducible refine hcr.out.mono ?_); rintro e w4 ⟨v, rfl, hb4, hp4, x1, x2, x3, y, z, rfl⟩
              obtain ⟨⟨r1, r2, r3⟩, r4, r5, r6⟩ := (kn.later hb4).three
              have hlt := kn.lt
              go_wp2
              have hbF := (((hbn.trans (hb4.mono hbn.size)).setCell (p := ⟨w.heap.size, 0, none⟩) (Nat.le_refl _) (.slice x1 x2 x3)).setCell (p := ⟨w.heap.size, 1, none⟩) (Nat.le_refl _) (.bool y)).setCell (p := ⟨w.heap.size, 2, none⟩) (Nat.le_refl _) (.bool z)
              try simp only [Exit.inBlock, Exit.then]
              refine bodyPost_ret (v := .tuple #[.agg #[.slice x1 x2 x3, .bool y, .bool z], .bool (rOK 8 (T.drop 2))]) (by simp [results, Tryz.results117, go_sem, r1, r2, r3]) rfl ⟨_, by rw [HOK.out], hbF, fun h => ?_, ⟨_, _, _, _, _, rfl⟩⟩
              rw [HVAL.out]
              exact (((hp4 (by rw [← HOK.out]; exact h)).set3 hlt (.slice x1 x2 x3) (.bool y) (.bool z)).mono (Nat.le_of_lt hlt))
          · have m1 := n1 (by decide)
            have m2 := n2 (by decide)
            cases hpre : ([48, 98] : List UInt8).isPrefixOf T
            · have hc := hid (cut2 T 48 98 (by omega) (wr.alloc (.cells #[.string ⟨#[48, 98]⟩, .int .i64 2] 119)) false hpre)
              have hbn : Below w.heap.size w (wr.alloc (.cells #[.string ⟨#[48, 98]⟩, .int .i64 2] 119)) := hbr.alloc hbr.size _
              have kn := kr.alloc (.cells #[.string ⟨#[48, 98]⟩, .int .i64 2] 119)
              go_wp2_with fail
              (with_reducible refine hc.out.mono ?_); rintro e w' ⟨rfl, rfl⟩
              go_wp2
              go_roundw
              case rel => exact ⟨3, rfl, by decide, (by first | trivial | exact fun _ => m1), (by first | trivial | exact fun _ => m2), (by first | trivial | exact fun _ => hpre), hbn, kn⟩
              case measure => simp [intOf]
            · have hc := hid (cut2 T 48 98 (by omega) (wr.alloc (.cells #[.string ⟨#[48, 98]⟩, .int .i64 2] 119)) true hpre)
              have hcr := hid (read_at (T.drop 2) hd2 2 2 rfl (by decide) (by decide) true (wr.alloc (.cells #[.string ⟨#[48, 98]⟩, .int .i64 2] 119)))
              have e1 : pBase T = 2 := by simp [pBase, m1, m2, hpre]
              have e2 : pBody T = T.drop 2 := by simp [pBody, hpre]
              rw [e1, e2] at HOK HVAL
              have HOK := hid HOK.out
              have HVAL := hid HVAL.out
              clear e1 e2
              have hbn : Below w.heap.size w (wr.alloc (.cells #[.string ⟨#[48, 98]⟩, .int .i64 2] 119)) := hbr.alloc hbr.size _
              have kn := kr.alloc (.cells #[.string ⟨#[48, 98]⟩, .int .i64 2] 119)
              go_wp2_with fail
              (with_reducible refine hc.out.mono ?_); rintro e w' ⟨rfl, rfl⟩
              go_wp2_with fail
              (with_reducible refine hcr.out.mono ?_); rintro e w4 ⟨v, rfl, hb4, hp4, x1, x2, x3, y, z, rfl⟩
              obtain ⟨⟨r1, r2, r3⟩, r4, r5, r6⟩ := (kn.later hb4).three
              have hlt := kn.lt
              go_wp2
              have hbF := (((hbn.trans (hb4.mono hbn.size)).setCell (p := ⟨w.heap.size, 0, none⟩) (Nat.le_refl _) (.slice x1 x2 x3)).setCell (p := ⟨w.heap.size, 1, none⟩) (Nat.le_refl _) (.bool y)).setCell (p := ⟨w.heap.size, 2, none⟩) (Nat.le_refl _) (.bool z)
              try simp only [Exit.inBlock, Exit.then]
              refine bodyPost_ret (v := .tuple #[.agg #[.slice x1 x2 x3, .bool y, .bool z], .bool (rOK 2 (T.drop 2))]) (by simp [results, Tryz.results117, go_sem, r1, r2, r3]) rfl ⟨_, by rw [HOK.out], hbF, fun h => ?_, ⟨_, _, _, _, _, rfl⟩⟩
              rw [HVAL.out]
              exact (((hp4 (by rw [← HOK.out]; exact h)).set3 hlt (.slice x1 x2 x3) (.bool y) (.bool z)).mono (Nat.le_of_lt hlt))
          · have m1 := n1 (by decide)
            have m2 := n2 (by decide)
            have m3 := n3 (by decide)
            have hcr := hid (read_at T (by omega) 10 10 rfl (by decide) (by decide) true wr)
            have e1 : pBase T = 10 := by simp [pBase, m1, m2, m3]
            have e2 : pBody T = T := by simp [pBody, m1, m2, m3]
            rw [e1, e2] at HOK HVAL
            have HOK := hid HOK.out
            have HVAL := hid HVAL.out
            clear e1 e2
            go_wp2_with fail
            (with_reducible refine hcr.out.mono ?_); rintro e w4 ⟨v, rfl, hb4, hp4, x1, x2, x3, y, z, rfl⟩
            obtain ⟨⟨r1, r2, r3⟩, r4, r5, r6⟩ := (kr.later hb4).three
            have hlt := kr.lt
            go_wp2
            have hbF := (((hbr.trans (hb4.mono hbr.size)).setCell (p := ⟨w.heap.size, 0, none⟩) (Nat.le_refl _) (.slice x1 x2 x3)).setCell (p := ⟨w.heap.size, 1, none⟩) (Nat.le_refl _) (.bool y)).setCell (p := ⟨w.heap.size, 2, none⟩) (Nat.le_refl _) (.bool z)
            try simp only [Exit.inBlock, Exit.then]
            refine bodyPost_ret (v := .tuple #[.agg #[.slice x1 x2 x3, .bool y, .bool z], .bool (rOK 10 T)]) (by simp [results, Tryz.results117, go_sem, r1, r2, r3]) rfl ⟨_, by rw [HOK.out], hbF, fun h => ?_, ⟨_, _, _, _, _, rfl⟩⟩
            rw [HVAL.out]
            exact (((hp4 (by rw [← HOK.out]; exact h)).set3 hlt (.slice x1 x2 x3) (.bool y) (.bool z)).mono (Nat.le_of_lt hlt))
      · rw [hn] at HVAL
        have hc1 := hid (pre1 _ 45 hS W false hm)
        have hc2 := hid (pre1 _ 43 hS W true hp)
        have h1 : (⟨(43 :: T).toArray⟩ : ByteArray).size = T.length + 1 := by rw [Lib.size_mk]; simp
        have h2 : (⟨(43 :: T).toArray⟩ : ByteArray).extract 1 (T.length + 1) = ⟨T.toArray⟩ := by rw [Lib.extract_mk]; simp
        have hT' : T.length ≤ 999999999 := by simpa using hS
        clear hn hm hp
        go_upto_block 4 with (first | fail | (with_reducible refine hc1.out.mono ?_); rintro e w' ⟨rfl, rfl⟩ | (with_reducible refine hc2.out.mono ?_); rintro e w' ⟨rfl, rfl⟩)
        clear hc1 hc2 h1 h2 hS
        go_wp2_with fail
        go_loopw [46] (fun iv wr => ∃ i : Nat, iv = .int .i64 i ∧ i ≤ 3 ∧ (0 < i → ([48, 120] : List UInt8).isPrefixOf T = false) ∧ (1 < i → ([48, 111] : List UInt8).isPrefixOf T = false) ∧ (2 < i → ([48, 98] : List UInt8).isPrefixOf T = false) ∧ Below w.heap.size w wr ∧ Blk wr w.heap.size #[.slice none 0 0, .bool false, .bool false] 49) (fun iv _ => 3 - (intOf iv).toNat)
        case atStart => exact ⟨0, rfl, by decide, fun h => absurd h (by decide), fun h => absurd h (by decide), fun h => absurd h (by decide), hb0, k0⟩
        case round =>
          obtain ⟨i, rfl, hi, n1, n2, n3, hbr, kr⟩ := hrel
          clear k0 hb0 hsz0
          have x0 := ix0
          have x1 := ix1
          have x2 := ix2
          have hd2 : (T.drop 2).length ≤ 1000000000 := by rw [List.length_drop]; omega
          obtain rfl | rfl | rfl | rfl : i = 0 ∨ i = 1 ∨ i = 2 ∨ i = 3 := by omega
          · cases hpre : ([48, 120] : List UInt8).isPrefixOf T
            · have hc := hid (cut2 T 48 120 (by omega) (wr.alloc (.cells #[.string ⟨#[48, 120]⟩, .int .i64 16] 119)) false hpre)
              have hbn : Below w.heap.size w (wr.alloc (.cells #[.string ⟨#[48, 120]⟩, .int .i64 16] 119)) := hbr.alloc hbr.size _
              have kn := kr.alloc (.cells #[.string ⟨#[48, 120]⟩, .int .i64 16] 119)
              go_wp2_with fail
              (with_reducible refine hc.out.mono ?_); rintro e w' ⟨rfl, rfl⟩
              go_wp2
              go_roundw
              case rel => exact ⟨1, rfl, by decide, (by first | trivial | exact fun _ => hpre), fun h => absurd h (by decide), fun h => absurd h (by decide), hbn, kn⟩
              case measure => simp [intOf]
            · have hc := hid (cut2 T 48 120 (by omega) (wr.alloc (.cells #[.string ⟨#[48, 120]⟩, .int .i64 16] 119)) true hpre)
              have hcr := hid (read_at (T.drop 2) hd2 16 16 rfl (by decide) (by decide) false (wr.alloc (.cells #[.string ⟨#[48, 120]⟩, .int .i64 16] 119)))
              have e1 : pBase T = 16 := by simp [pBase, hpre]
              have e2 : pBody T = T.drop 2 := by simp [pBody, hpre]
              rw [e1, e2] at HOK HVAL
              have HOK := hid HOK.out
              have HVAL := hid HVAL.out
              clear e1 e2
              have hbn : Below w.heap.size w (wr.alloc (.cells #[.string ⟨#[48, 120]⟩, .int .i64 16] 119)) := hbr.alloc hbr.size _
              have kn := kr.alloc (.cells #[.string ⟨#[48, 120]⟩, .int .i64 16] 119)
              go_wp2_with fail
              (with_reducible refine hc.out.mono ?_); rintro e w' ⟨rfl, rfl⟩
              go_wp2_with fail
              (with_reducible refine hcr.out.mono ?_); rintro e w4 ⟨v, rfl, hb4, hp4, x1, x2, x3, y, z, rfl⟩
              obtain ⟨⟨r1, r2, r3⟩, r4, r5, r6⟩ := (kn.later hb4).three
              have hlt := kn.lt
              go_wp2
              have hbF := (((hbn.trans (hb4.mono hbn.size)).setCell (p := ⟨w.heap.size, 0, none⟩) (Nat.le_refl _) (.slice x1 x2 x3)).setCell (p := ⟨w.heap.size, 1, none⟩) (Nat.le_refl _) (.bool y)).setCell (p := ⟨w.heap.size, 2, none⟩) (Nat.le_refl _) (.bool z)
              try simp only [Exit.inBlock, Exit.then]
              refine bodyPost_ret (v := .tuple #[.agg #[.slice x1 x2 x3, .bool y, .bool z], .bool (rOK 16 (T.drop 2))]) (by simp [results, Tryz.results117, go_sem, r1, r2, r3]) rfl ⟨_, by rw [HOK.out], hbF, fun h => ?_, ⟨_, _, _, _, _, rfl⟩⟩
              rw [HVAL.out]
              exact (((hp4 (by rw [← HOK.out]; exact h)).set3 hlt (.slice x1 x2 x3) (.bool y) (.bool z)).mono (Nat.le_of_lt hlt))
          · have m1 := n1 (by decide)
            cases hpre : ([48, 111] : List UInt8).isPrefixOf T
            · have hc := hid (cut2 T 48 111 (by omega) (wr.alloc (.cells #[.string ⟨#[48, 111]⟩, .int .i64 8] 119)) false hpre)
              have hbn : Below w.heap.size w (wr.alloc (.cells #[.string ⟨#[48, 111]⟩, .int .i64 8] 119)) := hbr.alloc hbr.size _
              have kn := kr.alloc (.cells #[.string ⟨#[48, 111]⟩, .int .i64 8] 119)
              go_wp2_with fail
              (with_reducible refine hc.out.mono ?_); rintro e w' ⟨rfl, rfl⟩
              go_wp2
              go_roundw
              case rel => exact ⟨2, rfl, by decide, (by first | trivial | exact fun _ => m1), (by first | trivial | exact fun _ => hpre), fun h => absurd h (by decide), hbn, kn⟩
              case measure => simp [intOf]
            · have hc := hid (cut2 T 48 111 (by omega) (wr.alloc (.cells #[.string ⟨#[48, 111]⟩, .int .i64 8] 119)) true hpre)
              have hcr := hid (read_at (T.drop 2) hd2 8 8 rfl (by decide) (by decide) false (wr.alloc (.cells #[.string ⟨#[48, 111]⟩, .int .i64 8] 119)))
              have e1 : pBase T = 8 := by simp [pBase, m1, hpre]
              have e2 : pBody T = T.drop 2 := by simp [pBody, hpre]
              rw [e1, e2] at HOK HVAL
              have HOK := hid HOK.out
              have HVAL := hid HVAL.out
              clear e1 e2
              have hbn : Below w.heap.size w (wr.alloc (.cells #[.string ⟨#[48, 111]⟩, .int .i64 8] 119)) := hbr.alloc hbr.size _
              have kn := kr.alloc (.cells #[.string ⟨#[48, 111]⟩, .int .i64 8] 119)
              go_wp2_with fail
              (with_reducible refine hc.out.mono ?_); rintro e w' ⟨rfl, rfl⟩
              go_wp2_with fail
              (with_reducible refine hcr.out.mono ?_); rintro e w4 ⟨v, rfl, hb4, hp4, x1, x2, x3, y, z, rfl⟩
              obtain ⟨⟨r1, r2, r3⟩, r4, r5, r6⟩ := (kn.later hb4).three
              have hlt := kn.lt
              go_wp2
              have hbF := (((hbn.trans (hb4.mono hbn.size)).setCell (p := ⟨w.heap.size, 0, none⟩) (Nat.le_refl _) (.slice x1 x2 x3)).setCell (p := ⟨w.heap.size, 1, none⟩) (Nat.le_refl _) (.bool y)).setCell (p := ⟨w.heap.size, 2, none⟩) (Nat.le_refl _) (.bool z)
              try simp only [Exit.inBlock, Exit.then]
              refine bodyPost_ret (v := .tuple #[.agg #[.slice x1 x2 x3, .bool y, .bool z], .bool (rOK 8 (T.drop 2))]) (by simp [results, Tryz.results117, go_sem, r1, r2, r3]) rfl ⟨_, by rw [HOK.out], hbF, fun h => ?_, ⟨_, _, _, _, _, rfl⟩⟩
              rw [HVAL.out]
              exact (((hp4 (by rw [← HOK.out]; exact h)).set3 hlt (.slice x1 x2 x3) (.bool y) (.bool z)).mono (Nat.le_of_lt hlt))
          · have m1 := n1 (by decide)
            have m2 := n2 (by decide)
            cases hpre : ([48, 98] : List UInt8).isPrefixOf T
            · have hc := hid (cut2 T 48 98 (by omega) (wr.alloc (.cells #[.string ⟨#[48, 98]⟩, .int .i64 2] 119)) false hpre)
              have hbn : Below w.heap.size w (wr.alloc (.cells #[.string ⟨#[48, 98]⟩, .int .i64 2] 119)) := hbr.alloc hbr.size _
              have kn := kr.alloc (.cells #[.string ⟨#[48, 98]⟩, .int .i64 2] 119)
              go_wp2_with fail
              (with_reducible refine hc.out.mono ?_); rintro e w' ⟨rfl, rfl⟩
              go_wp2
              go_roundw
              case rel => exact ⟨3, rfl, by decide, (by first | trivial | exact fun _ => m1), (by first | trivial | exact fun _ => m2), (by first | trivial | exact fun _ => hpre), hbn, kn⟩
              case measure => simp [intOf]
            · have hc := hid (cut2 T 48 98 (by omega) (wr.alloc (.cells #[.string ⟨#[48, 98]⟩, .int .i64 2] 119)) true hpre)
              have hcr := hid (read_at (T.drop 2) hd2 2 2 rfl (by decide) (by decide) false (wr.alloc (.cells #[.string ⟨#[48, 98]⟩, .int .i64 2] 119)))
              have e1 : pBase T = 2 := by simp [pBase, m1, m2, hpre]
              have e2 : pBody T = T.drop 2 := by simp [pBody, hpre]
              rw [e1, e2] at HOK HVAL
              have HOK := hid HOK.out
              have HVAL := hid HVAL.out
              clear e1 e2
              have hbn : Below w.heap.size w (wr.alloc (.cells #[.string ⟨#[48, 98]⟩, .int .i64 2] 119)) := hbr.alloc hbr.size _
              have kn := kr.alloc (.cells #[.string ⟨#[48, 98]⟩, .int .i64 2] 119)
              go_wp2_with fail
              (with_reducible refine hc.out.mono ?_); rintro e w' ⟨rfl, rfl⟩
              go_wp2_with fail
              (with_reducible refine hcr.out.mono ?_); rintro e w4 ⟨v, rfl, hb4, hp4, x1, x2, x3, y, z, rfl⟩
              obtain ⟨⟨r1, r2, r3⟩, r4, r5, r6⟩ := (kn.later hb4).three
              have hlt := kn.lt
              go_wp2
              have hbF := (((hbn.trans (hb4.mono hbn.size)).setCell (p := ⟨w.heap.size, 0, none⟩) (Nat.le_refl _) (.slice x1 x2 x3)).setCell (p := ⟨w.heap.size, 1, none⟩) (Nat.le_refl _) (.bool y)).setCell (p := ⟨w.heap.size, 2, none⟩) (Nat.le_refl _) (.bool z)
              try simp only [Exit.inBlock, Exit.then]
              refine bodyPost_ret (v := .tuple #[.agg #[.slice x1 x2 x3, .bool y, .bool z], .bool (rOK 2 (T.drop 2))]) (by simp [results, Tryz.results117, go_sem, r1, r2, r3]) rfl ⟨_, by rw [HOK.out], hbF, fun h => ?_, ⟨_, _, _, _, _, rfl⟩⟩
              rw [HVAL.out]
              exact (((hp4 (by rw [← HOK.out]; exact h)).set3 hlt (.slice x1 x2 x3) (.bool y) (.bool z)).mono (Nat.le_of_lt hlt))
          · have m1 := n1 (by decide)
            have m2 := n2 (by decide)
            have m3 := n3 (by decide)
            have hcr := hid (read_at T (by omega) 10 10 rfl (by decide) (by decide) false wr)
            have e1 : pBase T = 10 := by simp [pBase, m1, m2, m3]
            have e2 : pBody T = T := by simp [pBody, m1, m2, m3]
            rw [e1, e2] at HOK HVAL
            have HOK := hid HOK.out
            have HVAL := hid HVAL.out
            clear e1 e2
            go_wp2_with fail
            (with_reducible refine hcr.out.mono ?_); rintro e w4 ⟨v, rfl, hb4, hp4, x1, x2, x3, y, z, rfl⟩
            obtain ⟨⟨r1, r2, r3⟩, r4, r5, r6⟩ := (kr.later hb4).three
            have hlt := kr.lt
            go_wp2
            have hbF := (((hbr.trans (hb4.mono hbr.size)).setCell (p := ⟨w.heap.size, 0, none⟩) (Nat.le_refl _) (.slice x1 x2 x3)).setCell (p := ⟨w.heap.size, 1, none⟩) (Nat.le_refl _) (.bool y)).setCell (p := ⟨w.heap.size, 2, none⟩) (Nat.le_refl _) (.bool z)
            try simp only [Exit.inBlock, Exit.then]
            refine bodyPost_ret (v := .tuple #[.agg #[.slice x1 x2 x3, .bool y, .bool z], .bool (rOK 10 T)]) (by simp [results, Tryz.results117, go_sem, r1, r2, r3]) rfl ⟨_, by rw [HOK.out], hbF, fun h => ?_, ⟨_, _, _, _, _, rfl⟩⟩
            rw [HVAL.out]
            exact (((hp4 (by rw [← HOK.out]; exact h)).set3 hlt (.slice x1 x2 x3) (.bool y) (.bool z)).mono (Nat.le_of_lt hlt))
      · have hST' := hST.symm
        subst hST'
        rw [hn] at HVAL
        have hc1 := hid (pre1 _ 45 hS W false hm)
        have hc2 := hid (pre1 _ 43 hS W false hp)
        have hT' := hS
        clear hn hm hp
        go_upto_block 4 with (first | fail | (with_reducible refine hc1.out.mono ?_); rintro e w' ⟨rfl, rfl⟩ | (with_reducible refine hc2.out.mono ?_); rintro e w' ⟨rfl, rfl⟩)
        clear hc1 hc2 hS
        go_wp2_with fail
        go_loopw [46] (fun iv wr => ∃ i : Nat, iv = .int .i64 i ∧ i ≤ 3 ∧ (0 < i → ([48, 120] : List UInt8).isPrefixOf T = false) ∧ (1 < i → ([48, 111] : List UInt8).isPrefixOf T = false) ∧ (2 < i → ([48, 98] : List UInt8).isPrefixOf T = false) ∧ Below w.heap.size w wr ∧ Blk wr w.heap.size #[.slice none 0 0, .bool false, .bool false] 49) (fun iv _ => 3 - (intOf iv).toNat)
        case atStart => exact ⟨0, rfl, by decide, fun h => absurd h (by decide), fun h => absurd h (by decide), fun h => absurd h (by decide), hb0, k0⟩
        case round =>
          obtain ⟨i, rfl, hi, n1, n2, n3, hbr, kr⟩ := hrel
          clear k0 hb0 hsz0
          have x0 := ix0
          have x1 := ix1
          have x2 := ix2
          have hd2 : (T.drop 2).length ≤ 1000000000 := by rw [List.length_drop]; omega
          obtain rfl | rfl | rfl | rfl : i = 0 ∨ i = 1 ∨ i = 2 ∨ i = 3 := by omega
          · cases hpre : ([48, 120] : List UInt8).isPrefixOf T
            · have hc := hid (cut2 T 48 120 (by omega) (wr.alloc (.cells #[.string ⟨#[48, 120]⟩, .int .i64 16] 119)) false hpre)
              have hbn : Below w.heap.size w (wr.alloc (.cells #[.string ⟨#[48, 120]⟩, .int .i64 16] 119)) := hbr.alloc hbr.size _
              have kn := kr.alloc (.cells #[.string ⟨#[48, 120]⟩, .int .i64 16] 119)
              go_wp2_with fail
              (with_reducible refine hc.out.mono ?_); rintro e w' ⟨rfl, rfl⟩
              go_wp2
              go_roundw
              case rel => exact ⟨1, rfl, by decide, (by first | trivial | exact fun _ => hpre), fun h => absurd h (by decide), fun h => absurd h (by decide), hbn, kn⟩
              case measure => simp [intOf]
            · have hc := hid (cut2 T 48 120 (by omega) (wr.alloc (.cells #[.string ⟨#[48, 120]⟩, .int .i64 16] 119)) true hpre)
              have hcr := hid (read_at (T.drop 2) hd2 16 16 rfl (by decide) (by decide) false (wr.alloc (.cells #[.string ⟨#[48, 120]⟩, .int .i64 16] 119)))
              have e1 : pBase T = 16 := by simp [pBase, hpre]
              have e2 : pBody T = T.drop 2 := by simp [pBody, hpre]
              rw [e1, e2] at HOK HVAL
              have HOK := hid HOK.out
              have HVAL := hid HVAL.out
              clear e1 e2
              have hbn : Below w.heap.size w (wr.alloc (.cells #[.string ⟨#[48, 120]⟩, .int .i64 16] 119)) := hbr.alloc hbr.size _
              have kn := kr.alloc (.cells #[.string ⟨#[48, 120]⟩, .int .i64 16] 119)
              go_wp2_with fail
              (with_reducible refine hc.out.mono ?_); rintro e w' ⟨rfl, rfl⟩
              go_wp2_with fail
              (with_reducible refine hcr.out.mono ?_); rintro e w4 ⟨v, rfl, hb4, hp4, x1, x2, x3, y, z, rfl⟩
              obtain ⟨⟨r1, r2, r3⟩, r4, r5, r6⟩ := (kn.later hb4).three
              have hlt := kn.lt
              go_wp2
              have hbF := (((hbn.trans (hb4.mono hbn.size)).setCell (p := ⟨w.heap.size, 0, none⟩) (Nat.le_refl _) (.slice x1 x2 x3)).setCell (p := ⟨w.heap.size, 1, none⟩) (Nat.le_refl _) (.bool y)).setCell (p := ⟨w.heap.size, 2, none⟩) (Nat.le_refl _) (.bool z)
              try simp only [Exit.inBlock, Exit.then]
              refine bodyPost_ret (v := .tuple #[.agg #[.slice x1 x2 x3, .bool y, .bool z], .bool (rOK 16 (T.drop 2))]) (by simp [results, Tryz.results117, go_sem, r1, r2, r3]) rfl ⟨_, by rw [HOK.out], hbF, fun h => ?_, ⟨_, _, _, _, _, rfl⟩⟩
              rw [HVAL.out]
              exact (((hp4 (by rw [← HOK.out]; exact h)).set3 hlt (.slice x1 x2 x3) (.bool y) (.bool z)).mono (Nat.le_of_lt hlt))
          · have m1 := n1 (by decide)
            cases hpre : ([48, 111] : List UInt8).isPrefixOf T
            · have hc := hid (cut2 T 48 111 (by omega) (wr.alloc (.cells #[.string ⟨#[48, 111]⟩, .int .i64 8] 119)) false hpre)
              have hbn : Below w.heap.size w (wr.alloc (.cells #[.string ⟨#[48, 111]⟩, .int .i64 8] 119)) := hbr.alloc hbr.size _
              have kn := kr.alloc (.cells #[.string ⟨#[48, 111]⟩, .int .i64 8] 119)
              go_wp2_with fail
              (with_reducible refine hc.out.mono ?_); rintro e w' ⟨rfl, rfl⟩
              go_wp2
              go_roundw
              case rel => exact ⟨2, rfl, by decide, (by first | trivial | exact fun _ => m1), (by first | trivial | exact fun _ => hpre), fun h => absurd h (by decide), hbn, kn⟩
              case measure => simp [intOf]
            · have hc := hid (cut2 T 48 111 (by omega) (wr.alloc (.cells #[.string ⟨#[48, 111]⟩, .int .i64 8] 119)) true hpre)
              have hcr := hid (read_at (T.drop 2) hd2 8 8 rfl (by decide) (by decide) false (wr.alloc (.cells #[.string ⟨#[48, 111]⟩, .int .i64 8] 119)))
              have e1 : pBase T = 8 := by simp [pBase, m1, hpre]
              have e2 : pBody T = T.drop 2 := by simp [pBody, hpre]
              rw [e1, e2] at HOK HVAL
              have HOK := hid HOK.out
              have HVAL := hid HVAL.out
              clear e1 e2
              have hbn : Below w.heap.size w (wr.alloc (.cells #[.string ⟨#[48, 111]⟩, .int .i64 8] 119)) := hbr.alloc hbr.size _
              have kn := kr.alloc (.cells #[.string ⟨#[48, 111]⟩, .int .i64 8] 119)
              go_wp2_with fail
              (with_reducible refine hc.out.mono ?_); rintro e w' ⟨rfl, rfl⟩
              go_wp2_with fail
              (with_reducible refine hcr.out.mono ?_); rintro e w4 ⟨v, rfl, hb4, hp4, x1, x2, x3, y, z, rfl⟩
              obtain ⟨⟨r1, r2, r3⟩, r4, r5, r6⟩ := (kn.later hb4).three
              have hlt := kn.lt
              go_wp2
              have hbF := (((hbn.trans (hb4.mono hbn.size)).setCell (p := ⟨w.heap.size, 0, none⟩) (Nat.le_refl _) (.slice x1 x2 x3)).setCell (p := ⟨w.heap.size, 1, none⟩) (Nat.le_refl _) (.bool y)).setCell (p := ⟨w.heap.size, 2, none⟩) (Nat.le_refl _) (.bool z)
              try simp only [Exit.inBlock, Exit.then]
              refine bodyPost_ret (v := .tuple #[.agg #[.slice x1 x2 x3, .bool y, .bool z], .bool (rOK 8 (T.drop 2))]) (by simp [results, Tryz.results117, go_sem, r1, r2, r3]) rfl ⟨_, by rw [HOK.out], hbF, fun h => ?_, ⟨_, _, _, _, _, rfl⟩⟩
              rw [HVAL.out]
              exact (((hp4 (by rw [← HOK.out]; exact h)).set3 hlt (.slice x1 x2 x3) (.bool y) (.bool z)).mono (Nat.le_of_lt hlt))
          · have m1 := n1 (by decide)
            have m2 := n2 (by decide)
            cases hpre : ([48, 98] : List UInt8).isPrefixOf T
            · have hc := hid (cut2 T 48 98 (by omega) (wr.alloc (.cells #[.string ⟨#[48, 98]⟩, .int .i64 2] 119)) false hpre)
              have hbn : Below w.heap.size w (wr.alloc (.cells #[.string ⟨#[48, 98]⟩, .int .i64 2] 119)) := hbr.alloc hbr.size _
              have kn := kr.alloc (.cells #[.string ⟨#[48, 98]⟩, .int .i64 2] 119)
              go_wp2_with fail
              (with_reducible refine hc.out.mono ?_); rintro e w' ⟨rfl, rfl⟩
              go_wp2
              go_roundw
              case rel => exact ⟨3, rfl, by decide, (by first | trivial | exact fun _ => m1), (by first | trivial | exact fun _ => m2), (by first | trivial | exact fun _ => hpre), hbn, kn⟩
              case measure => simp [intOf]
            · have hc := hid (cut2 T 48 98 (by omega) (wr.alloc (.cells #[.string ⟨#[48, 98]⟩, .int .i64 2] 119)) true hpre)
              have hcr := hid (read_at (T.drop 2) hd2 2 2 rfl (by decide) (by decide) false (wr.alloc (.cells #[.string ⟨#[48, 98]⟩, .int .i64 2] 119)))
              have e1 : pBase T = 2 := by simp [pBase, m1, m2, hpre]
              have e2 : pBody T = T.drop 2 := by simp [pBody, hpre]
              rw [e1, e2] at HOK HVAL
              have HOK := hid HOK.out
              have HVAL := hid HVAL.out
              clear e1 e2
              have hbn : Below w.heap.size w (wr.alloc (.cells #[.string ⟨#[48, 98]⟩, .int .i64 2] 119)) := hbr.alloc hbr.size _
              have kn := kr.alloc (.cells #[.string ⟨#[48, 98]⟩, .int .i64 2] 119)
              go_wp2_with fail
              (with_reducible refine hc.out.mono ?_); rintro e w' ⟨rfl, rfl⟩
              go_wp2_with fail
              (with_reducible refine hcr.out.mono ?_); rintro e w4 ⟨v, rfl, hb4, hp4, x1, x2, x3, y, z, rfl⟩
              obtain ⟨⟨r1, r2, r3⟩, r4, r5, r6⟩ := (kn.later hb4).three
              have hlt := kn.lt
              go_wp2
              have hbF := (((hbn.trans (hb4.mono hbn.size)).setCell (p := ⟨w.heap.size, 0, none⟩) (Nat.le_refl _) (.slice x1 x2 x3)).setCell (p := ⟨w.heap.size, 1, none⟩) (Nat.le_refl _) (.bool y)).setCell (p := ⟨w.heap.size, 2, none⟩) (Nat.le_refl _) (.bool z)
              try simp only [Exit.inBlock, Exit.then]
              refine bodyPost_ret (v := .tuple #[.agg #[.slice x1 x2 x3, .bool y, .bool z], .bool (rOK 2 (T.drop 2))]) (by simp [results, Tryz.results117, go_sem, r1, r2, r3]) rfl ⟨_, by rw [HOK.out], hbF, fun h => ?_, ⟨_, _, _, _, _, rfl⟩⟩
              rw [HVAL.out]
              exact (((hp4 (by rw [← HOK.out]; exact h)).set3 hlt (.slice x1 x2 x3) (.bool y) (.bool z)).mono (Nat.le_of_lt hlt))
          · have m1 := n1 (by decide)
            have m2 := n2 (by decide)
            have m3 := n3 (by decide)
            have hcr := hid (read_at T (by omega) 10 10 rfl (by decide) (by decide) false wr)
            have e1 : pBase T = 10 := by simp [pBase, m1, m2, m3]
            have e2 : pBody T = T := by simp [pBody, m1, m2, m3]
            rw [e1, e2] at HOK HVAL
            have HOK := hid HOK.out
            have HVAL := hid HVAL.out
            clear e1 e2
            go_wp2_with fail
            (with_reducible refine hcr.out.mono ?_); rintro e w4 ⟨v, rfl, hb4, hp4, x1, x2, x3, y, z, rfl⟩
            obtain ⟨⟨r1, r2, r3⟩, r4, r5, r6⟩ := (kr.later hb4).three
            have hlt := kr.lt
            go_wp2
            have hbF := (((hbr.trans (hb4.mono hbr.size)).setCell (p := ⟨w.heap.size, 0, none⟩) (Nat.le_refl _) (.slice x1 x2 x3)).setCell (p := ⟨w.heap.size, 1, none⟩) (Nat.le_refl _) (.bool y)).setCell (p := ⟨w.heap.size, 2, none⟩) (Nat.le_refl _) (.bool z)
            try simp only [Exit.inBlock, Exit.then]
            refine bodyPost_ret (v := .tuple #[.agg #[.slice x1 x2 x3, .bool y, .bool z], .bool (rOK 10 T)]) (by simp [results, Tryz.results117, go_sem, r1, r2, r3]) rfl ⟨_, by rw [HOK.out], hbF, fun h => ?_, ⟨_, _, _, _, _, rfl⟩⟩
            rw [HVAL.out]
            exact (((hp4 (by rw [← HOK.out]; exact h)).set3 hlt (.slice x1 x2 x3) (.bool y) (.bool z)).mono (Nat.le_of_lt hlt))
end Go.Proofs.YtkhgoeippamobaaGreatDoor
