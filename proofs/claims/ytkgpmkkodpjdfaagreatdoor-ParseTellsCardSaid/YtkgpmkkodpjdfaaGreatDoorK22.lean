/-
  Part K22 of the proofs of this seat: contracts of functions and plain facts, merged from 2 texts.
-/
import Derived.Lib.ItoaLen
import Derived.Test.YtkgpmkkodpjdfaaGreatDoorK21
namespace Go.Proofs.YtkgpmkkodpjdfaaGreatDoor.Pz
open Go.RowKit
def sCommand : Str := [99, 111, 109, 109, 97, 110, 100, 32]
def sSpread : Str := [115, 112, 114, 101, 97, 100, 10]
def sWord : Str := [119, 111, 114, 100, 10]
def showC (n : Nat) (c : Cmd) : Str := sCommand ++ Lib.itoa ((n : Int) - (c.back : Int)) ++ [10] ++ showWs c.words
def showCs (n : Nat) : List Cmd → Str
  | [] => []
  | c :: cs => showC n c ++ showCs n cs
theorem showWs_app : ∀ (a b : List Wd), showWs (a ++ b) = showWs a ++ showWs b
  | [], b => by simp [showWs]
  | x :: a, b => by rw [List.cons_append, showWs, showWs, showWs_app a b, List.append_assoc]
theorem showWs_take (xs : List Wd) {i : Nat} (h : i < xs.length) : showWs (xs.take (i + 1)) = showWs (xs.take i) ++ showW xs[i] := by
  rw [List.take_succ_eq_append_getElem h, showWs_app, showWs, showWs, List.append_nil]
theorem showWs_part (xs : List Wd) {i : Nat} (h : i < xs.length) : (showWs (xs.take i)).length + (showW xs[i]).length ≤ (showWs xs).length := by
  have h1 : showWs xs = showWs (xs.take (i + 1)) ++ showWs (xs.drop (i + 1)) := by rw [← showWs_app, List.take_append_drop]
  rw [h1, showWs_take xs h]
  simp only [List.length_append]
  omega
theorem showCs_app (n : Nat) : ∀ (a b : List Cmd), showCs n (a ++ b) = showCs n a ++ showCs n b
  | [], b => by simp [showCs]
  | x :: a, b => by rw [List.cons_append, showCs, showCs, showCs_app n a b, List.append_assoc]
theorem showCs_take (n : Nat) (xs : List Cmd) {i : Nat} (h : i < xs.length) : showCs n (xs.take (i + 1)) = showCs n (xs.take i) ++ showC n xs[i] := by
  rw [List.take_succ_eq_append_getElem h, showCs_app, showCs, showCs, List.append_nil]
theorem showCs_part (n : Nat) (xs : List Cmd) {i : Nat} (h : i < xs.length) : (showCs n (xs.take i)).length + (showC n xs[i]).length ≤ (showCs n xs).length := by
  have h1 : showCs n xs = showCs n (xs.take (i + 1)) ++ showCs n (xs.drop (i + 1)) := by rw [← showCs_app, List.take_append_drop]
  rw [h1, showCs_take n xs h]
  simp only [List.length_append]
  omega
theorem showW_mk (sp : Bool) (ts : List Tok) : showW ⟨sp, ts⟩ = (if sp then sSpread else sWord) ++ shows [32] ts := rfl
set_option maxRecDepth 100000 in
set_option maxHeartbeats 2000000 in
theorem showCmds_fn {n : Nat} {w : World} {ok : Nat → Prop} {v : Value} {cs : List Cmd} (hC : CmdsIs 33 49 47 n w ok v cs) (hn : n ≤ 1000000) (hback : ∀ c ∈ cs, c.back ≤ n) (hwt : wcs cs ≤ 999999) (hG : GT w.heap.size w) (hl : (showCs n cs).length ≤ 1000000000) :
    Calls Tryz.prog 16 #[v] w fun e w' => e = .returned (.string ⟨(showCs n cs).toArray⟩) ∧ Below w.heap.size w w' := by
  have hlen := hC.short
  obtain ⟨a1, c1, rfl⟩ : ∃ a c, v = .slice a cs.length c := by
    obtain ⟨a, cap, hv, _⟩ := RowIs.cell hC
    exact ⟨a, cap, hv⟩
  have HC := hid hC.low
  have HBK := hid hback
  have HG := hid hG
  have hbw := belowA w (.cells #[.pointer none, .slice none 0 0] 77)
  have HB0 := hid (Bld.new w)
  have HBW := hid hbw
  obtain ⟨b, hb⟩ : ∃ b, b = w.heap.size := ⟨_, rfl⟩
  rw [← hb] at HB0 HBW HG HC ⊢
  clear hC hback hG hbw
  have HBE := hid hb
  clear hb
  go_enter Tryz.func16, Tryz.ntmps16
  go_wp2
  rw [← HBE.out]
  go_loopg [10] cs.length (fun k iv wr => ∃ (i : Nat), iv = .int .i64 (i : Nat) ∧ Bld wr b (showCs n (cs.take i)) ∧ Below b w wr ∧ i + k = cs.length)
  case atStart => exact ⟨0, rfl, by rw [List.take_zero]; exact HB0.out, HBW.out, by simp⟩
  case round =>
    obtain ⟨i, rfl, hbd, hbl, hk⟩ := hrel
    by_cases hi : i < cs.length
    · have h1 := HC.out.stay (Below.refl _ _) hbl
      obtain ⟨g1, q1, u1, e1, hw1, x0, x1⟩ := cmd_at h1 hi
      simp only [Value.slice.injEq] at e1
      obtain ⟨rfl, _, rfl⟩ := e1
      have hwl := hw1.short
      have hww := wcs_mem cs _ (List.getElem_mem hi)
      have hback := HBK.out _ (List.getElem_mem hi)
      have hnext := showCs_take n cs hi
      have hpart := showCs_part n cs hi
      obtain ⟨cm, hcm⟩ : ∃ cm, cm = cs[i] := ⟨_, rfl⟩
      rw [← hcm] at hw1 hwl hww hback hnext hpart x0
      obtain ⟨z, hz⟩ : ∃ z, z = (n : Int) - (cm.back : Int) := ⟨_, rfl⟩
      have hz1 : 0 ≤ z ∧ z ≤ 1000000 := by omega
      rw [showC, ← hz] at hnext hpart
      rw [← hz] at x0
      obtain ⟨ws, hws⟩ : ∃ ws, ws = cm.words := ⟨_, rfl⟩
      rw [← hws] at hw1 hwl hww hnext hpart
      obtain ⟨a3, c3, rfl⟩ : ∃ a c, u1 = .slice a ws.length c := by
        obtain ⟨a, cap, hv, _⟩ := RowIs.cell hw1
        exact ⟨a, cap, hv⟩
      generalize showCs n (cs.take i) = acc at hbd hnext hpart
      have hil := Lib.itoa_length_le z (by omega) (by omega)
      simp only [List.length_append, List.length_cons, List.length_nil] at hpart
      obtain ⟨w1, hw1'⟩ : ∃ w1, w1 = wr.alloc (.cells #[.int .i64 z, .slice a3 ws.length c3] 47) := ⟨_, rfl⟩
      have hb1 : Below wr.heap.size wr w1 := by rw [hw1']; exact belowA _ _
      have hbwr := hbd.lt
      have hbl1 : Below b w w1 := hbl.trans (hb1.mono (by omega))
      have HK1 := hid (show w1.heap[wr.heap.size]? = some (.cells #[.int .i64 z, .slice a3 ws.length c3] 47 (0, 0)) by rw [hw1']; exact heap_alloc_new _ _)
      have HBD1 := hid (hbd.below hb1)
      have HBL1 := hid hbl1
      have HWS := hid (fun w2 (h2 : Below b w w2) => hw1.stay hbl h2)
      have HN := hid hnext
      have HW1 := hid hw1'
      have HS1 := hid (show w1.heap.size = wr.heap.size + 1 by rw [hw1']; simp)
      obtain ⟨t, ht⟩ : ∃ t, t = Lib.itoa z := ⟨_, rfl⟩
      have hit : Calls Tryz.prog 41 #[.int .i64 z] w1 fun e w' => e = .returned (.string ⟨t.toArray⟩) ∧ ∃ k os, w' = Sort.grow (w1.drewN k) os := by rw [ht]; exact Tryz.strconv_Itoa z (by omega) (by omega) w1 ((HG.out.on hbl1).tab)
      rw [← ht] at hil hpart HN
      have HIT := hid hit
      have hts : (⟨t.toArray⟩ : ByteArray).size = t.length := Lib.size_mk _
      have hi1 : (0 : Int) ≤ (i : Int) ∧ (i : Int) < (cs.length : Int) := by omega
      have hi2 : (i : Int) < (cs.length : Int) := by omega
      clear hw1 hback hnext hcm hz hws h1 hbd hbl hbl1 hw1' hb1 ht hit
      go_wp2_with fail
      rw [← HW1.out]
      (with_reducible refine HIT.out.mono ?_); rintro e w2 ⟨rfl, kk, os, hw2⟩
      have hb2 : Below w1.heap.size w1 w2 := by rw [hw2]; exact Lib.below_grow _ _ (Nat.le_refl _) _ _
      have hs2 := hb2.size
      have HK2 := hid ((hb2.block _ (by have := HS1.out; omega)).trans HK1.out)
      have HBL2 := hid (HBL1.out.trans (hb2.mono (by have := HS1.out; omega)))
      have hbd2 := HBD1.out.below hb2
      have HWC := hid (wstr_fn hbd2 (sCommand ++ t ++ [10]) (by simp only [List.length_append, sCommand, List.length_cons, List.length_nil]; simp only [sCommand, List.length_cons, List.length_nil] at hpart; omega))
      have HCT := hid (show (⟨#[99, 111, 109, 109, 97, 110, 100, 32]⟩ : ByteArray) ++ ⟨t.toArray⟩ ++ ⟨#[10]⟩ = ⟨(sCommand ++ t ++ [10]).toArray⟩ by rw [ByteArray.ext_iff]; simp [sCommand])
      have hsp : (⟨#[99, 111, 109, 109, 97, 110, 100, 32]⟩ ++ ⟨t.toArray⟩ : ByteArray).size = 8 + t.length := by rw [show (⟨#[99, 111, 109, 109, 97, 110, 100, 32]⟩ : ByteArray) = ⟨sCommand.toArray⟩ from rfl, cat_mk, Lib.size_mk]; simp [sCommand]; omega
      clear hw2 hb2 hbd2 x0 x1 hi1 hi2
      go_wp2_with fail
      rw [HCT.out]
      (with_reducible refine HWC.out.mono ?_); rintro e w3 ⟨rfl, hbd3, hk3⟩
      have HBD3 := hid hbd3
      have hk3b : w3.heap[wr.heap.size]? = some (.cells #[.int .i64 z, .slice a3 ws.length c3] 47 (0, 0)) := hk3.2 _ _ HK2.out (by intro e; simp at e; omega) (by intro c fz e; simp at e)
      have HBL3 := hid (HBL2.out.trans hk3.1)
      have y1 : w3.cell? ⟨wr.heap.size, 1, none⟩ = some (.slice a3 ws.length c3) := by rw [Lib.cell_of_heap hk3b]; rfl
      obtain ⟨acc1, hacc⟩ : ∃ acc1, acc1 = acc ++ (sCommand ++ t ++ [10]) := ⟨_, rfl⟩
      have HAC := hid hacc
      have hal : acc1.length + (showWs ws).length ≤ 1000000000 := by
        rw [hacc]
        simp only [List.length_append, List.length_cons, List.length_nil]
        omega
      rw [← hacc] at HBD3
      clear hbd3 hk3 hk3b hacc hsp hts hil hpart
      go_wp2
      clear y1
      go_loopg [23] ws.length (fun k2 jv wr2 => ∃ (j : Nat), jv = .int .i64 (j : Nat) ∧ Bld wr2 b (acc1 ++ showWs (ws.take j)) ∧ Below b w wr2 ∧ j + k2 = ws.length)
      case atStart => exact ⟨0, rfl, by rw [List.take_zero, showWs, List.append_nil]; exact HBD3.out, HBL3.out, by simp⟩
      case round =>
        obtain ⟨j, rfl, hbd2, hbl2, hk2⟩ := hrel
        clear HBD3 HBL3
        by_cases hj : j < ws.length
        · have hw2 := HWS.out _ hbl2
          obtain ⟨g2, q2, t1, e2, ht1, p0, p1⟩ := wd_at hw2 hj
          simp only [Value.slice.injEq] at e2
          obtain ⟨rfl, _, rfl⟩ := e2
          have hwx := wws_mem ws _ (List.getElem_mem hj)
          have hnext := showWs_take ws hj
          have hpart := showWs_part ws hj
          obtain ⟨x9, hx9⟩ : ∃ x, x = ws[j] := ⟨_, rfl⟩
          rw [← hx9] at ht1 hwx p0 hnext hpart
          obtain ⟨sp, ts⟩ := x9
          dsimp only at ht1 hwx p0
          rw [showW_mk] at hnext hpart
          obtain ⟨a5, c5, rfl⟩ : ∃ a c, t1 = .slice a ts.length c := by
            obtain ⟨a, cap, hv, _⟩ := RowIs.cell ht1
            exact ⟨a, cap, hv⟩
          generalize showWs (ws.take j) = accw at hbd2 hnext hpart
          have HN2 := hid hnext
          have hbwr := hbd2.lt
          have HTS := hid (fun w3 (h3 : Below b w w3) => ht1.stay hbl2 h3)
          have hj1 : (0 : Int) ≤ (j : Int) ∧ (j : Int) < (ws.length : Int) := by omega
          have hj2 : (j : Int) < (ws.length : Int) := by omega
          have HBD := hid hbd2
          have HBL := hid hbl2
          clear hx9 hnext hw2 ht1 hbd2 hbl2
          cases sp with
          | true =>
            obtain ⟨w1, hw1⟩ : ∃ w1, w1 = wr.alloc (.cells #[.bool true, .slice a5 ts.length c5] 49) := ⟨_, rfl⟩
            have hb1 : Below wr.heap.size wr w1 := by rw [hw1]; exact belowA _ _
            have HK4 := hid (show w1.heap[wr.heap.size]? = some (.cells #[.bool true, .slice a5 ts.length c5] 49 (0, 0)) by rw [hw1]; exact heap_alloc_new _ _)
            have HB4 := hid (HBL.out.trans (hb1.mono (by omega)))
            have HW4 := hid hw1
            simp only [List.length_append, sSpread, List.length_cons, List.length_nil, if_true] at hpart
            have hwc : Calls Tryz.prog 40 #[.pointer (some ⟨b, 0, none⟩), .string ⟨#[115, 112, 114, 101, 97, 100, 10]⟩] w1 _ := wstr_fn (HBD.out.below hb1) sSpread (by simp only [List.length_append, sSpread, List.length_cons, List.length_nil]; omega)
            have HWC := hid hwc
            clear hw1 hb1 hwc
            go_wp2_with fail
            rw [← HW4.out]
            (with_reducible refine HWC.out.mono ?_); rintro e w3 ⟨rfl, hbd3, hk3⟩
            have hk3b : w3.heap[wr.heap.size]? = some (.cells #[.bool true, .slice a5 ts.length c5] 49 (0, 0)) := hk3.2 _ _ HK4.out (by intro e; simp at e; omega) (by intro c fz e; simp at e)
            have y1 : w3.cell? ⟨wr.heap.size, 1, none⟩ = some (.slice a5 ts.length c5) := by rw [Lib.cell_of_heap hk3b]; rfl
            have HB3 := hid (HB4.out.trans hk3.1)
            have hsh : Calls Tryz.prog 42 #[.pointer (some ⟨b, 0, none⟩), .slice a5 ts.length c5, .string ⟨#[32]⟩] w3 _ := showP_fn _ ts (Nat.le_refl _) [32] _ w3 b b _ hbd3 (HTS.out w3 HB3.out) (HG.out.on HB3.out) (Nat.le_refl _) (by simp only [List.length_append, sSpread, List.length_cons, List.length_nil]; omega) (by simp only [List.length_cons, List.length_nil]; omega)
            have HSH := hid hsh
            clear hbd3 hk3 hk3b hsh p0 p1
            go_wp2_with fail
            (with_reducible refine HSH.out.mono ?_); rintro e w5 ⟨rfl, hbd5, hb5⟩
            have HBD5 := hid (show Bld w5 b (acc1 ++ showWs (ws.take (j + 1))) by rw [HN2.out]; simpa [List.append_assoc] using hbd5)
            have HB5 := hid (HB3.out.trans hb5)
            clear hbd5 hb5 y1
            go_wp2
            go_roundg (ws.length - (j + 1))
            case measure => omega
            case rel => exact ⟨j + 1, by go_num, HBD5.out, HB5.out, by omega⟩
          | false =>
            obtain ⟨w1, hw1⟩ : ∃ w1, w1 = wr.alloc (.cells #[.bool false, .slice a5 ts.length c5] 49) := ⟨_, rfl⟩
            have hb1 : Below wr.heap.size wr w1 := by rw [hw1]; exact belowA _ _
            have HK4 := hid (show w1.heap[wr.heap.size]? = some (.cells #[.bool false, .slice a5 ts.length c5] 49 (0, 0)) by rw [hw1]; exact heap_alloc_new _ _)
            have HB4 := hid (HBL.out.trans (hb1.mono (by omega)))
            have HW4 := hid hw1
            simp only [List.length_append, sWord, List.length_cons, List.length_nil, if_false, Bool.false_eq_true] at hpart
            have hwc : Calls Tryz.prog 40 #[.pointer (some ⟨b, 0, none⟩), .string ⟨#[119, 111, 114, 100, 10]⟩] w1 _ := wstr_fn (HBD.out.below hb1) sWord (by simp only [List.length_append, sWord, List.length_cons, List.length_nil]; omega)
            have HWC := hid hwc
            clear hw1 hb1 hwc
            go_wp2_with fail
            rw [← HW4.out]
            (with_reducible refine HWC.out.mono ?_); rintro e w3 ⟨rfl, hbd3, hk3⟩
            have hk3b : w3.heap[wr.heap.size]? = some (.cells #[.bool false, .slice a5 ts.length c5] 49 (0, 0)) := hk3.2 _ _ HK4.out (by intro e; simp at e; omega) (by intro c fz e; simp at e)
            have y1 : w3.cell? ⟨wr.heap.size, 1, none⟩ = some (.slice a5 ts.length c5) := by rw [Lib.cell_of_heap hk3b]; rfl
            have HB3 := hid (HB4.out.trans hk3.1)
            have hsh : Calls Tryz.prog 42 #[.pointer (some ⟨b, 0, none⟩), .slice a5 ts.length c5, .string ⟨#[32]⟩] w3 _ := showP_fn _ ts (Nat.le_refl _) [32] _ w3 b b _ hbd3 (HTS.out w3 HB3.out) (HG.out.on HB3.out) (Nat.le_refl _) (by simp only [List.length_append, sWord, List.length_cons, List.length_nil]; omega) (by simp only [List.length_cons, List.length_nil]; omega)
            have HSH := hid hsh
            clear hbd3 hk3 hk3b hsh p0 p1
            go_wp2_with fail
            (with_reducible refine HSH.out.mono ?_); rintro e w5 ⟨rfl, hbd5, hb5⟩
            have HBD5 := hid (show Bld w5 b (acc1 ++ showWs (ws.take (j + 1))) by rw [HN2.out]; simpa [List.append_assoc] using hbd5)
            have HB5 := hid (HB3.out.trans hb5)
            clear hbd5 hb5 y1
            go_wp2
            go_roundg (ws.length - (j + 1))
            case measure => omega
            case rel => exact ⟨j + 1, by go_num, HBD5.out, HB5.out, by omega⟩
        · have ht : ws.take j = ws := List.take_of_length_le (by omega)
          rw [ht] at hbd2
          have HBD2 := hid (show Bld wr b (showCs n (cs.take (i + 1))) by rw [HN.out]; have h9 := hbd2; rw [HAC.out] at h9; simpa [List.append_assoc] using h9)
          have HB2 := hid hbl2
          clear hbd2 hbl2
          go_wp2
          go_roundg (cs.length - (i + 1))
          case measure => omega
          case rel => exact ⟨i + 1, by go_num, HBD2.out, HB2.out, by omega⟩
    · have ht : cs.take i = cs := List.take_of_length_le (by omega)
      rw [ht] at hbd
      have hst := hid (str_fn hbd)
      go_wp2_with fail
      (with_reducible refine hst.out.mono ?_); rintro e w9 ⟨rfl, _, hk9⟩
      go_wp2
      go_ret
      exact ⟨rfl, hbl.trans hk9.1⟩
set_option maxRecDepth 100000 in
set_option maxHeartbeats 2000000 in
theorem showCmdsR_fn {n : Nat} {w : World} {ok : Nat → Prop} {v : Value} {cs : List Cmd} (hC : CmdsIs 33 49 47 n w ok v cs) (hn : n ≤ 1000000) (hback : ∀ c ∈ cs, c.back ≤ n) (hwt : wcs cs ≤ 999999) (hG : GT w.heap.size w) (hl : (showCs n cs).length ≤ 1000000000) :
    Calls Tryz.prog 17 #[v] w fun e w' => e = .returned (.string ⟨(showCs n cs).toArray⟩) ∧ Below w.heap.size w w' := by
  have hlen := hC.short
  obtain ⟨a1, c1, rfl⟩ : ∃ a c, v = .slice a cs.length c := by
    obtain ⟨a, cap, hv, _⟩ := RowIs.cell hC
    exact ⟨a, cap, hv⟩
  have HC := hid hC.low
  have HBK := hid hback
  have HG := hid hG
  obtain ⟨b, hb⟩ : ∃ b, b = w.heap.size := ⟨_, rfl⟩
  rw [← hb] at HG HC ⊢
  clear hC hback hG
  have HBE := hid hb
  clear hb
  go_enter Tryz.func17, Tryz.ntmps17
  go_wp2
  go_loopg [3, 10] cs.length (fun k sv iv wr => ∃ (i : Nat), sv = .string ⟨(showCs n (cs.take i)).toArray⟩ ∧ iv = .int .i64 (i : Nat) ∧ Below b w wr ∧ i + k = cs.length)
  case atStart => exact ⟨0, rfl, rfl, Below.refl _ _, by simp⟩
  case round =>
    obtain ⟨i, rfl, rfl, hbl, hk⟩ := hrel
    have hbwr : b ≤ wr.heap.size := by have := hbl.size; have := HBE.out; omega
    by_cases hi : i < cs.length
    · have h1 := HC.out.stay (Below.refl _ _) hbl
      obtain ⟨g1, q1, u1, e1, hw1, x0, x1⟩ := cmd_at h1 hi
      simp only [Value.slice.injEq] at e1
      obtain ⟨rfl, _, rfl⟩ := e1
      have hwl := hw1.short
      have hww := wcs_mem cs _ (List.getElem_mem hi)
      have hback := HBK.out _ (List.getElem_mem hi)
      have hnext := showCs_take n cs hi
      have hpart := showCs_part n cs hi
      obtain ⟨cm, hcm⟩ : ∃ cm, cm = cs[i] := ⟨_, rfl⟩
      rw [← hcm] at hw1 hwl hww hback hnext hpart x0
      obtain ⟨z, hz⟩ : ∃ z, z = (n : Int) - (cm.back : Int) := ⟨_, rfl⟩
      have hz1 : 0 ≤ z ∧ z ≤ 1000000 := by omega
      rw [showC, ← hz] at hnext hpart
      rw [← hz] at x0
      obtain ⟨ws, hws⟩ : ∃ ws, ws = cm.words := ⟨_, rfl⟩
      rw [← hws] at hw1 hwl hww hnext hpart
      obtain ⟨a3, c3, rfl⟩ : ∃ a c, u1 = .slice a ws.length c := by
        obtain ⟨a, cap, hv, _⟩ := RowIs.cell hw1
        exact ⟨a, cap, hv⟩
      generalize showCs n (cs.take i) = acc at hnext hpart ⊢
      have hil := Lib.itoa_length_le z (by omega) (by omega)
      simp only [List.length_append, List.length_cons, List.length_nil] at hpart
      obtain ⟨w1, hw1'⟩ : ∃ w1, w1 = wr.alloc (.cells #[.int .i64 z, .slice a3 ws.length c3] 47) := ⟨_, rfl⟩
      have hb1 : Below wr.heap.size wr w1 := by rw [hw1']; exact belowA _ _
      have hbl1 : Below b w w1 := hbl.trans (hb1.mono (by omega))
      have HK1 := hid (show w1.heap[wr.heap.size]? = some (.cells #[.int .i64 z, .slice a3 ws.length c3] 47 (0, 0)) by rw [hw1']; exact heap_alloc_new _ _)
      have HBL1 := hid hbl1
      have HWS := hid (fun w2 (h2 : Below b w w2) => hw1.stay hbl h2)
      have HN := hid hnext
      have HW1 := hid hw1'
      have HS1 := hid (show w1.heap.size = wr.heap.size + 1 by rw [hw1']; simp)
      obtain ⟨t, ht⟩ : ∃ t, t = Lib.itoa z := ⟨_, rfl⟩
      have hit : Calls Tryz.prog 41 #[.int .i64 z] w1 fun e w' => e = .returned (.string ⟨t.toArray⟩) ∧ ∃ k os, w' = Sort.grow (w1.drewN k) os := by rw [ht]; exact Tryz.strconv_Itoa z (by omega) (by omega) w1 ((HG.out.on hbl1).tab)
      rw [← ht] at hil hpart HN
      have HIT := hid hit
      have hts : (⟨t.toArray⟩ : ByteArray).size = t.length := Lib.size_mk _
      have hi1 : (0 : Int) ≤ (i : Int) ∧ (i : Int) < (cs.length : Int) := by omega
      have hi2 : (i : Int) < (cs.length : Int) := by omega
      clear hw1 hback hnext hcm hz hws h1 hbl hbl1 hw1' hb1 ht hit
      go_wp2_with fail
      rw [← HW1.out]
      (with_reducible refine HIT.out.mono ?_); rintro e w2 ⟨rfl, kk, os, hw2⟩
      have hb2 : Below w1.heap.size w1 w2 := by rw [hw2]; exact Lib.below_grow _ _ (Nat.le_refl _) _ _
      have hs2 := hb2.size
      have HK2 := hid ((hb2.block _ (by have := HS1.out; omega)).trans HK1.out)
      have HBL2 := hid (HBL1.out.trans (hb2.mono (by have := HS1.out; omega)))
      have hsa : (⟨acc.toArray⟩ : ByteArray).size = acc.length := Lib.size_mk _
      have hsp : (⟨#[99, 111, 109, 109, 97, 110, 100, 32]⟩ ++ ⟨t.toArray⟩ : ByteArray).size = 8 + t.length := by rw [show (⟨#[99, 111, 109, 109, 97, 110, 100, 32]⟩ : ByteArray) = ⟨sCommand.toArray⟩ from rfl, cat_mk, Lib.size_mk]; simp [sCommand]; omega
      have hsq : (⟨#[99, 111, 109, 109, 97, 110, 100, 32]⟩ ++ ⟨t.toArray⟩ ++ ⟨#[10]⟩ : ByteArray).size = 8 + t.length + 1 := by rw [ByteArray.size_append, hsp]; rfl
      have y1 : w2.cell? ⟨wr.heap.size, 1, none⟩ = some (.slice a3 ws.length c3) := by rw [Lib.cell_of_heap HK2.out]; rfl
      obtain ⟨acc1, hacc⟩ : ∃ acc1, acc1 = acc ++ (sCommand ++ t ++ [10]) := ⟨_, rfl⟩
      have HAC := hid hacc
      have hal : acc1.length + (showWs ws).length ≤ 1000000000 := by
        rw [hacc]
        simp only [List.length_append, List.length_cons, List.length_nil]
        omega
      have HCT := hid (show (⟨acc.toArray⟩ : ByteArray) ++ (⟨#[99, 111, 109, 109, 97, 110, 100, 32]⟩ ++ ⟨t.toArray⟩ ++ ⟨#[10]⟩) = ⟨acc1.toArray⟩ by rw [hacc, ByteArray.ext_iff]; simp [sCommand])
      simp only [sCommand, List.length_cons, List.length_nil] at hpart
      clear hw2 hb2 x0 x1 hi1 hi2 hacc
      go_wp2
      clear y1 hsa hsp hsq hpart hil hts
      go_loopg [3, 24] ws.length (fun k2 sv jv wr2 => ∃ (j : Nat), sv = .string ⟨(acc1 ++ showWs (ws.take j)).toArray⟩ ∧ jv = .int .i64 (j : Nat) ∧ Below b w wr2 ∧ j + k2 = ws.length)
      case atStart => exact ⟨0, by rw [List.take_zero, showWs, List.append_nil]; exact congrArg _ HCT.out, rfl, HBL2.out, by simp⟩
      case round =>
        obtain ⟨j, rfl, rfl, hbl2, hk2⟩ := hrel
        have hbwr2 : b ≤ wr.heap.size := by have := hbl2.size; have := HBE.out; omega
        by_cases hj : j < ws.length
        · have hw2 := HWS.out _ hbl2
          obtain ⟨g2, q2, t1, e2, ht1, p0, p1⟩ := wd_at hw2 hj
          simp only [Value.slice.injEq] at e2
          obtain ⟨rfl, _, rfl⟩ := e2
          have hwx := wws_mem ws _ (List.getElem_mem hj)
          have hnext := showWs_take ws hj
          have hpart := showWs_part ws hj
          obtain ⟨x9, hx9⟩ : ∃ x, x = ws[j] := ⟨_, rfl⟩
          rw [← hx9] at ht1 hwx p0 hnext hpart
          obtain ⟨sp, ts⟩ := x9
          dsimp only at ht1 hwx p0
          rw [showW_mk] at hnext hpart
          obtain ⟨a5, c5, rfl⟩ : ∃ a c, t1 = .slice a ts.length c := by
            obtain ⟨a, cap, hv, _⟩ := RowIs.cell ht1
            exact ⟨a, cap, hv⟩
          generalize showWs (ws.take j) = accw at hnext hpart ⊢
          have HN2 := hid hnext
          have HTS := hid (fun w3 (h3 : Below b w w3) => ht1.stay hbl2 h3)
          have hj1 : (0 : Int) ≤ (j : Int) ∧ (j : Int) < (ws.length : Int) := by omega
          have hj2 : (j : Int) < (ws.length : Int) := by omega
          have HBL := hid hbl2
          clear hx9 hnext hw2 ht1 hbl2
          cases sp with
          | true =>
            obtain ⟨w1, hw1⟩ : ∃ w1, w1 = wr.alloc (.cells #[.bool true, .slice a5 ts.length c5] 49) := ⟨_, rfl⟩
            have hb1 : Below wr.heap.size wr w1 := by rw [hw1]; exact belowA _ _
            have HB4 := hid (HBL.out.trans (hb1.mono hbwr2))
            have HW4 := hid hw1
            have hsh : Calls Tryz.prog 44 #[.slice a5 ts.length c5, .string ⟨#[32]⟩] w1 _ := tokensR_fn _ ts (Nat.le_refl _) [32] w1 _ _ (HTS.out w1 HB4.out) (by simp only [List.length_append] at hpart; omega) (by simp only [List.length_cons, List.length_nil]; omega)
            have HSH := hid hsh
            simp only [List.length_append, sSpread, List.length_cons, List.length_nil, if_true] at hpart
            obtain ⟨T, hT⟩ : ∃ T, T = shows [32] ts := ⟨_, rfl⟩
            rw [← hT] at HSH HN2 hpart
            have hsa : (⟨(acc1 ++ accw).toArray⟩ : ByteArray).size = acc1.length + accw.length := by rw [Lib.size_mk, List.length_append]
            have hsb : (⟨(acc1 ++ accw).toArray⟩ ++ ⟨#[115, 112, 114, 101, 97, 100, 10]⟩ : ByteArray).size = acc1.length + accw.length + 7 := by rw [show (⟨#[115, 112, 114, 101, 97, 100, 10]⟩ : ByteArray) = ⟨sSpread.toArray⟩ from rfl, cat_mk, Lib.size_mk]; simp [sSpread]; omega
            have hst : (⟨T.toArray⟩ : ByteArray).size = T.length := Lib.size_mk _
            have hsw : w1.heap.size = wr.heap.size + 1 := by rw [hw1]; simp
            clear hw1 hb1 hsh hT hsw
            go_wp2_with fail
            rw [← HW4.out]
            (with_reducible refine HSH.out.mono ?_); rintro e w5 ⟨rfl, hb5⟩
            have HB5 := hid (HB4.out.trans (hb5.mono (by have := HB4.out.size; have := HBE.out; omega)))
            clear hb5 p0 p1
            go_wp2
            go_roundg (ws.length - (j + 1))
            case measure => omega
            case rel => exact ⟨j + 1, by rw [HN2.out, Value.string.injEq, ByteArray.ext_iff]; simp [sSpread], by go_num, HB5.out, by omega⟩
          | false =>
            obtain ⟨w1, hw1⟩ : ∃ w1, w1 = wr.alloc (.cells #[.bool false, .slice a5 ts.length c5] 49) := ⟨_, rfl⟩
            have hb1 : Below wr.heap.size wr w1 := by rw [hw1]; exact belowA _ _
            have HB4 := hid (HBL.out.trans (hb1.mono hbwr2))
            have HW4 := hid hw1
            have hsh : Calls Tryz.prog 44 #[.slice a5 ts.length c5, .string ⟨#[32]⟩] w1 _ := tokensR_fn _ ts (Nat.le_refl _) [32] w1 _ _ (HTS.out w1 HB4.out) (by simp only [List.length_append] at hpart; omega) (by simp only [List.length_cons, List.length_nil]; omega)
            have HSH := hid hsh
            simp only [List.length_append, sWord, List.length_cons, List.length_nil, if_false, Bool.false_eq_true] at hpart
            obtain ⟨T, hT⟩ : ∃ T, T = shows [32] ts := ⟨_, rfl⟩
            rw [← hT] at HSH HN2 hpart
            have hsa : (⟨(acc1 ++ accw).toArray⟩ : ByteArray).size = acc1.length + accw.length := by rw [Lib.size_mk, List.length_append]
            have hsb : (⟨(acc1 ++ accw).toArray⟩ ++ ⟨#[119, 111, 114, 100, 10]⟩ : ByteArray).size = acc1.length + accw.length + 5 := by rw [show (⟨#[119, 111, 114, 100, 10]⟩ : ByteArray) = ⟨sWord.toArray⟩ from rfl, cat_mk, Lib.size_mk]; simp [sWord]; omega
            have hst : (⟨T.toArray⟩ : ByteArray).size = T.length := Lib.size_mk _
            have hsw : w1.heap.size = wr.heap.size + 1 := by rw [hw1]; simp
            clear hw1 hb1 hsh hT hsw
            go_wp2_with fail
            rw [← HW4.out]
            (with_reducible refine HSH.out.mono ?_); rintro e w5 ⟨rfl, hb5⟩
            have HB5 := hid (HB4.out.trans (hb5.mono (by have := HB4.out.size; have := HBE.out; omega)))
            clear hb5 p0 p1
            go_wp2
            go_roundg (ws.length - (j + 1))
            case measure => omega
            case rel => exact ⟨j + 1, by rw [HN2.out, Value.string.injEq, ByteArray.ext_iff]; simp [sWord], by go_num, HB5.out, by omega⟩
        · have ht : ws.take j = ws := List.take_of_length_le (by omega)
          rw [ht]
          have hfin : (acc1 ++ showWs ws) = showCs n (cs.take (i + 1)) := by rw [HN.out, HAC.out]; simp [List.append_assoc]
          rw [hfin]
          have HB2 := hid hbl2
          clear hbl2 hfin
          go_wp2
          go_roundg (cs.length - (i + 1))
          case measure => omega
          case rel => exact ⟨i + 1, rfl, by go_num, HB2.out, by omega⟩
    · have ht : cs.take i = cs := List.take_of_length_le (by omega)
      rw [ht]
      go_wp2
      go_ret
      exact ⟨rfl, hbl⟩
end Go.Proofs.YtkgpmkkodpjdfaaGreatDoor.Pz
