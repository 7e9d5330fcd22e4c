/-
  ValueHiddenCard: the law's card and what it alone needs, merged from 2 texts. Conditions: the row's own.
-/
import Derived.Test.YtabhkoklcjhlpaaGreatDoorCards
import Derived.Test.YtabhkoklcjhlpaaGreatDoorTie
import Derived.Deep.DeepHandedRow
import Derived.ProofKit
import Derived.OpenShut
import Derived.Lay
import Derived.MakeChecks
import Derived.ChangeMaps5
import Derived.SliceStrings
import Derived.Carry
import Derived.Shelf.Vars
import Derived.Test.YtabhkoklcjhlpaaGreatDoorK0
import Derived.Test.YtabhkoklcjhlpaaGreatDoorK1
import Derived.Test.YtabhkoklcjhlpaaGreatDoorK2
import Derived.Test.YtabhkoklcjhlpaaGreatDoorK3
import Derived.Test.YtabhkoklcjhlpaaGreatDoorK4
import Derived.Test.YtabhkoklcjhlpaaGreatDoorK5
import Derived.Test.YtabhkoklcjhlpaaGreatDoorK6
import Derived.Test.YtabhkoklcjhlpaaGreatDoorK7
import Derived.Test.YtabhkoklcjhlpaaGreatDoorK8
import Derived.Test.YtabhkoklcjhlpaaGreatDoorK9
import Derived.Test.YtabhkoklcjhlpaaGreatDoorKA
import Derived.Test.YtabhkoklcjhlpaaGreatDoorKB
import Derived.Test.YtabhkoklcjhlpaaGreatDoorKC
import Derived.Test.YtabhkoklcjhlpaaGreatDoorKD
import Derived.Test.YtabhkoklcjhlpaaGreatDoorKE
import Derived.Test.YtabhkoklcjhlpaaGreatDoorKF
import Derived.Test.YtabhkoklcjhlpaaGreatDoorKG
import Derived.Test.YtabhkoklcjhlpaaGreatDoorKH
import Derived.Test.YtabhkoklcjhlpaaGreatDoorKI
import Derived.Test.YtabhkoklcjhlpaaGreatDoorKJ
import Derived.Test.YtabhkoklcjhlpaaGreatDoorKL
/-
  The law ValueHidden walked.
-/
namespace Go.Proofs.YtabhkoklcjhlpaaGreatDoor.Pz
open Go.RowKit
set_option maxRecDepth 100000 in
set_option maxHeartbeats 4000000 in
theorem valueHidden_fn (al : List ActD) (ol : List Int) (v ov : Value) (w : World) (hml : ML w) (hv : ActsB w.heap.size w v al) (ho : BytesAt w ov ol) (hb : bulkAs al ≤ 10000000) :
    Calls Tryz.prog 6 #[v, ov] w fun e w' => e = .returned (.bool true) ∧ Below w.heap.size w w' := by
  obtain ⟨B, hB⟩ : ∃ B, B = w.heap.size := ⟨_, rfl⟩
  have hmB : 0 < B := by rw [hB]; exact hml.lt
  rw [← hB] at hv ⊢
  have HL := hid (lightAs_fn hv (by omega) hb)
  have HV := hid hv
  have HM := hid hml
  have hBw : B ≤ w.heap.size := by omega
  have AW := fun u (h : Below B w u) => hid (awake_fn u (HM.out.lowB hmB h))
  obtain ⟨a, cap, rfl, hcell⟩ := hv
  obtain ⟨oa, ocap, rfl, hol, hoc, hobd⟩ := ho
  obtain ⟨n, hn⟩ : ∃ n, n = al.length := ⟨_, rfl⟩
  obtain ⟨m, hm⟩ : ∃ m, m = ol.length := ⟨_, rfl⟩
  have HN := hid hn
  have HMM := hid hm
  have HOC := hid (show ∀ i (h : i < ol.length), ∃ p, oa = some p ∧ p.block < B ∧ w.cell? (p.add i) = some (.int .u8 ol[i]) from fun i h => by rw [hB]; exact hoc i h)
  have HOB := hid hobd
  rw [← hn] at HL HV ⊢
  rw [← hm] at hol ⊢
  have hnb : n ≤ 10000000 := by have := bulkAs_len al; omega
  clear hml hcell hn hm hb hB hoc hobd
  cases hlt : lightB al with
  | false =>
    rw [hlt] at HL
    clear hlt
    go_enter Tryz.func6, Tryz.ntmps6
    go_wp2_with fail
    (with_reducible refine HL.out.mono ?_); rintro e w1 ⟨rfl, hb1⟩
    have HB1 := hid (hb1.mono hBw)
    have haw := AW _ HB1.out
    clear hb1
    go_wp2_with fail
    (with_reducible refine haw.out.mono ?_); rintro e w2 ⟨rfl, hb2⟩
    have HB2 := hid (HB1.out.trans (hb2.mono (Nat.le_trans hBw HB1.out.size)))
    clear hb2
    go_wp2
    go_ret
    exact ⟨rfl, HB2.out⟩
  | true =>
    rw [hlt] at HL
    have HLT := hid hlt
    have hn40 : n ≤ 40 := by
      have h9 := hlt
      unfold lightB at h9
      rw [Bool.and_eq_true] at h9
      have := of_decide_eq_true h9.1
      have := HN.out
      omega
    clear hlt
    by_cases hm40 : m ≤ 40
    case neg =>
      have g1 : (m : Int) > 40 := by omega
      go_enter Tryz.func6, Tryz.ntmps6
      go_wp2_with fail
      (with_reducible refine HL.out.mono ?_); rintro e w1 ⟨rfl, hb1⟩
      have HB1 := hid (hb1.mono hBw)
      have haw := AW _ HB1.out
      clear hb1
      go_wp2_with fail
      (with_reducible refine haw.out.mono ?_); rintro e w2 ⟨rfl, hb2⟩
      have HB2 := hid (HB1.out.trans (hb2.mono (Nat.le_trans hBw HB1.out.size)))
      clear hb2
      go_wp2
      go_ret
      exact ⟨rfl, HB2.out⟩
    have g1 : ¬ ((m : Int) > 40) := by omega
    go_enter Tryz.func6, Tryz.ntmps6
    go_wp2_with fail
    (with_reducible refine HL.out.mono ?_); rintro e w1 ⟨rfl, hb1⟩
    have HB1 := hid (hb1.mono hBw)
    have HNS := hid (newStore_fn w1)
    clear hb1
    go_wp2_with fail
    (with_reducible refine HNS.out.mono ?_); rintro e w2 ⟨rfl, hst, hb2⟩
    have hz1 := Nat.le_trans hBw HB1.out.size
    have HB2 := hid (HB1.out.trans (hb2.mono hz1))
    have HNS2 := hid (newStore_fn w2)
    have HST := hid hst
    obtain ⟨stx, hx0⟩ : ∃ st, st = w1.heap.size := ⟨_, rfl⟩
    rw [← hx0]
    have HX0 := hid hx0
    clear hb2 hst hx0
    go_wp2_with fail
    (with_reducible refine HNS2.out.mono ?_); rintro e w3 ⟨rfl, hst2, hb3⟩
    have hz2 := Nat.le_trans hBw HB2.out.size
    have HB3 := hid (HB2.out.trans (hb3.mono hz2))
    have hs3 : w3.heap[stx]? = some (.cells #[.slice none 0 0] 69 (0, 0)) := by
      have h2 := HST.out.blk
      rw [← HX0.out] at h2
      exact (hb3.block stx (Array.getElem?_eq_some_iff.1 h2).1).trans h2
    have hxy : stx < w2.heap.size := by
      have h2 := HST.out.blk
      rw [← HX0.out] at h2
      exact (Array.getElem?_eq_some_iff.1 h2).1
    have HS3 := hid hs3
    have HST2 := hid hst2
    have HNR := hid (newStoreR_fn w3)
    obtain ⟨sty, hy0⟩ : ∃ st, st = w2.heap.size := ⟨_, rfl⟩
    rw [← hy0] at hxy ⊢
    have HY0 := hid hy0
    clear hb3 hst2 hy0 hs3
    go_wp2_with fail
    (with_reducible refine HNR.out.mono ?_); rintro e w4 ⟨rfl, hst3, hb4⟩
    have hz3 := Nat.le_trans hBw HB3.out.size
    have HB4 := hid (HB3.out.trans (hb4.mono hz3))
    obtain ⟨st2, h20⟩ : ∃ st, st = w3.heap.size := ⟨_, rfl⟩
    rw [← h20]
    have hj : HidI B stx sty st2 [] w4 := by
      have h2 := HST2.out.blk
      rw [← HY0.out] at h2
      exact hid_new ((hb4.block stx (Array.getElem?_eq_some_iff.1 HS3.out).1).trans HS3.out) ((hb4.block sty (Array.getElem?_eq_some_iff.1 h2).1).trans h2) (by rw [h20]; exact hst3.blk) (by have := HX0.out; omega) (by have := HY0.out; omega) (by omega) (Nat.le_trans hBw HB4.out.size) (by omega)
    have HJ := hid hj
    clear hst3 hb4 h20 hj hz1 hz2 hz3 hxy HS3 HST HST2
    go_wp2
    go_loopg [29] n (fun k iv wr => ∃ (i : Nat) (T : List Str), iv = .int .i64 (i : Nat) ∧ i ≤ n ∧ HidI B stx sty st2 T wr ∧ Below B w wr ∧ T.length ≤ i ∧ k = n - i)
    case atStart => exact ⟨0, [], rfl, Nat.zero_le _, HJ.out, HB4.out, Nat.le_refl _, by simp⟩
    case round =>
      obtain ⟨i, T, rfl, hi, hj, hbl, hTl, rfl⟩ := hrel
      rcases Nat.lt_or_ge i n with hlt | hge
      · have hlt' : i < al.length := by rw [← HN.out]; exact hlt
        obtain ⟨a', cap', e', hcell⟩ := HV.out.low hbl
        simp only [Value.slice.injEq] at e'
        obtain ⟨b, o, lv, ha, hbl2, hlv, q4, q5, q6, q7, q8, q9⟩ := hcell i hlt'
        rw [← e'.1] at ha
        clear hcell e'
        subst ha
        obtain ⟨x, hx⟩ : ∃ x, x = al[i] := ⟨_, rfl⟩
        have hxok : x.ok := act_ok HLT.out (by rw [hx]; exact List.getElem_mem hlt')
        rw [← hx] at hlv q4 q5 q6 q7 q8
        have HOK := hid hxok
        have HLV := hid hlv
        have hlsh : ∃ la ln lc, lv = .slice la ln lc := by
          obtain ⟨la, lc, e, _⟩ := hlv
          exact ⟨_, _, _, e⟩
        obtain ⟨la, ln, lc, rfl⟩ := hlsh
        have hwz := Nat.le_trans hBw hbl.size
        obtain ⟨kind, h, nn, s, t, l⟩ := x
        dsimp only at q4 q5 q6 q7 q8
        obtain ⟨W, hW⟩ : ∃ W, W = wr.alloc (.cells #[.int .i64 kind, .int .i64 h, .int .i64 nn, .string ⟨s.toArray⟩, .string ⟨t.toArray⟩, .slice la ln lc] 25) := ⟨_, rfl⟩
        have hbW : Below wr.heap.size wr W := by rw [hW]; exact belowA _ _
        have hg : W.heap[wr.heap.size]? = some (.cells #[.int .i64 kind, .int .i64 h, .int .i64 nn, .string ⟨s.toArray⟩, .string ⟨t.toArray⟩, .slice la ln lc] 25 (0, 0)) := by rw [hW]; exact heap_alloc_new _ _
        have HBL := hid hbl
        have HWB := hid (hbl.trans (hbW.mono hwz))
        have HIW := hid (hj.on hbW)
        have HLW : ∀ u, Below B w u → StrsB B u (.slice la ln lc) l := fun u hu => by
          obtain ⟨c1, c2, c3, c4, c5⟩ := HLV.out
          refine ⟨c1, c2, c3, c4, fun j hj => ?_⟩
          obtain ⟨p, q1, q2, q3⟩ := c5 j hj
          refine ⟨p, q1, q2, (hu.cell (p := p.add j) (by rw [add_block]; exact q2)).trans ?_⟩
          rw [← q3]
          exact (HBL.out.cell (p := p.add j) (by rw [add_block]; exact q2)).symm
        have HPL := hid (show ∀ u, HidI B stx sty st2 T u → Below B w u → Calls Tryz.prog 38 #[.pointer (some ⟨sty, 0, none⟩), .pointer (some ⟨st2, 0, none⟩), .agg #[.int .i64 kind, .int .i64 h, .int .i64 nn, .string ⟨s.toArray⟩, .string ⟨t.toArray⟩, .slice la ln lc]] u fun e u' => e = .returned (.bool true) ∧ HidP B stx sty st2 ⟨kind, h, nn, s, t, l⟩ T u' ∧ Below B u u' ∧ KeepX u u' from
          fun u hu hbu => hid_play hu (HM.out.lowB hmB hbu) hmB (by omega) ⟨kind, h, nn, s, t, l⟩ (.slice la ln lc) (HLW u hbu) HOK.out)
        have HWW := hid hW
        have hi0 : i = 0 ∨ 0 < i := by omega
        clear hlv hxok hx hbW hW hj hbl
        by_cases k3 : kind = 3
        · subst k3
          clear HPL HLW hg
          go_wp2
          go_roundg (n - (i + 1))
          case measure => omega
          case rel => exact ⟨i + 1, T, by go_num, by omega, by rw [← HWW.out]; exact HIW.out, by rw [← HWW.out]; exact HWB.out, by omega, rfl⟩
        by_cases k8 : kind = 8
        · subst k8
          clear HPL HLW hg
          go_wp2
          go_roundg (n - (i + 1))
          case measure => omega
          case rel => exact ⟨i + 1, T, by go_num, by omega, by rw [← HWW.out]; exact HIW.out, by rw [← HWW.out]; exact HWB.out, by omega, rfl⟩
        have HAC := hid (show ∀ u, HidP B stx sty st2 ⟨kind, h, nn, s, t, l⟩ T u → Below B w u → Calls Tryz.prog 39 #[.pointer (some ⟨stx, 0, none⟩), .pointer (some ⟨sty, 0, none⟩), .agg #[.int .i64 kind, .int .i64 h, .int .i64 nn, .string ⟨s.toArray⟩, .string ⟨t.toArray⟩, .slice la ln lc]] u fun e u' => e = .returned (.bool true) ∧ HidI B stx sty st2 (stepT ⟨kind, h, nn, s, t, l⟩ T) u' ∧ Below B u u' ∧ KeepX u u' from
          fun u hu hbu => hid_act (a := ⟨kind, h, nn, s, t, l⟩) hu (HM.out.lowB hmB hbu) hmB (by omega) (.slice la ln lc) (HLW u hbu) HOK.out k3 k8)
        have e3 : (kind == 3) = false := by rw [beq_eq_false_iff_ne]; exact k3
        have e8 : (kind == 8) = false := by rw [beq_eq_false_iff_ne]; exact k8
        have fields : ∀ u : World, u.heap[wr.heap.size]? = some (.cells #[.int .i64 kind, .int .i64 h, .int .i64 nn, .string ⟨s.toArray⟩, .string ⟨t.toArray⟩, .slice la ln lc] 25 (0, 0)) →
            u.cell? ⟨wr.heap.size, 0, none⟩ = some (.int .i64 kind) ∧ u.cell? ⟨wr.heap.size, 1, none⟩ = some (.int .i64 h) ∧ u.cell? ⟨wr.heap.size, 2, none⟩ = some (.int .i64 nn) ∧ u.cell? ⟨wr.heap.size, 3, none⟩ = some (.string ⟨s.toArray⟩) ∧ u.cell? ⟨wr.heap.size, 4, none⟩ = some (.string ⟨t.toArray⟩) ∧ u.cell? ⟨wr.heap.size, 5, none⟩ = some (.slice la ln lc) := by
          intro u hu
          refine ⟨?_, ?_, ?_, ?_, ?_, ?_⟩ <;> (rw [Lib.cell_of_heap hu]; rfl)
        have FD := hid fields
        have KP := hid (show ∀ u : World, KeepX W u → u.heap[wr.heap.size]? = some (.cells #[.int .i64 kind, .int .i64 h, .int .i64 nn, .string ⟨s.toArray⟩, .string ⟨t.toArray⟩, .slice la ln lc] 25 (0, 0)) from fun u hk => hk _ _ _ _ hg (by decide))
        clear fields HLW hg
        by_cases him : i < m
        · have him' : i < ol.length := by rw [← HMM.out]; exact him
          have him2 : (i : Int) < (m : Int) := by omega
          obtain ⟨p, rfl, hpb, hcw⟩ := HOC.out i him'
          have hbd := HOB.out i him'
          generalize ol[i] = z at hcw hbd
          have HFG := hid (hid_forget HIW.out (HM.out.lowB hmB HWB.out) (by omega))
          have HCZ := hid (show ∀ u, Below B w u → u.cell? (p.add i) = some (.int .u8 z) from fun u hu => (hu.cell (p := p.add i) (by rw [add_block]; exact hpb)).trans hcw)
          have wz : IntKind.i64.wrap z = z := wrap_small (by omega) (by omega)
          have wm : z.tmod 5 = z % 5 := Int.tmod_eq_emod_of_nonneg hbd.1
          have wd : IntKind.i64.wrap (z.tdiv 5) = z / 5 := by
            rw [Int.tdiv_eq_ediv_of_nonneg hbd.1]
            exact wrap_small (by omega) (by omega)
          have wn : (z / 5).tmod 4 = z / 5 % 4 := Int.tmod_eq_emod_of_nonneg (by omega)
          have WZ := hid wz
          have WM := hid wm
          have WD := hid wd
          have WN := hid wn
          clear hcw k3 k8 wz wm wd wn
          go_wp2_with fail
          rw [← HWW.out]
          (with_reducible refine HFG.out.mono ?_); rintro e w3 ⟨rfl, hi3, hb3, hx3⟩
          have HI3 := hid hi3
          have HB3' := hid (HWB.out.trans hb3)
          have HX3 := hid hx3
          clear hi3 hb3 hx3
          go_wp2
          have hmx : Tryz.prog.follows .mixedOrders = true := by kernel_rfl
          refine U_begin (late := fun _ => false) (S := fun u : World => u.cell? (p.add i) = some (.int .u8 z)) hmx ?_
          have S0 : Hid ((fun u : World => u.cell? (p.add i) = some (.int .u8 z)) w3.drew) := hid (HCZ.out w3 HB3'.out)
          refine U_take2 8 (i := 0) (v := .pointer (some ⟨stx, 0, none⟩)) rfl (by kernel_rfl) (by kernel_rfl) (by kernel_rfl) (by kernel_rfl) (by kernel_rfl) (fun _ _ _ h => h) (.inl ⟨rfl, fun u hu => (by go_simp)⟩) S0.out ?_
          refine U_take2 8 (i := 1) (v := .slice (some p) m ocap) rfl (by kernel_rfl) (by kernel_rfl) (by kernel_rfl) (by kernel_rfl) (by kernel_rfl) (fun _ _ _ h => h) (.inl ⟨rfl, fun u hu => (by go_simp)⟩) S0.out ?_
          refine U_take2 8 (i := 2) (v := .int .i64 (i : Nat)) rfl (by kernel_rfl) (by kernel_rfl) (by kernel_rfl) (by kernel_rfl) (by kernel_rfl) (fun _ _ _ h => h) (.inl ⟨rfl, fun u hu => (by go_simp)⟩) S0.out ?_
          refine U_take2 8 (i := 3) (v := .pointer (some (p.add i))) rfl (by kernel_rfl) (by kernel_rfl) (by kernel_rfl) (by kernel_rfl) (by kernel_rfl) (fun _ _ _ h => h) (.inl ⟨rfl, fun u hu => (by go_simp)⟩) S0.out ?_
          refine U_take2 8 (i := 4) (v := .int .u8 z) rfl (by kernel_rfl) (by kernel_rfl) (by kernel_rfl) (by kernel_rfl) (by kernel_rfl) (fun _ _ _ h => h) (.inl ⟨rfl, fun u hu => (by have h1 := hu; go_simp)⟩) S0.out ?_
          refine U_take2 8 (i := 5) (v := .int .i64 z) rfl (by kernel_rfl) (by kernel_rfl) (by kernel_rfl) (by kernel_rfl) (by kernel_rfl) (fun _ _ _ h => h) (.inl ⟨rfl, fun u hu => (by go_simp; exact WZ.out)⟩) S0.out ?_
          refine U_take2 8 (i := 6) (v := .int .i64 (z % 5)) rfl (by kernel_rfl) (by kernel_rfl) (by kernel_rfl) (by kernel_rfl) (by kernel_rfl) (fun _ _ _ h => h) (.inl ⟨rfl, fun u hu => (by go_simp; exact WM.out)⟩) S0.out ?_
          refine U_take2 8 (i := 7) (v := .slice (some p) m ocap) rfl (by kernel_rfl) (by kernel_rfl) (by kernel_rfl) (by kernel_rfl) (by kernel_rfl) (fun _ _ _ h => h) (.inl ⟨rfl, fun u hu => (by go_simp)⟩) S0.out ?_
          refine U_take2 8 (i := 8) (v := .int .i64 (i : Nat)) rfl (by kernel_rfl) (by kernel_rfl) (by kernel_rfl) (by kernel_rfl) (by kernel_rfl) (fun _ _ _ h => h) (.inl ⟨rfl, fun u hu => (by go_simp)⟩) S0.out ?_
          refine U_take2 8 (i := 9) (v := .pointer (some (p.add i))) rfl (by kernel_rfl) (by kernel_rfl) (by kernel_rfl) (by kernel_rfl) (by kernel_rfl) (fun _ _ _ h => h) (.inl ⟨rfl, fun u hu => (by go_simp)⟩) S0.out ?_
          refine U_take2 8 (i := 10) (v := .int .u8 z) rfl (by kernel_rfl) (by kernel_rfl) (by kernel_rfl) (by kernel_rfl) (by kernel_rfl) (fun _ _ _ h => h) (.inl ⟨rfl, fun u hu => (by have h1 := hu; go_simp)⟩) S0.out ?_
          refine U_take2 8 (i := 11) (v := .int .i64 z) rfl (by kernel_rfl) (by kernel_rfl) (by kernel_rfl) (by kernel_rfl) (by kernel_rfl) (fun _ _ _ h => h) (.inl ⟨rfl, fun u hu => (by go_simp; exact WZ.out)⟩) S0.out ?_
          refine U_take2 8 (i := 12) (v := .int .i64 (z / 5)) rfl (by kernel_rfl) (by kernel_rfl) (by kernel_rfl) (by kernel_rfl) (by kernel_rfl) (fun _ _ _ h => h) (.inl ⟨rfl, fun u hu => (by go_simp; exact WD.out)⟩) S0.out ?_
          refine U_take2 8 (i := 13) (v := .int .i64 (z / 5 % 4)) rfl (by kernel_rfl) (by kernel_rfl) (by kernel_rfl) (by kernel_rfl) (by kernel_rfl) (fun _ _ _ h => h) (.inl ⟨rfl, fun u hu => (by go_simp; exact WN.out)⟩) S0.out ?_
          refine U_step (j := 14) (by kernel_rfl) rfl (fun K hK => ?_)
          go_simp
          (with_reducible refine (hid_ask (HI3.out.on (Below.refl _ _).drew) ((HM.out.lowB hmB HB3'.out).below (Below.refl _ _).drew) _ _).mono ?_); rintro e w4 ⟨⟨za, rfl⟩, hi4, hb4, hx4⟩
          have hBw3 := HI3.out.low
          have HI := hid hi4
          have HB := hid (HB3'.out.trans (((Below.refl _ _).drew.mono hBw3).trans hb4))
          have HX := hid (HX3.out.trans ((KeepX.of (Below.refl _ _).drew).trans hx4))
          have S2 : Hid ((fun u : World => u.cell? (p.add i) = some (.int .u8 z)) w4) := hid (HCZ.out w4 HB.out)
          refine hK.out _ _ (.inr S2.out) ?_
          clear hK K hi4 hb4 hx4
          refine U_done (by kernel_rfl) ?_ _
          obtain ⟨c0, c1, c2, c3, c4, c5⟩ := FD.out w4 (KP.out w4 HX.out)
          have HPLx := hid (HPL.out w4 HI.out HB.out)
          clear S0 S2 hbd
          go_wp2_with fail
          (with_reducible refine HPLx.out.mono ?_); rintro e w5 ⟨rfl, hp5, hb5, hx5⟩
          have HX5 := hid (HX.out.trans hx5)
          have HB5 := hid (HB.out.trans hb5)
          obtain ⟨d0, d1, d2, d3, d4, d5⟩ := FD.out w5 (KP.out w5 HX5.out)
          have HACx := hid (HAC.out w5 hp5 HB5.out)
          clear hp5 hb5 hx5 c0 c1 c2 c3 c4 c5
          go_wp2_with fail
          (with_reducible refine HACx.out.mono ?_); rintro e w6 ⟨rfl, hi6, hb6, hx6⟩
          have HI6 := hid hi6
          have HB6 := hid (HB5.out.trans hb6)
          clear hi6 hb6 hx6 d0 d1 d2 d3 d4 d5
          go_wp2
          go_roundg (n - (i + 1))
          case measure => omega
          case rel => exact ⟨i + 1, stepT ⟨kind, h, nn, s, t, l⟩ T, by go_num, by omega, HI6.out, HB6.out, by have := stepT_len ⟨kind, h, nn, s, t, l⟩ T; omega, rfl⟩
        · have him2 : ¬ ((i : Int) < (m : Int)) := by omega
          have HB := HWB
          have HX := hid (KeepX.refl W)
          have HPLx := hid (HPL.out W HIW.out HWB.out)
          obtain ⟨c0, c1, c2, c3, c4, c5⟩ := FD.out W (KP.out W HX.out)
          clear k3 k8
          go_wp2_with fail
          rw [← HWW.out]
          (with_reducible refine HPLx.out.mono ?_); rintro e w5 ⟨rfl, hp5, hb5, hx5⟩
          have HX5 := hid (HX.out.trans hx5)
          have HB5 := hid (HB.out.trans hb5)
          obtain ⟨d0, d1, d2, d3, d4, d5⟩ := FD.out w5 (KP.out w5 HX5.out)
          have HACx := hid (HAC.out w5 hp5 HB5.out)
          clear hp5 hb5 hx5 c0 c1 c2 c3 c4 c5
          go_wp2_with fail
          (with_reducible refine HACx.out.mono ?_); rintro e w6 ⟨rfl, hi6, hb6, hx6⟩
          have HI6 := hid hi6
          have HB6 := hid (HB5.out.trans hb6)
          clear hi6 hb6 hx6 d0 d1 d2 d3 d4 d5
          go_wp2
          go_roundg (n - (i + 1))
          case measure => omega
          case rel => exact ⟨i + 1, stepT ⟨kind, h, nn, s, t, l⟩ T, by go_num, by omega, HI6.out, HB6.out, by have := stepT_len ⟨kind, h, nn, s, t, l⟩ T; omega, rfl⟩
      · obtain rfl : i = n := by omega
        have HJ2 := hid hj
        have HCT := hid (hid_count hj)
        have HBL := hid hbl
        clear hj hbl hge
        obtain ⟨tl, htl⟩ : ∃ tl, tl = T.length := ⟨_, rfl⟩
        rw [← htl] at HCT hTl
        clear htl
        go_wp2_with fail
        (with_reducible refine HCT.out.mono ?_); rintro e w5 ⟨rfl, hw5⟩; subst hw5
        have HTX := hid (show ∀ (u : World) (k : Int), HidI B stx sty st2 T u → Below B w u → Calls Tryz.prog 14 #[.pointer (some ⟨stx, 0, none⟩), .int .i64 k] u fun e u' => e = .returned (.tuple #[.string ⟨(textT T k).1.toArray⟩, .int .i64 (textT T k).2]) ∧ HidI B stx sty st2 T u' ∧ Below B u u' ∧ KeepX u u' from fun u k hu hbu => hid_textX hu (HM.out.lowB hmB hbu) k)
        have HTY := hid (show ∀ (u : World) (k : Int), HidI B stx sty st2 T u → Below B w u → Calls Tryz.prog 14 #[.pointer (some ⟨sty, 0, none⟩), .int .i64 k] u fun e u' => e = .returned (.tuple #[.string ⟨(textT T k).1.toArray⟩, .int .i64 (textT T k).2]) ∧ HidI B stx sty st2 T u' ∧ Below B u u' ∧ KeepX u u' from fun u k hu hbu => hid_textY hu (HM.out.lowB hmB hbu) k)
        generalize textT T = tx at HTX HTY
        go_wp2
        go_loopg [76] tl (fun k iv wr => ∃ (j : Nat), iv = .int .i64 (j : Nat) ∧ j ≤ tl ∧ HidI B stx sty st2 T wr ∧ Below B w wr ∧ k = tl - j)
        case atStart => exact ⟨0, rfl, Nat.zero_le _, HJ2.out, HBL.out, by simp⟩
        case round =>
          obtain ⟨j, rfl, hj2, hjj, hbl, rfl⟩ := hrel
          rcases Nat.lt_or_ge j tl with hlt | hge
          · have H1 := hid (HTX.out _ (j : Int) hjj hbl)
            have HBL2 := hid hbl
            clear hjj hbl
            obtain ⟨⟨q, z⟩, hqz⟩ : ∃ r, r = tx (j : Int) := ⟨_, rfl⟩
            rw [← hqz] at H1
            dsimp only at H1
            have HQZ := hid hqz
            clear hqz
            go_wp2_with fail
            (with_reducible refine H1.out.mono ?_); rintro e w6 ⟨rfl, hi6, hb6, hx6⟩
            have H2 := hid (HTY.out _ (j : Int) hi6 (HBL2.out.trans hb6))
            have HB6 := hid (HBL2.out.trans hb6)
            rw [← HQZ.out] at H2
            dsimp only at H2
            clear hi6 hb6 hx6
            go_wp2_with fail
            (with_reducible refine H2.out.mono ?_); rintro e w7 ⟨rfl, hi7, hb7, hx7⟩
            have HI7 := hid hi7
            have HB7 := hid (HB6.out.trans hb7)
            clear hi7 hb7 hx7
            go_wp2
            go_roundg (tl - (j + 1))
            case measure => omega
            case rel => exact ⟨j + 1, by go_num, by omega, HI7.out, HB7.out, rfl⟩
          · obtain rfl : j = tl := by omega
            have haw := AW _ hbl
            have HBB := hid hbl
            have hwz := Nat.le_trans hBw hbl.size
            clear hjj hbl
            go_wp2_with fail
            (with_reducible refine haw.out.mono ?_); rintro e w8 ⟨rfl, hb8⟩
            have HB9 := hid (HBB.out.trans (hb8.mono hwz))
            clear hb8
            go_wp2
            go_ret
            exact ⟨rfl, HB9.out⟩
end Go.Proofs.YtabhkoklcjhlpaaGreatDoor.Pz
/-
  ValueHidden: the row and its card (the second form: arguments of bulk at most 1048576). Condition: the listed package-level variables hold what the row lists (the card ties them to the text).
-/
namespace Go.Proofs.YtabhkoklcjhlpaaGreatDoor.valueHidden
open Go.ChangeMaps Go.ChangeShapes Go.WideShapes Go.ChangeAt Go.RowKit
theorem own : ownKnob Tryz.prog.godebug = none := by kernel_rfl
theorem ok_true {P : Program} {W' : World} {f : Func} {t : TypeId} (hr : f.resultTypes = #[t]) (ht : P.underlying t = some .bool) :
    ∀ (j : Nat) (t' : TypeId) (r : Value), f.resultTypes[j]? = some t' → ((Value.bool true).resultList f.resultTypes.size)[j]? = some r → Value.okWide P W' .any 0 t' r := ok_one hr rfl (okWide_bool_mk ht true)
section
variable {H : Type} {enc : TypeId × Value → H}
/-- the row's last step: the arguments' places read as they did, no variable is asked, what lay below is as it was -/
theorem post_rows {f : Func} {s : ChangeSpec} {W W' : World} {args : Array Value} {v : Value} {ds gs : List (DataW H)} {before pa : List MemPlace}
    (hW : DataW.Whole enc Tryz.prog f.params.toList s.vars false W args.toList ds gs before)
    (hres : ∀ (b : Nat) (sp : Nat → Bool) (hd : Bool), DataW.TrodAll enc Tryz.prog W' b sp hd f.resultTypes.toList (v.resultList f.resultTypes.size) (s.fn H (ds ++ gs)).results [])
    (hargs : DataW.TrodAll enc Tryz.prog W' 0 (fun b => decide (b < W.heap.size)) true f.params.toList args.toList (s.fn H (ds ++ gs)).args pa)
    (hvars : ∀ sp : Nat → Bool, DataW.TrodVars enc Tryz.prog W' sp s.vars (s.fn H (ds ++ gs)).vars []) (hb : Below W.heap.size W W') :
    s.post enc Tryz.prog f false true false false W args v W' :=
  ⟨ds, gs, before, [], pa, [], hW, hres _ _ _, hargs, hvars _, hb.frame _, fun h => by cases h⟩
theorem laidOut : laidOutB Tryz.prog = true := by kernel_rfl
end
theorem contract (H : Type) (enc : TypeId × Value → H) (W : World) (base : Nat) (args : Array Value) (ds gs : List (DataW H)) (before : List MemPlace)
    (hval : ∀ (j : Nat) t v, Tryz.f6.params[j]? = some t → args[j]? = some v → Value.okWide Tryz.prog W .any base t v)
    (hW : DataW.Whole enc Tryz.prog Tryz.f6.params.toList Rows.valueHiddenSpec.vars false W args.toList ds gs before) (hk : Rows.uptoSmall H (ds ++ gs) = true) (hml : Pz.ML W) :
    Calls Tryz.prog 6 args W fun e W' => ∃ v, e = .returned v ∧ Rows.valueHiddenSpec.post enc Tryz.prog Tryz.f6 false true false false W args v W' := by
  have hW' := hW
  obtain ⟨p, q, hA0, hV, rfl, hfz, hnd⟩ := hW
  have hA : DataW.TrodAll enc Tryz.prog W 0 (fun _ => true) true Tryz.f6.params.toList args.toList ds p := hA0
  rw [Tryz.params6] at hA hval
  obtain ⟨v0, vs0, d0, ds0, p0, q0, hargs, rfl, rfl, h0, r0⟩ := trodAll_cons hA
  obtain ⟨v1, vs1, d1, ds1, p1, q1, rfl, rfl, rfl, h1, r1⟩ := trodAll_cons r0
  obtain ⟨rfl, rfl, rfl⟩ := trodAll_nil r1
  obtain rfl : args = #[v0, v1] := by cases args; simp_all
  obtain ⟨rfl, rfl⟩ := trodVars_none hV
  clear hA0
  simp only [List.append_nil, List.nil_append] at hW' hk
  have hlt0 : ∀ x ∈ p0, x.block < W.heap.size := fun x hx => by simpa using hW'.lt x (by simp [hx])
  obtain ⟨l0, hl0, hb0, hn0⟩ := Opn.opened_acts (P := Tryz.prog) Tryz.underlying26 Tryz.underlying25 (by kernel_rfl) ⟨_, rfl, rfl, rfl⟩ ⟨_, rfl, rfl, rfl⟩ ⟨_, rfl, rfl, rfl⟩ ⟨_, rfl, rfl, rfl⟩ ⟨_, rfl, rfl, rfl⟩ ⟨_, rfl, rfl, rfl⟩ rfl Tryz.underlying3 (by kernel_rfl) Tryz.underlying9 (by kernel_rfl) Tryz.underlying22 (by kernel_rfl) (by with_reducible exact hval 0 26 v0 (by simp) (by simp)) h0 hlt0
  have hlt1 : ∀ x ∈ p1, x.block < W.heap.size := fun x hx => by simpa using hW'.lt x (by simp [hx])
  obtain ⟨l1, hl1, hb1, hn1⟩ := Opn.opened_bytes (P := Tryz.prog) Tryz.underlying54 Tryz.underlying5 (by kernel_rfl) (by with_reducible exact hval 1 54 v1 (by simp) (by simp)) h1 hlt1
  have hk := of_decide_eq_true hk
  simp only [Rows.uptoBulkAll] at hk
  have walk := Pz.valueHidden_fn l0 l1 _ _ W hml hl0 hl1 (by omega)
  refine walk.mono fun e W' ⟨he, hg⟩ => ?_
  subst he
  exact ⟨_, rfl, post_rows hW' (fun _ _ _ => trodAll_cons_mk (shut_bool Tryz.underlying4 _) trodAll_mk0) (trodAll_cons_mk (Below.trod laidOut (by kernel_rfl) (of_decide_eq_true (by kernel_rfl)) h0 hg hlt0) (trodAll_cons_mk (Below.trod laidOut (by kernel_rfl) (of_decide_eq_true (by kernel_rfl)) h1 hg hlt1) (trodAll_mk0))) (fun _ => rfl) hg⟩
theorem reads (os : Os) {H : Type} (enc : TypeId × Value → H) : ∃ places, DataW.whole enc Tryz.prog ((World.laidAll Tryz.prog os Rows.valueHiddenUptoRow.laid).forCall (fun _ _ => 0) ⟨#[], #[.slice none 0 0, .slice none 0 0], []⟩).memory Tryz.f6.params.toList Rows.valueHiddenSpec.vars false (#[.slice none 0 0, .slice none 0 0] : Array Value).toList 8 = some ([.nil, .nil], [], places) :=
  ⟨[], by kernel_rfl⟩
set_option maxRecDepth 100000 in
theorem lifted (os : Os) (started : os.Started) (H : Type) (enc : TypeId × Value → H) (F : Stop.Interp) :
    ReturnsInHanded {} Tryz.checked os 6 .any ((Rows.OpenSpec.upto Rows.valueHiddenSpec).preRow enc Tryz.prog Tryz.f6 Rows.valueHiddenUptoRow.domain false Rows.valueHiddenUptoRow.laid) (((Rows.OpenSpec.upto Rows.valueHiddenSpec).at F).post enc Tryz.prog Tryz.f6 false true false false) := by
  obtain ⟨places, hx⟩ := reads os enc
  have hl : laidMetH Tryz.prog Rows.valueHiddenUptoRow.laid ((World.laidAll Tryz.prog os Rows.valueHiddenUptoRow.laid).forCall (fun _ _ => 0) ⟨#[], #[.slice none 0 0, .slice none 0 0], []⟩).memory := by
    rw [MakeChecks.laidMetH_plain _ _ _ (by kernel_rfl)]
    exact laidMet_laidAll _ (by kernel_rfl) (by kernel_rfl)
  refine returnsInHanded_of_row (C := Tryz.checked) (s := (Rows.OpenSpec.upto Rows.valueHiddenSpec)) own started (by kernel_rfl) Tryz.func6
    (witness_row_at (enc := enc) (C := Tryz.checked) false (World.laidAll Tryz.prog os Rows.valueHiddenUptoRow.laid) #[.slice none 0 0, .slice none 0 0] (World.laidAll_os _ _ _) (by kernel_rfl) (by kernel_rfl) (by kernel_rfl)
      (OpenSpec.preRow_of_cond 8 hx (by kernel_rfl) (fun k hk => by cases hk; kernel_rfl) (by kernel_rfl) hl)) ?_
  intro W base args ds gs before hval hW _ hcond _ _ hsh _
  exact contract H enc W base args ds gs before hval hW (hcond _ rfl) (cell_of_shapedOpen_int (t := 3) (zero := #[.int .i64 0]) hsh (of_decide_eq_true (by kernel_rfl)) (by kernel_rfl) rfl (by kernel_rfl) (by kernel_rfl) Tryz.underlying3)
theorem said : Rows.ValueHiddenUptoSaid :=
  OpenClaim.holds_of_cond 6 Tryz.f6 rfl rfl rfl rfl rfl rfl rfl ⟨rfl, rfl, rfl, rfl, rfl⟩ rfl rfl rfl rfl rfl (by kernel_rfl) Tryz.func6 (by kernel_rfl)
    (of_decide_eq_true (by kernel_rfl)) (by unfold Func.isWrapper; first | (rw [if_pos (by decide +kernel)]; kernel_rfl) | (rw [if_neg (by decide +kernel)]; exact ⟨rfl, rfl⟩))
    (fun os started H enc _ F => by rw [OpenClaim.pre_eq_preRow]; exact lifted os started H enc F)
theorem plain (f : FuncId) (fn : Func) (hf : Tryz.pinned.checked.prog.funcNamed "threadbare/threadbarelaw05.ValueHidden" = some f) (hfn : Tryz.pinned.checked.prog.funcs[f]? = some fn) :
    true = Tryz.pinned.checked.prog.looks [] ∧ ∀ (j : Nat) t, fn.params[j]? = some t → Tryz.pinned.checked.prog.wantsStandIn t = false := by
  obtain rfl : f = 6 := Option.some.inj ((show Tryz.prog.funcNamed "threadbare/threadbarelaw05.ValueHidden" = some 6 by kernel_rfl).symm.trans hf) |>.symm
  obtain rfl : fn = Tryz.f6 := (Option.some.inj (Tryz.func6.symm.trans hfn)).symm
  refine ⟨by kernel_rfl, fun j t ht => ?_⟩
  rw [Tryz.params6] at ht
  have ht := Array.mem_of_getElem? ht
  simp at ht
  rcases ht with rfl | rfl
  · exact (show Tryz.prog.wantsStandIn 26 = false by kernel_rfl)
  · exact (show Tryz.prog.wantsStandIn 54 = false by kernel_rfl)
theorem card : Rows.ValueHiddenUptoCardSaid :=
  Claim7.holds_tied_plain_at .later [] _ _ _ _ said (fun _ h => by cases h) (by kernel_rfl) (fun _ h => by cases h) valueHiddenUpto_row_tie rfl ⟨rfl, rfl⟩ (by kernel_rfl) rfl plain (by kernel_rfl)
end Go.Proofs.YtabhkoklcjhlpaaGreatDoor.valueHidden
