/-
  Part K13 of the proofs of this seat: contracts of functions and plain facts, merged from 1 texts.
-/
import Derived.Test.YtihdndaibmgoiaaGreatDoorK0
import Derived.Test.YtihdndaibmgoiaaGreatDoorK1
import Derived.Test.YtihdndaibmgoiaaGreatDoorK2
import Derived.Test.YtihdndaibmgoiaaGreatDoorK3
import Derived.Test.YtihdndaibmgoiaaGreatDoorK4
import Derived.Test.YtihdndaibmgoiaaGreatDoorK5
import Derived.Test.YtihdndaibmgoiaaGreatDoorK6
import Derived.Test.YtihdndaibmgoiaaGreatDoorK7
import Derived.Test.YtihdndaibmgoiaaGreatDoorK8
import Derived.Test.YtihdndaibmgoiaaGreatDoorK9
import Derived.Test.YtihdndaibmgoiaaGreatDoorK10
import Derived.Test.YtihdndaibmgoiaaGreatDoorK11
import Derived.Test.YtihdndaibmgoiaaGreatDoorK12
/-
  The reference: short, Add, Sub.
-/
namespace Go.Proofs.YtihdndaibmgoiaaGreatDoor
open Go.RowKit
theorem Blk.four {w : World} {b : Nat} {x y z u : Value} {t : TypeId} (h : Blk w b #[x, y, z, u] t) : w.cell? ⟨b, 0, none⟩ = some x ∧ w.cell? ⟨b, 1, none⟩ = some y ∧ w.cell? ⟨b, 2, none⟩ = some z ∧ w.cell? ⟨b, 3, none⟩ = some u :=
  ⟨h.cell 0, h.cell 1, h.cell 2, h.cell 3⟩
theorem DNum.rep {w : World} {g : Bool} {a : Option Addr} {n c : Nat} {z : Int} (h : DNum w (.agg #[.bool g, .slice a n c]) z) : DecRep w (.slice a n c) z.natAbs := by
  obtain ⟨s, he, hd⟩ := h
  simp only [Value.agg.injEq, Array.mk.injEq, List.cons.injEq, and_true] at he
  rw [he.2]; exact hd
theorem Nums.mk2 {w : World} {b : Nat} {t : TypeId} {g1 g2 : Bool} {s1 s2 : Option Addr} {n1 n2 c1 c2 : Nat} {x y : Int} (k : Blk w b #[.bool g1, .slice s1 n1 c1, .bool g2, .slice s2 n2 c2] t)
    (hx : DNum w (.agg #[.bool g1, .slice s1 n1 c1]) x) (hy : DNum w (.agg #[.bool g2, .slice s2 n2 c2]) y) : Nums w (.slice (some ⟨b, 0, none⟩) 2 2) [x, y] := by
  obtain ⟨k1, k2, k3, k4⟩ := k.four
  obtain ⟨ex1, ex2⟩ := hx.parts
  obtain ⟨ey1, ey2⟩ := hy.parts
  subst ex1; subst ex2; subst ey1; subst ey2
  refine ⟨_, _, rfl, Nat.le_refl _, fun _ => ⟨b, rfl, k.lt, fun i hi => ?_⟩⟩
  have : i = 0 ∨ i = 1 := by simp at hi; omega
  rcases this with rfl | rfl
  · exact ⟨s1, c1, k1, k2, hx.rep⟩
  · exact ⟨s2, c2, k3, k4, hy.rep⟩
theorem Nums.mk1 {w : World} {b : Nat} {t : TypeId} {g1 : Bool} {s1 : Option Addr} {n1 c1 : Nat} {x : Int} (k : Blk w b #[.bool g1, .slice s1 n1 c1] t)
    (hx : DNum w (.agg #[.bool g1, .slice s1 n1 c1]) x) : Nums w (.slice (some ⟨b, 0, none⟩) 1 1) [x] := by
  obtain ⟨⟨k1, k2⟩, _⟩ := k.two
  obtain ⟨ex1, ex2⟩ := hx.parts
  subst ex1; subst ex2
  refine ⟨_, _, rfl, Nat.le_refl _, fun _ => ⟨b, rfl, k.lt, fun i hi => ?_⟩⟩
  have : i = 0 := by simp at hi; omega
  subst this
  exact ⟨s1, c1, k1, k2, hx.rep⟩
theorem dlen_abs_add (x y : Int) : dlen 10 (x + y).natAbs ≤ max (dlen 10 x.natAbs) (dlen 10 y.natAbs) + 1 :=
  Nat.le_trans (dlen_mono _ _ (Int.natAbs_add_le x y)) (dlen_add_le _ _)
theorem anyBig_two {x' y' x y : Int} (hx : Cut x' x) (hy : Cut y' y) : anyBig [x', y'] = (decide (big600 ≤ x.natAbs) || decide (big600 ≤ y.natAbs)) := by
  unfold anyBig
  simp only [List.any_cons, List.any_nil, Bool.or_false]
  rw [hx.big, hy.big]
theorem told_two {a b : List UInt8} {x' y' z' z : Int} (oa : pOK a = true) (ob : pOK b = true) (hx : Cut x' (pVal a)) (hy : Cut y' (pVal b)) (hz : x' = pVal a → y' = pVal b → z' = z) : toldRes z' [x', y'] = twoRes a b 0 z := by
  have e2 : twoRes a b 0 z = if big600 ≤ (pVal a).natAbs ∨ big600 ≤ (pVal b).natAbs then ([], 4) else resOf z := by
    unfold twoRes
    rw [if_pos ⟨oa, ob⟩, if_neg (by simp)]
  unfold toldRes
  rw [e2, anyBig_two hx hy]
  by_cases h1 : big600 ≤ (pVal a).natAbs
  · rw [decide_eq_true h1, if_pos (show big600 ≤ (pVal a).natAbs ∨ big600 ≤ (pVal b).natAbs from .inl h1)]; rfl
  · by_cases h2 : big600 ≤ (pVal b).natAbs
    · rw [decide_eq_true h2, Bool.or_true, if_pos (show big600 ≤ (pVal a).natAbs ∨ big600 ≤ (pVal b).natAbs from .inr h2)]; rfl
    · rw [hz (hx.small (by omega)) (hy.small (by omega)), decide_eq_false h1, decide_eq_false h2, if_neg (show ¬ (big600 ≤ (pVal a).natAbs ∨ big600 ≤ (pVal b).natAbs) by omega)]; rfl
set_option maxRecDepth 100000 in
set_option maxHeartbeats 4000000 in
theorem short_fn {u : Value} {zs : List Int} {w : World} (hs : Nums w u zs) (hz : ∀ x ∈ zs, dlen 10 x.natAbs ≤ 10000000) (hn : zs.length ≤ 100) :
    Calls Tryz.prog 60 #[u] w fun e w' => e = .returned (.bool (!anyBig zs)) ∧ Below w.heap.size w w' := by
  have hs0 := hs
  obtain ⟨su, cu, rfl, hcu, hcell⟩ := hs0
  have HZ := hid hz
  have HC := hid hcell
  clear hz hcell
  go_enter Tryz.func60, Tryz.ntmps60
  go_wp2
  go_loopw [7] (fun iv wr => ∃ k : Nat, iv = .int .i64 k ∧ k ≤ zs.length ∧ anyBig (zs.take k) = false ∧ Below w.heap.size w wr) (fun iv _ => zs.length - (intOf iv).toNat)
  case atStart => exact ⟨0, rfl, Nat.zero_le _, rfl, Below.refl _ _⟩
  case round =>
    obtain ⟨k, rfl, hk, hany, hbr⟩ := hrel
    have HA := hid hany
    clear hany
    by_cases hlt : k < zs.length
    · obtain ⟨b, rfl, hbl, hc⟩ := HC.out (by omega)
      obtain ⟨s, c, c1, c2, c3⟩ := hc k hlt
      have c1 := (hbr.cell (p := ⟨b, k * 2, none⟩) hbl).trans c1
      have c2 := (hbr.cell (p := ⟨b, k * 2 + 1, none⟩) hbl).trans c2
      have e : zs.getD k 0 = zs[k] := by rw [List.getD_eq_getElem?_getD, List.getElem?_eq_getElem hlt]; rfl
      have hdl := HZ.out (zs[k]) (List.getElem_mem hlt)
      rw [e] at c1 c2 c3
      have HT := hid (show anyBig (zs.take (k + 1)) = decide (big600 ≤ (zs[k]).natAbs) by
        have h1 := HA.out
        unfold anyBig at h1 ⊢
        rw [List.take_add_one, List.getElem?_eq_getElem hlt, List.any_append, h1]
        simp)
      have hmono : anyBig (zs.take (k + 1)) = true → anyBig zs = true := by
        unfold anyBig
        intro h
        rw [List.any_eq_true] at h ⊢
        obtain ⟨x, h1, h2⟩ := h
        exact ⟨x, List.mem_of_mem_take h1, h2⟩
      have HM := hid hmono
      clear hmono e hc
      generalize zs[k] = y at *
      have hb1 : Below wr.heap.size wr (wr.alloc (.cells #[.bool (decide (y < 0)), .slice s (dlen 10 y.natAbs) c] 59)) := (Below.refl _ _).alloc (Nat.le_refl _) _
      have hD : DNum (wr.alloc (.cells #[.bool (decide (y < 0)), .slice s (dlen 10 y.natAbs) c] 59)) (.agg #[.bool (decide (y < 0)), .slice s (dlen 10 y.natAbs) c]) y := ⟨_, rfl, (c3.below hbr).below hb1⟩
      have HLC := hid (long_fn hD (by omega))
      have hszr := hbr.size
      go_wp2_with fail
      (with_reducible refine HLC.out.mono ?_); rintro e w2 ⟨rfl, hb2⟩
      have hb3 := hbr.trans ((hb1.mono hszr).trans (hb2.mono (Nat.le_trans hszr hb1.size)))
      by_cases hbig : big600 ≤ y.natAbs
      · have HR := hid (HM.out (by rw [HT.out]; exact decide_eq_true hbig))
        rw [decide_eq_true hbig]
        clear hbig
        go_wp2
        go_ret
        exact ⟨by rw [HR.out]; rfl, hb3⟩
      · have HF := hid (show anyBig (zs.take (k + 1)) = false by rw [HT.out]; exact decide_eq_false hbig)
        rw [decide_eq_false hbig]
        clear hbig
        go_wp2
        go_roundw
        case rel => exact ⟨k + 1, by go_num, by omega, HF.out, hb3⟩
        case measure => simp [intOf] <;> omega
    · obtain rfl : k = zs.length := by omega
      have hany := HA.out
      rw [List.take_length] at hany
      have HR := hid hany
      clear hany
      go_wp2
      go_ret
      exact ⟨by rw [HR.out]; rfl, hbr⟩
set_option maxRecDepth 100000 in
set_option maxHeartbeats 4000000 in
theorem addR_fn (a b : List UInt8) (ha : a.length ≤ 2000000) (hb : b.length ≤ 2000000) (w : World) :
    Calls Tryz.prog 160 #[.string ⟨a.toArray⟩, .string ⟨b.toArray⟩] w fun e w' => e = .returned (.tuple #[.string ⟨(addRes a b).1.toArray⟩, .int .i64 (addRes a b).2]) ∧ Below w.heap.size w w' := by
  have hB := hid (both_fn a b ha hb w)
  unfold BothQ at hB
  clear ha hb
  by_cases hok : pOK a = true ∧ pOK b = true
  case neg =>
    have hf : (pOK a && pOK b) = false := by
      cases h1 : pOK a <;> cases h2 : pOK b <;> simp_all
    have HR := hid (show addRes a b = ([], 2) by unfold addRes twoRes; rw [if_neg hok])
    rw [hf] at hB
    have hB := hid hB.out
    clear hok hf
    go_enter Tryz.func160, Tryz.ntmps160
    go_wp2_with fail
    (with_reducible refine hB.out.mono ?_); rintro e w1 ⟨g1, s1, n1, c1, g2, s2, n2, c2, rfl, hb1, -⟩
    have hsz := hb1.size
    go_wp2
    go_ret2
    exact ⟨by rw [HR.out]; rfl, (hb1.alloc hsz _).alloc (by simp; omega) _⟩
  case pos =>
    obtain ⟨oa, ob⟩ := hok
    rw [oa, ob] at hB
    have hB := hid hB.out
    go_enter Tryz.func160, Tryz.ntmps160
    go_wp2_with fail
    (with_reducible refine hB.out.mono ?_); rintro e w1 ⟨g1, s1, n1, c1, g2, s2, n2, c2, rfl, hb, hn⟩
    obtain ⟨⟨x', hx, hlx, hcx⟩, ⟨y', hy, hly, hcy⟩⟩ := hn (by first | rfl | trivial)
    have HTWO := hid (fun z' z => told_two (z' := z') (z := z) oa ob hcx hcy)
    clear hn hB oa ob
    have kX := Blk.new w1 #[.bool g1, .slice s1 n1 c1] 59
    have kY := Blk.new (w1.alloc (.cells #[.bool g1, .slice s1 n1 c1] 59)) #[.bool g2, .slice s2 n2 c2] 59
    simp only [World.size_alloc] at kY
    have kX := kX.alloc (.cells #[.bool g2, .slice s2 n2 c2] 59)
    have gg : Below w1.heap.size w1 ((w1.alloc (.cells #[.bool g1, .slice s1 n1 c1] 59)).alloc (.cells #[.bool g2, .slice s2 n2 c2] 59)) := ((Below.refl _ _).alloc (Nat.le_refl _) _).alloc (by simp) _
    have hx := hx.below gg
    have hy := hy.below gg
    have hb := hb.trans (gg.mono hb.size)
    clear gg
    obtain ⟨⟨p1, p2⟩, q1, q2⟩ := kX.two
    obtain ⟨⟨p3, p4⟩, q3, q4⟩ := kY.two
    go_wp2_with fail
    clear p1 p2 p3 p4 q1 q2 q3 q4
    generalize (w1.alloc (.cells #[.bool g1, .slice s1 n1 c1] 59)).alloc (.cells #[.bool g2, .slice s2 n2 c2] 59) = w0 at *
    generalize w1.heap.size = B1 at *
    have kX := kX.drew
    have kY := kY.drew
    have hx := hx.below ((Below.refl w0.heap.size w0).drew)
    have hy := hy.below ((Below.refl w0.heap.size w0).drew)
    have hb := hb.drew
    refine U_begin (late := fun i => decide (9 ≤ i)) (S := fun u => Blk u B1 #[.bool g1, .slice s1 n1 c1] 59 ∧ Blk u (B1 + 1) #[.bool g2, .slice s2 n2 c2] 59) (by kernel_rfl) ?_
    generalize w0.drew = wd at *
    refine U_take (i := 0) (v := .agg #[.bool g1, .slice s1 n1 c1]) rfl (by kernel_rfl) (by kernel_rfl) (by kernel_rfl) (by kernel_rfl) (by kernel_rfl) (fun _ _ _ h => h) (.inl ⟨rfl, fun u hu => (by obtain ⟨⟨h1, h2⟩, _⟩ := hu.1.two; go_simp)⟩) ⟨kX, kY⟩ ?_
    refine U_take (i := 1) (v := .agg #[.bool g2, .slice s2 n2 c2]) rfl (by kernel_rfl) (by kernel_rfl) (by kernel_rfl) (by kernel_rfl) (by kernel_rfl) (fun _ _ _ h => h) (.inl ⟨rfl, fun u hu => (by obtain ⟨⟨h1, h2⟩, _⟩ := hu.2.two; go_simp)⟩) ⟨kX, kY⟩ ?_
    refine U_take (i := 3) (v := .agg #[.bool g1, .slice s1 n1 c1]) rfl (by kernel_rfl) (by kernel_rfl) (by kernel_rfl) (by kernel_rfl) (by kernel_rfl) (fun _ _ _ h => h) (.inl ⟨rfl, fun u hu => (by obtain ⟨⟨h1, h2⟩, _⟩ := hu.1.two; go_simp)⟩) ⟨kX, kY⟩ ?_
    refine U_take (i := 4) (v := .agg #[.bool g2, .slice s2 n2 c2]) rfl (by kernel_rfl) (by kernel_rfl) (by kernel_rfl) (by kernel_rfl) (by kernel_rfl) (fun _ _ _ h => h) (.inl ⟨rfl, fun u hu => (by obtain ⟨⟨h1, h2⟩, _⟩ := hu.2.two; go_simp)⟩) ⟨kX, kY⟩ ?_
    refine U_two (j1 := 2) (j2 := 5) (by kernel_rfl) rfl rfl (fun K hK => ?_) (fun K hK => ?_)
    · go_simp
      have hc := hid (plusR_fn hx hy (by omega) (by omega))
      (with_reducible refine hc.out.mono ?_); rintro e v1 ⟨q, rfl, hq, gg⟩
      clear hc
      have hq := hq.num
      have hb := hb.trans (gg.mono hb.size)
      have kX := kX.later gg
      have kY := kY.later gg
      have hx := hx.below gg
      have hy := hy.below gg
      obtain ⟨qg, qa, qn, qc, rfl⟩ := hq.shape4
      clear gg
      refine hK.out _ _ (.inr ⟨kX, kY⟩) ?_
      clear hK K
      refine U_step (j := 5) (by kernel_rfl) rfl (fun K hK => ?_)
      go_simp
      have gg : Below v1.heap.size v1 (v1.alloc (.cells #[.bool g1, .slice s1 n1 c1, .bool g2, .slice s2 n2 c2] 59)) := (Below.refl _ _).alloc (Nat.le_refl _) _
      have kN := Blk.new v1 #[.bool g1, .slice s1 n1 c1, .bool g2, .slice s2 n2 c2] 59
      have hb := hb.trans (gg.mono hb.size)
      have kX := kX.later gg
      have kY := kY.later gg
      have hx := hx.below gg
      have hy := hy.below gg
      have hq := hq.below gg
      have hN := Nums.mk2 kN hx hy
      clear gg
      refine hK.out _ _ (.inr ⟨kX, kY⟩) ?_
      clear hK K
      generalize v1.heap.size = B5 at *
      generalize v1.alloc (.cells #[.bool g1, .slice s1 n1 c1, .bool g2, .slice s2 n2 c2] 59) = v2 at *
      clear kN
      refine U_step (j := 6) (by kernel_rfl) rfl (fun K hK => ?_)
      go_simp
      have hc := hid (told_fn hq (by have := dlen_abs_add x' y'; omega) hN (fun x hm => by simp at hm; rcases hm with rfl | rfl <;> omega) (by simp))
      (with_reducible refine hc.out.mono ?_); rintro e v3 ⟨rfl, gg⟩
      clear hc
      have hb := hb.trans (gg.mono hb.size)
      have kX := kX.later gg
      have kY := kY.later gg
      have hx := hx.below gg
      have hy := hy.below gg
      have hq := hq.below gg
      have hN := hN.below gg
      clear gg
      refine hK.out _ _ (.inr ⟨kX, kY⟩) ?_
      clear hK K
      refine U_take (i := 7) (v := .string ⟨(toldRes (x' + y') [x', y']).1.toArray⟩) rfl (by kernel_rfl) (by kernel_rfl) (by kernel_rfl) (by kernel_rfl) (by kernel_rfl) (fun _ _ _ h => h) (.inl ⟨rfl, fun u hu => (by go_simp)⟩) ⟨kX, kY⟩ ?_
      refine U_take (i := 8) (v := .int .i64 (toldRes (x' + y') [x', y']).2) rfl (by kernel_rfl) (by kernel_rfl) (by kernel_rfl) (by kernel_rfl) (by kernel_rfl) (fun _ _ _ h => h) (.inl ⟨rfl, fun u hu => (by go_simp)⟩) ⟨kX, kY⟩ ?_
      refine U_step (j := 9) (by kernel_rfl) rfl (fun K hK => ?_)
      go_simp
      refine hK.out _ _ (.inl rfl) ?_
      clear hK K
      refine U_step (j := 10) (by kernel_rfl) rfl (fun K hK => ?_)
      go_simp
      refine hK.out _ _ (.inl rfl) ?_
      clear hK K
      refine U_done (by kernel_rfl) ?_ _
      have HR := hid (show addRes a b = toldRes (x' + y') [x', y'] from (HTWO.out (x' + y') (pVal a + pVal b) (fun e1 e2 => by rw [e1, e2])).symm)
      clear HTWO
      go_wp2
      go_ret2
      exact ⟨by rw [HR.out]; rfl, hb⟩
    · go_simp
      have gg : Below wd.heap.size wd (wd.alloc (.cells #[.bool g1, .slice s1 n1 c1, .bool g2, .slice s2 n2 c2] 59)) := (Below.refl _ _).alloc (Nat.le_refl _) _
      have kN := Blk.new wd #[.bool g1, .slice s1 n1 c1, .bool g2, .slice s2 n2 c2] 59
      have hb := hb.trans (gg.mono hb.size)
      have kX := kX.later gg
      have kY := kY.later gg
      have hx := hx.below gg
      have hy := hy.below gg
      have hN := Nums.mk2 kN hx hy
      clear gg
      refine hK.out _ _ (.inr ⟨kX, kY⟩) ?_
      clear hK K
      generalize wd.heap.size = B5 at *
      generalize wd.alloc (.cells #[.bool g1, .slice s1 n1 c1, .bool g2, .slice s2 n2 c2] 59) = v1 at *
      clear kN
      refine U_step (j := 2) (by kernel_rfl) rfl (fun K hK => ?_)
      go_simp
      have hc := hid (plusR_fn hx hy (by omega) (by omega))
      (with_reducible refine hc.out.mono ?_); rintro e v2 ⟨q, rfl, hq, gg⟩
      clear hc
      have hq := hq.num
      have hb := hb.trans (gg.mono hb.size)
      have kX := kX.later gg
      have kY := kY.later gg
      have hx := hx.below gg
      have hy := hy.below gg
      have hN := hN.below gg
      obtain ⟨qg, qa, qn, qc, rfl⟩ := hq.shape4
      clear gg
      refine hK.out _ _ (.inr ⟨kX, kY⟩) ?_
      clear hK K
      refine U_step (j := 6) (by kernel_rfl) rfl (fun K hK => ?_)
      go_simp
      have hc := hid (told_fn hq (by have := dlen_abs_add x' y'; omega) hN (fun x hm => by simp at hm; rcases hm with rfl | rfl <;> omega) (by simp))
      (with_reducible refine hc.out.mono ?_); rintro e v3 ⟨rfl, gg⟩
      clear hc
      have hb := hb.trans (gg.mono hb.size)
      have kX := kX.later gg
      have kY := kY.later gg
      have hx := hx.below gg
      have hy := hy.below gg
      have hN := hN.below gg
      have hq := hq.below gg
      clear gg
      refine hK.out _ _ (.inr ⟨kX, kY⟩) ?_
      clear hK K
      refine U_take (i := 7) (v := .string ⟨(toldRes (x' + y') [x', y']).1.toArray⟩) rfl (by kernel_rfl) (by kernel_rfl) (by kernel_rfl) (by kernel_rfl) (by kernel_rfl) (fun _ _ _ h => h) (.inl ⟨rfl, fun u hu => (by go_simp)⟩) ⟨kX, kY⟩ ?_
      refine U_take (i := 8) (v := .int .i64 (toldRes (x' + y') [x', y']).2) rfl (by kernel_rfl) (by kernel_rfl) (by kernel_rfl) (by kernel_rfl) (by kernel_rfl) (fun _ _ _ h => h) (.inl ⟨rfl, fun u hu => (by go_simp)⟩) ⟨kX, kY⟩ ?_
      refine U_step (j := 9) (by kernel_rfl) rfl (fun K hK => ?_)
      go_simp
      refine hK.out _ _ (.inl rfl) ?_
      clear hK K
      refine U_step (j := 10) (by kernel_rfl) rfl (fun K hK => ?_)
      go_simp
      refine hK.out _ _ (.inl rfl) ?_
      clear hK K
      refine U_done (by kernel_rfl) ?_ _
      have HR := hid (show addRes a b = toldRes (x' + y') [x', y'] from (HTWO.out (x' + y') (pVal a + pVal b) (fun e1 e2 => by rw [e1, e2])).symm)
      clear HTWO
      go_wp2
      go_ret2
      exact ⟨by rw [HR.out]; rfl, hb⟩
set_option maxRecDepth 100000 in
set_option maxHeartbeats 4000000 in
theorem subR_fn (a b : List UInt8) (ha : a.length ≤ 2000000) (hb : b.length ≤ 2000000) (w : World) :
    Calls Tryz.prog 17 #[.string ⟨a.toArray⟩, .string ⟨b.toArray⟩] w fun e w' => e = .returned (.tuple #[.string ⟨(subRes a b).1.toArray⟩, .int .i64 (subRes a b).2]) ∧ Below w.heap.size w w' := by
  have hB := hid (both_fn a b ha hb w)
  unfold BothQ at hB
  clear ha hb
  by_cases hok : pOK a = true ∧ pOK b = true
  case neg =>
    have hf : (pOK a && pOK b) = false := by
      cases h1 : pOK a <;> cases h2 : pOK b <;> simp_all
    have HR := hid (show subRes a b = ([], 2) by unfold subRes twoRes; rw [if_neg hok])
    rw [hf] at hB
    have hB := hid hB.out
    clear hok hf
    go_enter Tryz.func17, Tryz.ntmps17
    go_wp2_with fail
    (with_reducible refine hB.out.mono ?_); rintro e w1 ⟨g1, s1, n1, c1, g2, s2, n2, c2, rfl, hb1, -⟩
    have hsz := hb1.size
    go_wp2
    go_ret2
    exact ⟨by rw [HR.out]; rfl, (hb1.alloc hsz _).alloc (by simp; omega) _⟩
  case pos =>
    obtain ⟨oa, ob⟩ := hok
    rw [oa, ob] at hB
    have hB := hid hB.out
    go_enter Tryz.func17, Tryz.ntmps17
    go_wp2_with fail
    (with_reducible refine hB.out.mono ?_); rintro e w1 ⟨g1, s1, n1, c1, g2, s2, n2, c2, rfl, hb, hn⟩
    obtain ⟨⟨x', hx, hlx, hcx⟩, ⟨y', hy, hly, hcy⟩⟩ := hn (by first | rfl | trivial)
    have HTWO := hid (fun z' z => told_two (z' := z') (z := z) oa ob hcx hcy)
    clear hn hB oa ob
    have kX := Blk.new w1 #[.bool g1, .slice s1 n1 c1] 59
    have kY := Blk.new (w1.alloc (.cells #[.bool g1, .slice s1 n1 c1] 59)) #[.bool g2, .slice s2 n2 c2] 59
    simp only [World.size_alloc] at kY
    have kX := kX.alloc (.cells #[.bool g2, .slice s2 n2 c2] 59)
    have gg : Below w1.heap.size w1 ((w1.alloc (.cells #[.bool g1, .slice s1 n1 c1] 59)).alloc (.cells #[.bool g2, .slice s2 n2 c2] 59)) := ((Below.refl _ _).alloc (Nat.le_refl _) _).alloc (by simp) _
    have hx := hx.below gg
    have hy := hy.below gg
    have hb := hb.trans (gg.mono hb.size)
    clear gg
    obtain ⟨⟨p1, p2⟩, q1, q2⟩ := kX.two
    obtain ⟨⟨p3, p4⟩, q3, q4⟩ := kY.two
    go_wp2_with fail
    clear p1 p2 p3 p4 q1 q2 q3 q4
    generalize (w1.alloc (.cells #[.bool g1, .slice s1 n1 c1] 59)).alloc (.cells #[.bool g2, .slice s2 n2 c2] 59) = w0 at *
    generalize w1.heap.size = B1 at *
    have kX := kX.drew
    have kY := kY.drew
    have hx := hx.below ((Below.refl w0.heap.size w0).drew)
    have hy := hy.below ((Below.refl w0.heap.size w0).drew)
    have hb := hb.drew
    refine U_begin (late := fun i => decide (10 ≤ i)) (S := fun u => Blk u B1 #[.bool g1, .slice s1 n1 c1] 59 ∧ Blk u (B1 + 1) #[.bool g2, .slice s2 n2 c2] 59) (by kernel_rfl) ?_
    generalize w0.drew = wd at *
    refine U_take (i := 0) (v := .agg #[.bool g1, .slice s1 n1 c1]) rfl (by kernel_rfl) (by kernel_rfl) (by kernel_rfl) (by kernel_rfl) (by kernel_rfl) (fun _ _ _ h => h) (.inl ⟨rfl, fun u hu => (by obtain ⟨⟨h1, h2⟩, _⟩ := hu.1.two; go_simp)⟩) ⟨kX, kY⟩ ?_
    refine U_take (i := 1) (v := .agg #[.bool g2, .slice s2 n2 c2]) rfl (by kernel_rfl) (by kernel_rfl) (by kernel_rfl) (by kernel_rfl) (by kernel_rfl) (fun _ _ _ h => h) (.inl ⟨rfl, fun u hu => (by obtain ⟨⟨h1, h2⟩, _⟩ := hu.2.two; go_simp)⟩) ⟨kX, kY⟩ ?_
    refine U_take (i := 4) (v := .agg #[.bool g1, .slice s1 n1 c1]) rfl (by kernel_rfl) (by kernel_rfl) (by kernel_rfl) (by kernel_rfl) (by kernel_rfl) (fun _ _ _ h => h) (.inl ⟨rfl, fun u hu => (by obtain ⟨⟨h1, h2⟩, _⟩ := hu.1.two; go_simp)⟩) ⟨kX, kY⟩ ?_
    refine U_take (i := 5) (v := .agg #[.bool g2, .slice s2 n2 c2]) rfl (by kernel_rfl) (by kernel_rfl) (by kernel_rfl) (by kernel_rfl) (by kernel_rfl) (fun _ _ _ h => h) (.inl ⟨rfl, fun u hu => (by obtain ⟨⟨h1, h2⟩, _⟩ := hu.2.two; go_simp)⟩) ⟨kX, kY⟩ ?_
    refine U_two (j1 := 2) (j2 := 6) (by kernel_rfl) rfl rfl (fun K hK => ?_) (fun K hK => ?_)
    · go_simp
      have hc := hid (oppR_fn hy (by omega))
      (with_reducible refine hc.out.mono ?_); rintro e v1 ⟨r, rfl, hr, gg⟩
      clear hc
      have hb := hb.trans (gg.mono hb.size)
      have kX := kX.later gg
      have kY := kY.later gg
      have hx := hx.below gg
      have hy := hy.below gg
      obtain ⟨rg, ra, rn, rc, rfl⟩ := hr.shape4
      clear gg
      refine hK.out _ _ (.inr ⟨kX, kY⟩) ?_
      clear hK K
      refine U_two (j1 := 3) (j2 := 6) (by kernel_rfl) rfl rfl (fun K hK => ?_) (fun K hK => ?_)
      · go_simp
        have hc := hid (plusR_fn hx hr (by omega) (by rw [Int.natAbs_neg]; omega))
        (with_reducible refine hc.out.mono ?_); rintro e v2 ⟨q, rfl, hq, gg⟩
        clear hc
        have hq := hq.num
        have hb := hb.trans (gg.mono hb.size)
        have kX := kX.later gg
        have kY := kY.later gg
        have hx := hx.below gg
        have hy := hy.below gg
        have hr := hr.below gg
        obtain ⟨qg, qa, qn, qc, rfl⟩ := hq.shape4
        clear gg
        refine hK.out _ _ (.inr ⟨kX, kY⟩) ?_
        clear hK K
        refine U_step (j := 6) (by kernel_rfl) rfl (fun K hK => ?_)
        go_simp
        have gg : Below v2.heap.size v2 (v2.alloc (.cells #[.bool g1, .slice s1 n1 c1, .bool g2, .slice s2 n2 c2] 59)) := (Below.refl _ _).alloc (Nat.le_refl _) _
        have kN := Blk.new v2 #[.bool g1, .slice s1 n1 c1, .bool g2, .slice s2 n2 c2] 59
        have hb := hb.trans (gg.mono hb.size)
        have kX := kX.later gg
        have kY := kY.later gg
        have hx := hx.below gg
        have hy := hy.below gg
        have hr := hr.below gg
        have hq := hq.below gg
        have hN := Nums.mk2 kN hx hy
        clear gg
        refine hK.out _ _ (.inr ⟨kX, kY⟩) ?_
        clear hK K
        generalize v2.heap.size = B5 at *
        generalize v2.alloc (.cells #[.bool g1, .slice s1 n1 c1, .bool g2, .slice s2 n2 c2] 59) = v3 at *
        clear kN
        refine U_step (j := 7) (by kernel_rfl) rfl (fun K hK => ?_)
        go_simp
        have hc := hid (told_fn hq (by have := dlen_abs_add x' (-y'); rw [Int.natAbs_neg] at this; omega) hN (fun x hm => by simp at hm; rcases hm with rfl | rfl <;> omega) (by simp))
        (with_reducible refine hc.out.mono ?_); rintro e v4 ⟨rfl, gg⟩
        clear hc
        have hb := hb.trans (gg.mono hb.size)
        have kX := kX.later gg
        have kY := kY.later gg
        have hx := hx.below gg
        have hy := hy.below gg
        have hr := hr.below gg
        have hq := hq.below gg
        have hN := hN.below gg
        clear gg
        refine hK.out _ _ (.inr ⟨kX, kY⟩) ?_
        clear hK K
        refine U_take (i := 8) (v := .string ⟨(toldRes (x' + -y') [x', y']).1.toArray⟩) rfl (by kernel_rfl) (by kernel_rfl) (by kernel_rfl) (by kernel_rfl) (by kernel_rfl) (fun _ _ _ h => h) (.inl ⟨rfl, fun u hu => (by go_simp)⟩) ⟨kX, kY⟩ ?_
        refine U_take (i := 9) (v := .int .i64 (toldRes (x' + -y') [x', y']).2) rfl (by kernel_rfl) (by kernel_rfl) (by kernel_rfl) (by kernel_rfl) (by kernel_rfl) (fun _ _ _ h => h) (.inl ⟨rfl, fun u hu => (by go_simp)⟩) ⟨kX, kY⟩ ?_
        refine U_step (j := 10) (by kernel_rfl) rfl (fun K hK => ?_)
        go_simp
        refine hK.out _ _ (.inl rfl) ?_
        clear hK K
        refine U_step (j := 11) (by kernel_rfl) rfl (fun K hK => ?_)
        go_simp
        refine hK.out _ _ (.inl rfl) ?_
        clear hK K
        refine U_done (by kernel_rfl) ?_ _
        have HR := hid (show subRes a b = toldRes (x' + -y') [x', y'] from (HTWO.out (x' + -y') (pVal a - pVal b) (fun e1 e2 => by rw [e1, e2]; omega)).symm)
        clear HTWO
        go_wp2
        go_ret2
        exact ⟨by rw [HR.out]; rfl, hb⟩
      · go_simp
        have gg : Below v1.heap.size v1 (v1.alloc (.cells #[.bool g1, .slice s1 n1 c1, .bool g2, .slice s2 n2 c2] 59)) := (Below.refl _ _).alloc (Nat.le_refl _) _
        have kN := Blk.new v1 #[.bool g1, .slice s1 n1 c1, .bool g2, .slice s2 n2 c2] 59
        have hb := hb.trans (gg.mono hb.size)
        have kX := kX.later gg
        have kY := kY.later gg
        have hx := hx.below gg
        have hy := hy.below gg
        have hr := hr.below gg
        have hN := Nums.mk2 kN hx hy
        clear gg
        refine hK.out _ _ (.inr ⟨kX, kY⟩) ?_
        clear hK K
        generalize v1.heap.size = B5 at *
        generalize v1.alloc (.cells #[.bool g1, .slice s1 n1 c1, .bool g2, .slice s2 n2 c2] 59) = v2 at *
        clear kN
        refine U_step (j := 3) (by kernel_rfl) rfl (fun K hK => ?_)
        go_simp
        have hc := hid (plusR_fn hx hr (by omega) (by rw [Int.natAbs_neg]; omega))
        (with_reducible refine hc.out.mono ?_); rintro e v3 ⟨q, rfl, hq, gg⟩
        clear hc
        have hq := hq.num
        have hb := hb.trans (gg.mono hb.size)
        have kX := kX.later gg
        have kY := kY.later gg
        have hx := hx.below gg
        have hy := hy.below gg
        have hr := hr.below gg
        have hN := hN.below gg
        obtain ⟨qg, qa, qn, qc, rfl⟩ := hq.shape4
        clear gg
        refine hK.out _ _ (.inr ⟨kX, kY⟩) ?_
        clear hK K
        refine U_step (j := 7) (by kernel_rfl) rfl (fun K hK => ?_)
        go_simp
        have hc := hid (told_fn hq (by have := dlen_abs_add x' (-y'); rw [Int.natAbs_neg] at this; omega) hN (fun x hm => by simp at hm; rcases hm with rfl | rfl <;> omega) (by simp))
        (with_reducible refine hc.out.mono ?_); rintro e v4 ⟨rfl, gg⟩
        clear hc
        have hb := hb.trans (gg.mono hb.size)
        have kX := kX.later gg
        have kY := kY.later gg
        have hx := hx.below gg
        have hy := hy.below gg
        have hr := hr.below gg
        have hN := hN.below gg
        have hq := hq.below gg
        clear gg
        refine hK.out _ _ (.inr ⟨kX, kY⟩) ?_
        clear hK K
        refine U_take (i := 8) (v := .string ⟨(toldRes (x' + -y') [x', y']).1.toArray⟩) rfl (by kernel_rfl) (by kernel_rfl) (by kernel_rfl) (by kernel_rfl) (by kernel_rfl) (fun _ _ _ h => h) (.inl ⟨rfl, fun u hu => (by go_simp)⟩) ⟨kX, kY⟩ ?_
        refine U_take (i := 9) (v := .int .i64 (toldRes (x' + -y') [x', y']).2) rfl (by kernel_rfl) (by kernel_rfl) (by kernel_rfl) (by kernel_rfl) (by kernel_rfl) (fun _ _ _ h => h) (.inl ⟨rfl, fun u hu => (by go_simp)⟩) ⟨kX, kY⟩ ?_
        refine U_step (j := 10) (by kernel_rfl) rfl (fun K hK => ?_)
        go_simp
        refine hK.out _ _ (.inl rfl) ?_
        clear hK K
        refine U_step (j := 11) (by kernel_rfl) rfl (fun K hK => ?_)
        go_simp
        refine hK.out _ _ (.inl rfl) ?_
        clear hK K
        refine U_done (by kernel_rfl) ?_ _
        have HR := hid (show subRes a b = toldRes (x' + -y') [x', y'] from (HTWO.out (x' + -y') (pVal a - pVal b) (fun e1 e2 => by rw [e1, e2]; omega)).symm)
        clear HTWO
        go_wp2
        go_ret2
        exact ⟨by rw [HR.out]; rfl, hb⟩
    · go_simp
      have gg : Below wd.heap.size wd (wd.alloc (.cells #[.bool g1, .slice s1 n1 c1, .bool g2, .slice s2 n2 c2] 59)) := (Below.refl _ _).alloc (Nat.le_refl _) _
      have kN := Blk.new wd #[.bool g1, .slice s1 n1 c1, .bool g2, .slice s2 n2 c2] 59
      have hb := hb.trans (gg.mono hb.size)
      have kX := kX.later gg
      have kY := kY.later gg
      have hx := hx.below gg
      have hy := hy.below gg
      have hN := Nums.mk2 kN hx hy
      clear gg
      refine hK.out _ _ (.inr ⟨kX, kY⟩) ?_
      clear hK K
      generalize wd.heap.size = B5 at *
      generalize wd.alloc (.cells #[.bool g1, .slice s1 n1 c1, .bool g2, .slice s2 n2 c2] 59) = v1 at *
      clear kN
      refine U_step (j := 2) (by kernel_rfl) rfl (fun K hK => ?_)
      go_simp
      have hc := hid (oppR_fn hy (by omega))
      (with_reducible refine hc.out.mono ?_); rintro e v2 ⟨r, rfl, hr, gg⟩
      clear hc
      have hb := hb.trans (gg.mono hb.size)
      have kX := kX.later gg
      have kY := kY.later gg
      have hx := hx.below gg
      have hy := hy.below gg
      have hN := hN.below gg
      obtain ⟨rg, ra, rn, rc, rfl⟩ := hr.shape4
      clear gg
      refine hK.out _ _ (.inr ⟨kX, kY⟩) ?_
      clear hK K
      refine U_step (j := 3) (by kernel_rfl) rfl (fun K hK => ?_)
      go_simp
      have hc := hid (plusR_fn hx hr (by omega) (by rw [Int.natAbs_neg]; omega))
      (with_reducible refine hc.out.mono ?_); rintro e v3 ⟨q, rfl, hq, gg⟩
      clear hc
      have hq := hq.num
      have hb := hb.trans (gg.mono hb.size)
      have kX := kX.later gg
      have kY := kY.later gg
      have hx := hx.below gg
      have hy := hy.below gg
      have hN := hN.below gg
      have hr := hr.below gg
      obtain ⟨qg, qa, qn, qc, rfl⟩ := hq.shape4
      clear gg
      refine hK.out _ _ (.inr ⟨kX, kY⟩) ?_
      clear hK K
      refine U_step (j := 7) (by kernel_rfl) rfl (fun K hK => ?_)
      go_simp
      have hc := hid (told_fn hq (by have := dlen_abs_add x' (-y'); rw [Int.natAbs_neg] at this; omega) hN (fun x hm => by simp at hm; rcases hm with rfl | rfl <;> omega) (by simp))
      (with_reducible refine hc.out.mono ?_); rintro e v4 ⟨rfl, gg⟩
      clear hc
      have hb := hb.trans (gg.mono hb.size)
      have kX := kX.later gg
      have kY := kY.later gg
      have hx := hx.below gg
      have hy := hy.below gg
      have hN := hN.below gg
      have hr := hr.below gg
      have hq := hq.below gg
      clear gg
      refine hK.out _ _ (.inr ⟨kX, kY⟩) ?_
      clear hK K
      refine U_take (i := 8) (v := .string ⟨(toldRes (x' + -y') [x', y']).1.toArray⟩) rfl (by kernel_rfl) (by kernel_rfl) (by kernel_rfl) (by kernel_rfl) (by kernel_rfl) (fun _ _ _ h => h) (.inl ⟨rfl, fun u hu => (by go_simp)⟩) ⟨kX, kY⟩ ?_
      refine U_take (i := 9) (v := .int .i64 (toldRes (x' + -y') [x', y']).2) rfl (by kernel_rfl) (by kernel_rfl) (by kernel_rfl) (by kernel_rfl) (by kernel_rfl) (fun _ _ _ h => h) (.inl ⟨rfl, fun u hu => (by go_simp)⟩) ⟨kX, kY⟩ ?_
      refine U_step (j := 10) (by kernel_rfl) rfl (fun K hK => ?_)
      go_simp
      refine hK.out _ _ (.inl rfl) ?_
      clear hK K
      refine U_step (j := 11) (by kernel_rfl) rfl (fun K hK => ?_)
      go_simp
      refine hK.out _ _ (.inl rfl) ?_
      clear hK K
      refine U_done (by kernel_rfl) ?_ _
      have HR := hid (show subRes a b = toldRes (x' + -y') [x', y'] from (HTWO.out (x' + -y') (pVal a - pVal b) (fun e1 e2 => by rw [e1, e2]; omega)).symm)
      clear HTWO
      go_wp2
      go_ret2
      exact ⟨by rw [HR.out]; rfl, hb⟩
end Go.Proofs.YtihdndaibmgoiaaGreatDoor
