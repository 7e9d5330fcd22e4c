/-
  Part K9 of the proofs of this seat: contracts of functions and plain facts, merged from 2 texts.
-/
import Derived.Test.YtkhgoeippamobaaGreatDoorK1
import Derived.Test.YtkhgoeippamobaaGreatDoorK2
import Derived.Test.YtkhgoeippamobaaGreatDoorK3
import Derived.Test.YtkhgoeippamobaaGreatDoorK4
import Derived.Test.YtkhgoeippamobaaGreatDoorK5
import Derived.Test.YtkhgoeippamobaaGreatDoorK6
import Derived.Test.YtkhgoeippamobaaGreatDoorK7a
import Derived.Test.YtkhgoeippamobaaGreatDoorK8
/-
  The reference: Shift.
-/
namespace Go.Proofs.YtkhgoeippamobaaGreatDoor
open Go.RowKit
theorem farN_far {n : Int} (h : n < -100000 ∨ 100000 < n) : farN n = 7 := by unfold farN; rw [if_pos h]
theorem farN_near {n : Int} (h : ¬ (n < -100000 ∨ 100000 < n)) : farN n = 0 := by unfold farN; rw [if_neg h]
theorem shiftRes_far {a : List UInt8} {n : Int} (ok : pOK a = true) (h : n < -100000 ∨ 100000 < n) : shiftRes a n = ([], 7) := by
  unfold shiftRes oneRes
  rw [if_pos ok, farN_far h, if_pos (by decide)]
theorem shiftRes_near {a : List UInt8} {n : Int} (ok : pOK a = true) (h : ¬ (n < -100000 ∨ 100000 < n)) : shiftRes a n = if big600 ≤ (pVal a).natAbs then ([], 4) else resOf (shI (pVal a) n) := by
  unfold shiftRes oneRes
  rw [if_pos ok, farN_near h, if_neg (by decide)]
theorem shI_far (x : Int) (k : Nat) (hx : x ≠ 0) (hk : 2010 ≤ k) : resOf (shI x k) = ([], 4) := by
  refine resOf_big _ ?_
  rw [(shI_pos_abs x k).1]
  have h1 : big600 ≤ 2 ^ k := two_big k hk
  exact Nat.le_trans h1 (Nat.le_mul_of_pos_left _ (by omega))
/-- far down there is the sign alone -/
theorem shI_deep (x : Int) (k j : Nat) (hx : x.natAbs < big600) (hk : 2010 ≤ k) (hj : 2010 ≤ j) : x.fdiv ((2 ^ k : Nat) : Int) = x.fdiv ((2 ^ j : Nat) : Int) := by
  have key : ∀ i : Nat, 2010 ≤ i → x.fdiv ((2 ^ i : Nat) : Int) = if x < 0 then -1 else 0 := by
    intro i hi
    have h1 : big600 ≤ 2 ^ i := two_big i hi
    rw [Int.fdiv_eq_ediv_of_nonneg _ (Int.natCast_nonneg _)]
    generalize 2 ^ i = p at *
    by_cases hz : x < 0
    · rw [if_pos hz]
      have a1 : x / (p : Int) < 0 := Int.ediv_neg_of_neg_of_pos hz (by omega)
      have a2 : -1 ≤ x / (p : Int) := (Int.le_ediv_iff_mul_le (by omega)).2 (by omega)
      omega
    · rw [if_neg hz]
      exact Int.ediv_eq_zero_of_lt (by omega) (by omega)
  rw [key k hk, key j hj]
set_option maxRecDepth 100000 in
set_option maxHeartbeats 16000000 in
theorem shiftR_fn (a : List UInt8) (ha : a.length ≤ 2000000) (n : Int) (hn1 : -9223372036854775808 ≤ n) (hn2 : n ≤ 9223372036854775807) (w : World) :
    Calls Tryz.prog 39 #[.string ⟨a.toArray⟩, .int .i64 n] w fun e w' => e = .returned (.tuple #[.string ⟨(shiftRes a n).1.toArray⟩, .int .i64 (shiftRes a n).2]) ∧ Below w.heap.size w w' := by
  have hB := hid (oneR_fn a ha w)
  unfold OneQ at hB
  clear ha
  cases hok : pOK a with
  | false =>
    have HR := hid (show shiftRes a n = ([], 2) by unfold shiftRes oneRes; rw [if_neg (by rw [hok]; decide)])
    rw [hok] at hB
    have hB := hid hB.out
    clear hok
    go_enter Tryz.func39, Tryz.ntmps39
    go_wp2_with fail
    (with_reducible refine hB.out.mono ?_); rintro e w1 ⟨g1, s1, n1, c1, rfl, hb1, -⟩
    have hsz := hb1.size
    go_wp2
    go_ret2
    exact ⟨by rw [HR.out]; rfl, hb1.alloc hsz _⟩
  | true =>
    by_cases hfar : n < -100000 ∨ 100000 < n
    · have HR := hid (shiftRes_far hok hfar)
      rw [hok] at hB
      have hB := hid hB.out
      clear hok
      go_enter Tryz.func39, Tryz.ntmps39
      go_wp2_with fail
      (with_reducible refine hB.out.mono ?_); rintro e w1 ⟨g1, s1, n1, c1, rfl, hb, hn⟩
      obtain ⟨x', hx, hlx, hcx⟩ := hn (by first | rfl | trivial)
      have HCX := hid hcx
      clear hn hB hcx
      have kX := Blk.new w1 #[.bool g1, .slice s1 n1 c1] 56
      have gg : Below w1.heap.size w1 (w1.alloc (.cells #[.bool g1, .slice s1 n1 c1] 56)) := (Below.refl _ _).alloc (Nat.le_refl _) _
      replace hx := hx.below gg
      have hbw1 := hb.size
      replace hb := hb.trans (gg.mono hb.size)
      clear gg
      obtain ⟨⟨p1, p2⟩, q1, q2⟩ := kX.two
      by_cases h1 : n < -100000
      · clear hfar
        go_wp2
        go_ret2
        exact ⟨by rw [HR.out]; rfl, hb⟩
      · have h2 : 100000 < n := by omega
        clear hfar
        go_wp2
        go_ret2
        exact ⟨by rw [HR.out]; rfl, hb⟩
    · have HR := hid (shiftRes_near hok hfar)
      have h1 : ¬ n < -100000 := by omega
      have h2 : ¬ 100000 < n := by omega
      clear hfar
      rw [hok] at hB
      have hB := hid hB.out
      clear hok
      go_enter Tryz.func39, Tryz.ntmps39
      go_wp2_with fail
      (with_reducible refine hB.out.mono ?_); rintro e w1 ⟨g1, s1, n1, c1, rfl, hb, hn⟩
      obtain ⟨x', hx, hlx, hcx⟩ := hn (by first | rfl | trivial)
      have HCX := hid hcx
      clear hn hB hcx
      have kX := Blk.new w1 #[.bool g1, .slice s1 n1 c1] 56
      have gg : Below w1.heap.size w1 (w1.alloc (.cells #[.bool g1, .slice s1 n1 c1] 56)) := (Below.refl _ _).alloc (Nat.le_refl _) _
      replace hx := hx.below gg
      have hbw1 := hb.size
      replace hb := hb.trans (gg.mono hb.size)
      clear gg
      obtain ⟨⟨p1, p2⟩, q1, q2⟩ := kX.two
      obtain ⟨s1', c1', hxe, hxrep⟩ := hx.shape
      simp only [Value.agg.injEq, Array.mk.injEq, List.cons.injEq, Value.bool.injEq, Value.slice.injEq, and_true] at hxe
      obtain ⟨rfl, rfl, rfl, rfl⟩ := hxe
      have hsz1 := hbw1
      have HL := hid (long_fn hx (by omega))
      have HLB := hid (Cut.big HCX.out)
      rw [HLB.out] at HL
      go_wp2_with fail
      (with_reducible refine HL.out.mono ?_); rintro e w2 ⟨rfl, gg⟩
      replace hx := hx.below gg
      replace hb := hb.trans (gg.mono hb.size)
      replace kX := kX.later gg
      have HB1 := hid (show w.heap.size ≤ w1.heap.size from hsz1)
      generalize w1.heap.size = B1 at *
      clear gg p1 p2 q1 q2 HL
      by_cases hbig : big600 ≤ (pVal a).natAbs
      · have HR3 := hid (show shiftRes a n = ([], 4) by rw [HR.out, if_pos hbig])
        rw [decide_eq_true hbig]
        clear hbig
        go_wp2
        go_ret2
        exact ⟨by rw [HR3.out]; rfl, hb⟩
      · have ex : x' = pVal a := HCX.out.small (by omega)
        have HXS := hid (show x'.natAbs < big600 by rw [ex]; omega)
        have HR3 := hid (show shiftRes a n = resOf (shI x' n) by rw [HR.out, if_neg hbig, ex])
        have hlen0 := dlen_zero_iff 10 x'.natAbs (by decide)
        have hd6 := (digits_600 x'.natAbs).2 (by have := HXS.out; omega)
        rw [decide_eq_false hbig]
        clear hbig HR HCX HLB ex
        obtain ⟨⟨p1, p2⟩, q1, q2⟩ := kX.two
        by_cases hx0 : x' = 0
        · have HR4 := hid (show shiftRes a n = ([48], 0) by rw [HR3.out, hx0, shI_zero, resOf_zero])
          have hl0 : dlen 10 x'.natAbs = 0 := hlen0.2 (by omega)
          clear hlen0
          go_wp2
          go_ret2
          exact ⟨by rw [HR4.out]; rfl, hb⟩
        · have hl0 : ¬ ((dlen 10 x'.natAbs : Nat) : Int) = 0 := by omega
          by_cases h4 : 4000 < n
          · have HR4 := hid (show shiftRes a n = ([], 4) by
              rw [HR3.out]
              obtain ⟨k, rfl⟩ := Int.eq_ofNat_of_zero_le (show 0 ≤ n by omega)
              exact shI_far x' k hx0 (by omega))
            clear hlen0
            go_wp2
            go_ret2
            exact ⟨by rw [HR4.out]; rfl, hb⟩
          · by_cases h0 : 0 ≤ n
            · obtain ⟨k, rfl⟩ := Int.eq_ofNat_of_zero_le h0
              have HR4 := hid (show shiftRes a (k : Int) = resOf (x' * ((2 ^ k : Nat) : Int)) by rw [HR3.out, shI_pos])
              have hk : k ≤ 10000 := by omega
              clear hlen0 HR3 hx0
              generalize hL : dlen 10 x'.natAbs = L at *
              have HLe := hid hL
              clear hL
              generalize decide (x' < 0) = sg at *
              go_wp2_with fail
              clear p1 p2 q1 q2 hl0
              replace kX := kX.drew
              replace hx := hx.below ((Below.refl w2.heap.size w2).drew)
              replace hb := hb.drew
              refine U_begin (late := fun i => decide (7 ≤ i)) (S := fun u => Blk u B1 #[.bool sg, .slice s1 L c1] 56) (by kernel_rfl) ?_
              generalize w2.drew = wd at *
              refine U_take2 5 (i := 0) (v := .agg #[.bool sg, .slice s1 L c1]) rfl (by kernel_rfl) (by kernel_rfl) (by kernel_rfl) (by kernel_rfl) (by kernel_rfl) (fun _ _ _ h => h) (.inl ⟨rfl, fun u hu => (by obtain ⟨⟨h1, h2⟩, _⟩ := hu.two; go_simp)⟩) kX ?_
              refine U_take2 5 (i := 1) (v := .int .i64 k) rfl (by kernel_rfl) (by kernel_rfl) (by kernel_rfl) (by kernel_rfl) (by kernel_rfl) (fun _ _ _ h => h) (.inl ⟨rfl, fun u hu => (by go_simp)⟩) kX ?_
              refine U_step (j := 2) (by kernel_rfl) rfl (fun K hK => ?_)
              go_simp
              have hc := fun w => hid (two_fn' k hk w)
              (with_reducible refine (hc _).out.mono ?_); rintro e w3 ⟨z, rfl, hz, gg⟩
              clear hc
              replace hx := hx.below gg
              replace hb := hb.trans (gg.mono hb.size)
              replace kX := kX.later gg
              obtain ⟨zg, za, zn, zc, rfl⟩ := hz.num.shape4
              refine hK.out _ _ (.inr kX) ?_
              clear hK K gg
              refine U_step (j := 3) (by kernel_rfl) rfl (fun K hK => ?_)
              go_simp
              have hdt := dlen_two k
              have hc := hid (timesR_fn hx hz.num (by rw [HLe.out]; omega) (by rw [Int.natAbs_natCast]; omega))
              (with_reducible refine hc.out.mono ?_); rintro e w4 ⟨q, rfl, hq, gg⟩
              clear hc
              replace hb := hb.trans (gg.mono hb.size)
              replace kX := kX.later gg
              obtain ⟨qg, qa, qn, qc, rfl⟩ := hq.num.shape4
              refine hK.out _ _ (.inr kX) ?_
              clear hK K gg
              refine U_step (j := 4) (by kernel_rfl) rfl (fun K hK => ?_)
              go_simp
              have hdm : dlen 10 (x' * ((2 ^ k : Nat) : Int)).natAbs ≤ 20000 := by rw [Int.natAbs_mul, Int.natAbs_natCast]; have := dlen_mul_le x'.natAbs (2 ^ k); rw [HLe.out] at this; omega
              have hc := hid (told_fn hq.num (by omega) (Nums.nil _) (fun x h => by cases h) (by decide))
              rw [toldRes_nil] at hc
              (with_reducible refine hc.out.mono ?_); rintro e w5 ⟨rfl, gg⟩
              clear hc
              replace hb := hb.trans (gg.mono hb.size)
              replace kX := kX.later gg
              refine hK.out _ _ (.inr kX) ?_
              clear hK K gg
              refine U_take (i := 5) (v := .string ⟨(resOf (x' * ((2 ^ k : Nat) : Int))).1.toArray⟩) rfl (by kernel_rfl) (by kernel_rfl) (by kernel_rfl) (by kernel_rfl) (by kernel_rfl) (fun _ _ _ h => h) (.inl ⟨rfl, fun u hu => (by go_simp)⟩) kX ?_
              refine U_take (i := 6) (v := .int .i64 (resOf (x' * ((2 ^ k : Nat) : Int))).2) rfl (by kernel_rfl) (by kernel_rfl) (by kernel_rfl) (by kernel_rfl) (by kernel_rfl) (fun _ _ _ h => h) (.inl ⟨rfl, fun u hu => (by go_simp)⟩) kX ?_
              refine U_step (j := 7) (by kernel_rfl) rfl (fun K hK => ?_)
              go_simp
              refine hK.out _ _ (.inl rfl) ?_
              clear hK K
              refine U_step (j := 8) (by kernel_rfl) rfl (fun K hK => ?_)
              go_simp
              refine hK.out _ _ (.inl rfl) ?_
              clear hK K
              refine U_done (by kernel_rfl) ?_ _
              go_wp2
              go_ret2
              exact ⟨by rw [HR4.out]; rfl, hb⟩
            · obtain ⟨k, hk⟩ := Int.eq_ofNat_of_zero_le (show 0 ≤ -n by omega)
              obtain ⟨m, hm, hme⟩ : ∃ m : Nat, min (-n) 4000 = (m : Int) ∧ m ≤ 4000 := ⟨(min (-n) 4000).toNat, by omega, by omega⟩
              have HR4 := hid (show shiftRes a n = resOf (x'.fdiv ((2 ^ m : Nat) : Int)) by
                rw [HR3.out]
                obtain rfl : n = -(k : Int) := by omega
                rw [shI_down x' k (by omega)]
                by_cases hk4 : k ≤ 4000
                · obtain rfl : k = m := by omega
                  rfl
                · rw [shI_deep x' k m HXS.out (by omega) (by omega)])
              have hmk : m ≤ 10000 := by omega
              have hql : dlen 10 (x'.fdiv ((2 ^ m : Nat) : Int)).natAbs ≤ 10000000 := by
                have h1 := fdiv_le x' ((2 ^ m : Nat) : Int) (by have := Nat.two_pow_pos m; omega)
                have h2 := dlen_mono _ _ h1
                have h3 := dlen_add_le x'.natAbs 1
                have h4 : dlen 10 1 = 1 := by decide
                omega
              have hne0 : ((2 ^ m : Nat) : Int) ≠ 0 := by have := Nat.two_pow_pos m; omega
              have hB1 : w.heap.size ≤ B1 := HB1.out
              have hwn : IntKind.i64.wrap (-n) = -n := by simp [IntKind.wrap, IntKind.bits, IntKind.signed]; omega
              clear hlen0 HR3 hx0 hk
              generalize hL : dlen 10 x'.natAbs = L at *
              have HLe := hid hL
              clear hL
              generalize decide (x' < 0) = sg at *
              go_wp2_with fail
              clear p1 p2 q1 q2 hl0
              apply U_cutD (R := fun bq br qg qa qn qc rg ra rn rc w' => Blk w' bq #[.bool qg, .slice qa qn qc] 56 ∧ Blk w' br #[.bool rg, .slice ra rn rc] 56 ∧ OwnDNum w' (w.heap.size) (.agg #[.bool qg, .slice qa qn qc]) (x'.fdiv ((2 ^ m : Nat) : Int)) ∧ OwnDNum w' (w.heap.size) (.agg #[.bool rg, .slice ra rn rc]) (x'.fmod ((2 ^ m : Nat) : Int)) ∧ w.heap.size ≤ bq ∧ w.heap.size ≤ br ∧ Below (w.heap.size) w w')
              case h =>
                replace kX := kX.drew
                replace hx := hx.below ((Below.refl w2.heap.size w2).drew)
                replace hb := hb.drew
                refine U_begin (late := fun i => decide (12 ≤ i)) (S := fun u => Blk u B1 #[.bool sg, .slice s1 L c1] 56) (by kernel_rfl) ?_
                generalize w2.drew = wd at *
                refine U_take2 9 (i := 0) (v := .agg #[.bool sg, .slice s1 L c1]) rfl (by kernel_rfl) (by kernel_rfl) (by kernel_rfl) (by kernel_rfl) (by kernel_rfl) (fun _ _ _ h => h) (.inl ⟨rfl, fun u hu => (by obtain ⟨⟨h1, h2⟩, _⟩ := hu.two; go_simp)⟩) kX ?_
                refine U_take2 9 (i := 1) (v := .int .i64 n) rfl (by kernel_rfl) (by kernel_rfl) (by kernel_rfl) (by kernel_rfl) (by kernel_rfl) (fun _ _ _ h => h) (.inl ⟨rfl, fun u hu => (by go_simp)⟩) kX ?_
                refine U_take2 9 (i := 2) (v := .int .i64 (-n)) rfl (by kernel_rfl) (by kernel_rfl) (by kernel_rfl) (by kernel_rfl) (by kernel_rfl) (fun _ _ _ h => h) (.inl ⟨rfl, fun u hu => (by go_simp)⟩) kX ?_
                refine U_take2 9 (i := 3) (v := .int .i64 m) rfl (by kernel_rfl) (by kernel_rfl) (by kernel_rfl) (by kernel_rfl) (by kernel_rfl) (fun _ _ _ h => h) (.inl ⟨rfl, fun u hu => (by go_simp)⟩) kX ?_
                refine U_three (j1 := 4) (j2 := 9) (j3 := 10) (by kernel_rfl) rfl rfl rfl (fun K hK => ?_) (fun K hK => ?_) (fun K hK => ?_)
                · go_simp
                  have hc := fun w => hid (two_fn' m hmk w)
                  (with_reducible refine (hc _).out.mono ?_); rintro e v3 ⟨z, rfl, hz, gg⟩
                  clear hc
                  replace hz := hz.num
                  replace hb := hb.trans (gg.mono hb.size)
                  replace kX := kX.later gg
                  replace hx := hx.below gg
                  obtain ⟨zg, za, zn, zc, rfl⟩ := hz.shape4
                  clear gg
                  refine hK.out _ _ (.inr kX) ?_
                  clear hK K
                  refine U_three (j1 := 5) (j2 := 9) (j3 := 10) (by kernel_rfl) rfl rfl rfl (fun K hK => ?_) (fun K hK => ?_) (fun K hK => ?_)
                  · go_simp
                    have hc := hid (divR_fn hx hz (by rw [HLe.out]; omega) (by rw [Int.natAbs_natCast]; have := dlen_two m; omega) (hne0))
                    (with_reducible refine hc.out.mono ?_); rintro e v4 ⟨q, r, rfl, hq, hr, gg⟩
                    clear hc
                    have hszd := hb.size
                    replace hq := hq.mono hszd
                    replace hr := hr.mono hszd
                    replace hb := hb.trans (gg.mono hb.size)
                    replace kX := kX.later gg
                    replace hx := hx.below gg
                    replace hz := hz.below gg
                    obtain ⟨qg, qa, qn, qc, rfl⟩ := hq.num.shape4
                    obtain ⟨rg, ra, rn, rc, rfl⟩ := hr.num.shape4
                    clear gg
                    refine hK.out _ _ (.inr kX) ?_
                    clear hK K
                    refine U_take2 5 (i := 6) (v := .tuple #[.agg #[.bool qg, .slice qa qn qc], .agg #[.bool rg, .slice ra rn rc]]) rfl (by kernel_rfl) (by kernel_rfl) (by kernel_rfl) (by kernel_rfl) (by kernel_rfl) (fun _ _ _ h => h) (.inl ⟨rfl, fun u hu => (by go_simp)⟩) kX ?_
                    refine U_take2 5 (i := 7) (v := .agg #[.bool qg, .slice qa qn qc]) rfl (by kernel_rfl) (by kernel_rfl) (by kernel_rfl) (by kernel_rfl) (by kernel_rfl) (fun _ _ _ h => h) (.inl ⟨rfl, fun u hu => (by go_simp)⟩) kX ?_
                    refine U_take2 5 (i := 8) (v := .agg #[.bool rg, .slice ra rn rc]) rfl (by kernel_rfl) (by kernel_rfl) (by kernel_rfl) (by kernel_rfl) (by kernel_rfl) (fun _ _ _ h => h) (.inl ⟨rfl, fun u hu => (by go_simp)⟩) kX ?_
                    refine U_two (j1 := 9) (j2 := 10) (by kernel_rfl) rfl rfl (fun K hK => ?_) (fun K hK => ?_)
                    · go_simp
                      have gg : Below v4.heap.size v4 (v4.alloc (.cells #[.bool false, .slice none 0 0] 56)) := (Below.refl _ _).alloc (Nat.le_refl _) _
                      have kq := Blk.new v4 #[.bool false, .slice none 0 0] 56
                      have szq := hb.size
                      have nxqkX := kX.lt
                      have nqq := hq.notin_new (b := v4.heap.size) (Nat.le_refl _)
                      have nrq := hr.notin_new (b := v4.heap.size) (Nat.le_refl _)
                      replace hb := hb.trans (gg.mono hb.size)
                      replace kX := kX.later gg
                      replace hx := hx.below gg
                      replace hz := hz.below gg
                      replace hq := hq.keep gg
                      replace hr := hr.keep gg
                      clear gg
                      refine hK.out _ _ (.inr kX) ?_
                      clear hK K
                      generalize v4.alloc (.cells #[.bool false, .slice none 0 0] 56) = v5 at *
                      generalize v4.heap.size = bq at *
                      refine U_step (j := 10) (by kernel_rfl) rfl (fun K hK => ?_)
                      go_simp
                      have gg : Below v5.heap.size v5 (v5.alloc (.cells #[.bool false, .slice none 0 0] 56)) := (Below.refl _ _).alloc (Nat.le_refl _) _
                      have kr := Blk.new v5 #[.bool false, .slice none 0 0] 56
                      have szr := hb.size
                      have nxrkX := kX.lt
                      have hne : bq ≠ v5.heap.size := by have := kq.lt; omega
                      have nqr := hq.notin_new (b := v5.heap.size) (Nat.le_refl _)
                      have nrr := hr.notin_new (b := v5.heap.size) (Nat.le_refl _)
                      replace hb := hb.trans (gg.mono hb.size)
                      replace kX := kX.later gg
                      replace kq := kq.later gg
                      replace hx := hx.below gg
                      replace hz := hz.below gg
                      replace hq := hq.keep gg
                      replace hr := hr.keep gg
                      clear gg
                      refine hK.out _ _ (.inr kX) ?_
                      clear hK K
                      generalize v5.alloc (.cells #[.bool false, .slice none 0 0] 56) = v6 at *
                      generalize v5.heap.size = br at *
                      refine U_step (j := 11) (by kernel_rfl) rfl (fun K hK => ?_)
                      obtain ⟨⟨e1, e2⟩, e3, e4⟩ := kq.two
                      go_simp
                      replace kq := kq.set2 (.bool qg) (.slice qa qn qc)
                      replace kr := kr.set2_ne (hne.symm) (.bool qg) (.slice qa qn qc)
                      replace kX := kX.set2_ne (b := bq) (by omega) (.bool qg) (.slice qa qn qc)
                      replace hq := hq.set2n nqq (.bool qg) (.slice qa qn qc)
                      replace hr := hr.set2n nrq (.bool qg) (.slice qa qn qc)
                      replace hb := (hb.setCell (p := ⟨bq, 0, none⟩) (by show w.heap.size ≤ bq; omega) (.bool qg)).setCell (p := ⟨bq, 1, none⟩) (by show w.heap.size ≤ bq; omega) (.slice qa qn qc)
                      refine hK.out _ _ (.inr kX) ?_
                      clear hK K e1 e2 e3 e4
                      refine U_step (j := 12) (by kernel_rfl) rfl (fun K hK => ?_)
                      obtain ⟨⟨e1, e2⟩, e3, e4⟩ := kr.two
                      go_simp
                      replace kr := kr.set2 (.bool rg) (.slice ra rn rc)
                      replace kq := kq.set2_ne (hne) (.bool rg) (.slice ra rn rc)
                      replace kX := kX.set2_ne (b := br) (by omega) (.bool rg) (.slice ra rn rc)
                      replace hq := hq.set2n nqr (.bool rg) (.slice ra rn rc)
                      replace hr := hr.set2n nrr (.bool rg) (.slice ra rn rc)
                      replace hb := (hb.setCell (p := ⟨br, 0, none⟩) (by show w.heap.size ≤ br; omega) (.bool rg)).setCell (p := ⟨br, 1, none⟩) (by show w.heap.size ≤ br; omega) (.slice ra rn rc)
                      refine hK.out _ _ (.inl rfl) ?_
                      clear hK K e1 e2 e3 e4
                      refine U_done (by kernel_rfl) ?_ _
                      exact ⟨bq, br, qg, qa, qn, qc, rg, ra, rn, rc, zg, za, zn, zc, rfl, kq, kr, hq, hr, szq, szr, hb⟩
                    · go_simp
                      have gg : Below v4.heap.size v4 (v4.alloc (.cells #[.bool false, .slice none 0 0] 56)) := (Below.refl _ _).alloc (Nat.le_refl _) _
                      have kr := Blk.new v4 #[.bool false, .slice none 0 0] 56
                      have szr := hb.size
                      have nxrkX := kX.lt
                      have nqr := hq.notin_new (b := v4.heap.size) (Nat.le_refl _)
                      have nrr := hr.notin_new (b := v4.heap.size) (Nat.le_refl _)
                      replace hb := hb.trans (gg.mono hb.size)
                      replace kX := kX.later gg
                      replace hx := hx.below gg
                      replace hz := hz.below gg
                      replace hq := hq.keep gg
                      replace hr := hr.keep gg
                      clear gg
                      refine hK.out _ _ (.inr kX) ?_
                      clear hK K
                      generalize v4.alloc (.cells #[.bool false, .slice none 0 0] 56) = v5 at *
                      generalize v4.heap.size = br at *
                      refine U_step (j := 9) (by kernel_rfl) rfl (fun K hK => ?_)
                      go_simp
                      have gg : Below v5.heap.size v5 (v5.alloc (.cells #[.bool false, .slice none 0 0] 56)) := (Below.refl _ _).alloc (Nat.le_refl _) _
                      have kq := Blk.new v5 #[.bool false, .slice none 0 0] 56
                      have szq := hb.size
                      have nxqkX := kX.lt
                      have hne : br ≠ v5.heap.size := by have := kr.lt; omega
                      have nqq := hq.notin_new (b := v5.heap.size) (Nat.le_refl _)
                      have nrq := hr.notin_new (b := v5.heap.size) (Nat.le_refl _)
                      replace hb := hb.trans (gg.mono hb.size)
                      replace kX := kX.later gg
                      replace kr := kr.later gg
                      replace hx := hx.below gg
                      replace hz := hz.below gg
                      replace hq := hq.keep gg
                      replace hr := hr.keep gg
                      clear gg
                      refine hK.out _ _ (.inr kX) ?_
                      clear hK K
                      generalize v5.alloc (.cells #[.bool false, .slice none 0 0] 56) = v6 at *
                      generalize v5.heap.size = bq at *
                      refine U_step (j := 11) (by kernel_rfl) rfl (fun K hK => ?_)
                      obtain ⟨⟨e1, e2⟩, e3, e4⟩ := kq.two
                      go_simp
                      replace kq := kq.set2 (.bool qg) (.slice qa qn qc)
                      replace kr := kr.set2_ne (hne) (.bool qg) (.slice qa qn qc)
                      replace kX := kX.set2_ne (b := bq) (by omega) (.bool qg) (.slice qa qn qc)
                      replace hq := hq.set2n nqq (.bool qg) (.slice qa qn qc)
                      replace hr := hr.set2n nrq (.bool qg) (.slice qa qn qc)
                      replace hb := (hb.setCell (p := ⟨bq, 0, none⟩) (by show w.heap.size ≤ bq; omega) (.bool qg)).setCell (p := ⟨bq, 1, none⟩) (by show w.heap.size ≤ bq; omega) (.slice qa qn qc)
                      refine hK.out _ _ (.inr kX) ?_
                      clear hK K e1 e2 e3 e4
                      refine U_step (j := 12) (by kernel_rfl) rfl (fun K hK => ?_)
                      obtain ⟨⟨e1, e2⟩, e3, e4⟩ := kr.two
                      go_simp
                      replace kr := kr.set2 (.bool rg) (.slice ra rn rc)
                      replace kq := kq.set2_ne (hne.symm) (.bool rg) (.slice ra rn rc)
                      replace kX := kX.set2_ne (b := br) (by omega) (.bool rg) (.slice ra rn rc)
                      replace hq := hq.set2n nqr (.bool rg) (.slice ra rn rc)
                      replace hr := hr.set2n nrr (.bool rg) (.slice ra rn rc)
                      replace hb := (hb.setCell (p := ⟨br, 0, none⟩) (by show w.heap.size ≤ br; omega) (.bool rg)).setCell (p := ⟨br, 1, none⟩) (by show w.heap.size ≤ br; omega) (.slice ra rn rc)
                      refine hK.out _ _ (.inl rfl) ?_
                      clear hK K e1 e2 e3 e4
                      refine U_done (by kernel_rfl) ?_ _
                      exact ⟨bq, br, qg, qa, qn, qc, rg, ra, rn, rc, zg, za, zn, zc, rfl, kq, kr, hq, hr, szq, szr, hb⟩
                  · go_simp
                    have gg : Below v3.heap.size v3 (v3.alloc (.cells #[.bool false, .slice none 0 0] 56)) := (Below.refl _ _).alloc (Nat.le_refl _) _
                    have kq := Blk.new v3 #[.bool false, .slice none 0 0] 56
                    have szq := hb.size
                    have nxqkX := kX.lt
                    replace hb := hb.trans (gg.mono hb.size)
                    replace kX := kX.later gg
                    replace hx := hx.below gg
                    replace hz := hz.below gg
                    clear gg
                    refine hK.out _ _ (.inr kX) ?_
                    clear hK K
                    generalize v3.alloc (.cells #[.bool false, .slice none 0 0] 56) = v4 at *
                    generalize v3.heap.size = bq at *
                    refine U_two (j1 := 5) (j2 := 10) (by kernel_rfl) rfl rfl (fun K hK => ?_) (fun K hK => ?_)
                    · go_simp
                      have hc := hid (divR_fn hx hz (by rw [HLe.out]; omega) (by rw [Int.natAbs_natCast]; have := dlen_two m; omega) (hne0))
                      (with_reducible refine hc.out.mono ?_); rintro e v5 ⟨q, r, rfl, hq, hr, gg⟩
                      clear hc
                      have nqq := hq.notin (b := bq) (by have := kq.lt; omega)
                      have nrq := hr.notin (b := bq) (by have := kq.lt; omega)
                      have hszd := hb.size
                      replace hq := hq.mono hszd
                      replace hr := hr.mono hszd
                      replace hb := hb.trans (gg.mono hb.size)
                      replace kX := kX.later gg
                      replace kq := kq.later gg
                      replace hx := hx.below gg
                      replace hz := hz.below gg
                      obtain ⟨qg, qa, qn, qc, rfl⟩ := hq.num.shape4
                      obtain ⟨rg, ra, rn, rc, rfl⟩ := hr.num.shape4
                      clear gg
                      refine hK.out _ _ (.inr kX) ?_
                      clear hK K
                      refine U_take2 5 (i := 6) (v := .tuple #[.agg #[.bool qg, .slice qa qn qc], .agg #[.bool rg, .slice ra rn rc]]) rfl (by kernel_rfl) (by kernel_rfl) (by kernel_rfl) (by kernel_rfl) (by kernel_rfl) (fun _ _ _ h => h) (.inl ⟨rfl, fun u hu => (by go_simp)⟩) kX ?_
                      refine U_take2 5 (i := 7) (v := .agg #[.bool qg, .slice qa qn qc]) rfl (by kernel_rfl) (by kernel_rfl) (by kernel_rfl) (by kernel_rfl) (by kernel_rfl) (fun _ _ _ h => h) (.inl ⟨rfl, fun u hu => (by go_simp)⟩) kX ?_
                      refine U_take2 5 (i := 8) (v := .agg #[.bool rg, .slice ra rn rc]) rfl (by kernel_rfl) (by kernel_rfl) (by kernel_rfl) (by kernel_rfl) (by kernel_rfl) (fun _ _ _ h => h) (.inl ⟨rfl, fun u hu => (by go_simp)⟩) kX ?_
                      refine U_step (j := 10) (by kernel_rfl) rfl (fun K hK => ?_)
                      go_simp
                      have gg : Below v5.heap.size v5 (v5.alloc (.cells #[.bool false, .slice none 0 0] 56)) := (Below.refl _ _).alloc (Nat.le_refl _) _
                      have kr := Blk.new v5 #[.bool false, .slice none 0 0] 56
                      have szr := hb.size
                      have nxrkX := kX.lt
                      have hne : bq ≠ v5.heap.size := by have := kq.lt; omega
                      have nqr := hq.notin_new (b := v5.heap.size) (Nat.le_refl _)
                      have nrr := hr.notin_new (b := v5.heap.size) (Nat.le_refl _)
                      replace hb := hb.trans (gg.mono hb.size)
                      replace kX := kX.later gg
                      replace kq := kq.later gg
                      replace hx := hx.below gg
                      replace hz := hz.below gg
                      replace hq := hq.keep gg
                      replace hr := hr.keep gg
                      clear gg
                      refine hK.out _ _ (.inr kX) ?_
                      clear hK K
                      generalize v5.alloc (.cells #[.bool false, .slice none 0 0] 56) = v6 at *
                      generalize v5.heap.size = br at *
                      refine U_step (j := 11) (by kernel_rfl) rfl (fun K hK => ?_)
                      obtain ⟨⟨e1, e2⟩, e3, e4⟩ := kq.two
                      go_simp
                      replace kq := kq.set2 (.bool qg) (.slice qa qn qc)
                      replace kr := kr.set2_ne (hne.symm) (.bool qg) (.slice qa qn qc)
                      replace kX := kX.set2_ne (b := bq) (by omega) (.bool qg) (.slice qa qn qc)
                      replace hq := hq.set2n nqq (.bool qg) (.slice qa qn qc)
                      replace hr := hr.set2n nrq (.bool qg) (.slice qa qn qc)
                      replace hb := (hb.setCell (p := ⟨bq, 0, none⟩) (by show w.heap.size ≤ bq; omega) (.bool qg)).setCell (p := ⟨bq, 1, none⟩) (by show w.heap.size ≤ bq; omega) (.slice qa qn qc)
                      refine hK.out _ _ (.inr kX) ?_
                      clear hK K e1 e2 e3 e4
                      refine U_step (j := 12) (by kernel_rfl) rfl (fun K hK => ?_)
                      obtain ⟨⟨e1, e2⟩, e3, e4⟩ := kr.two
                      go_simp
                      replace kr := kr.set2 (.bool rg) (.slice ra rn rc)
                      replace kq := kq.set2_ne (hne) (.bool rg) (.slice ra rn rc)
                      replace kX := kX.set2_ne (b := br) (by omega) (.bool rg) (.slice ra rn rc)
                      replace hq := hq.set2n nqr (.bool rg) (.slice ra rn rc)
                      replace hr := hr.set2n nrr (.bool rg) (.slice ra rn rc)
                      replace hb := (hb.setCell (p := ⟨br, 0, none⟩) (by show w.heap.size ≤ br; omega) (.bool rg)).setCell (p := ⟨br, 1, none⟩) (by show w.heap.size ≤ br; omega) (.slice ra rn rc)
                      refine hK.out _ _ (.inl rfl) ?_
                      clear hK K e1 e2 e3 e4
                      refine U_done (by kernel_rfl) ?_ _
                      exact ⟨bq, br, qg, qa, qn, qc, rg, ra, rn, rc, zg, za, zn, zc, rfl, kq, kr, hq, hr, szq, szr, hb⟩
                    · go_simp
                      have gg : Below v4.heap.size v4 (v4.alloc (.cells #[.bool false, .slice none 0 0] 56)) := (Below.refl _ _).alloc (Nat.le_refl _) _
                      have kr := Blk.new v4 #[.bool false, .slice none 0 0] 56
                      have szr := hb.size
                      have nxrkX := kX.lt
                      have hne : bq ≠ v4.heap.size := by have := kq.lt; omega
                      replace hb := hb.trans (gg.mono hb.size)
                      replace kX := kX.later gg
                      replace kq := kq.later gg
                      replace hx := hx.below gg
                      replace hz := hz.below gg
                      clear gg
                      refine hK.out _ _ (.inr kX) ?_
                      clear hK K
                      generalize v4.alloc (.cells #[.bool false, .slice none 0 0] 56) = v5 at *
                      generalize v4.heap.size = br at *
                      refine U_step (j := 5) (by kernel_rfl) rfl (fun K hK => ?_)
                      go_simp
                      have hc := hid (divR_fn hx hz (by rw [HLe.out]; omega) (by rw [Int.natAbs_natCast]; have := dlen_two m; omega) (hne0))
                      (with_reducible refine hc.out.mono ?_); rintro e v6 ⟨q, r, rfl, hq, hr, gg⟩
                      clear hc
                      have nqq := hq.notin (b := bq) (by have := kq.lt; omega)
                      have nrq := hr.notin (b := bq) (by have := kq.lt; omega)
                      have nqr := hq.notin (b := br) (by have := kr.lt; omega)
                      have nrr := hr.notin (b := br) (by have := kr.lt; omega)
                      have hszd := hb.size
                      replace hq := hq.mono hszd
                      replace hr := hr.mono hszd
                      replace hb := hb.trans (gg.mono hb.size)
                      replace kX := kX.later gg
                      replace kq := kq.later gg
                      replace kr := kr.later gg
                      replace hx := hx.below gg
                      replace hz := hz.below gg
                      obtain ⟨qg, qa, qn, qc, rfl⟩ := hq.num.shape4
                      obtain ⟨rg, ra, rn, rc, rfl⟩ := hr.num.shape4
                      clear gg
                      refine hK.out _ _ (.inr kX) ?_
                      clear hK K
                      refine U_take2 5 (i := 6) (v := .tuple #[.agg #[.bool qg, .slice qa qn qc], .agg #[.bool rg, .slice ra rn rc]]) rfl (by kernel_rfl) (by kernel_rfl) (by kernel_rfl) (by kernel_rfl) (by kernel_rfl) (fun _ _ _ h => h) (.inl ⟨rfl, fun u hu => (by go_simp)⟩) kX ?_
                      refine U_take2 5 (i := 7) (v := .agg #[.bool qg, .slice qa qn qc]) rfl (by kernel_rfl) (by kernel_rfl) (by kernel_rfl) (by kernel_rfl) (by kernel_rfl) (fun _ _ _ h => h) (.inl ⟨rfl, fun u hu => (by go_simp)⟩) kX ?_
                      refine U_take2 5 (i := 8) (v := .agg #[.bool rg, .slice ra rn rc]) rfl (by kernel_rfl) (by kernel_rfl) (by kernel_rfl) (by kernel_rfl) (by kernel_rfl) (fun _ _ _ h => h) (.inl ⟨rfl, fun u hu => (by go_simp)⟩) kX ?_
                      refine U_step (j := 11) (by kernel_rfl) rfl (fun K hK => ?_)
                      obtain ⟨⟨e1, e2⟩, e3, e4⟩ := kq.two
                      go_simp
                      replace kq := kq.set2 (.bool qg) (.slice qa qn qc)
                      replace kr := kr.set2_ne (hne.symm) (.bool qg) (.slice qa qn qc)
                      replace kX := kX.set2_ne (b := bq) (by omega) (.bool qg) (.slice qa qn qc)
                      replace hq := hq.set2n nqq (.bool qg) (.slice qa qn qc)
                      replace hr := hr.set2n nrq (.bool qg) (.slice qa qn qc)
                      replace hb := (hb.setCell (p := ⟨bq, 0, none⟩) (by show w.heap.size ≤ bq; omega) (.bool qg)).setCell (p := ⟨bq, 1, none⟩) (by show w.heap.size ≤ bq; omega) (.slice qa qn qc)
                      refine hK.out _ _ (.inr kX) ?_
                      clear hK K e1 e2 e3 e4
                      refine U_step (j := 12) (by kernel_rfl) rfl (fun K hK => ?_)
                      obtain ⟨⟨e1, e2⟩, e3, e4⟩ := kr.two
                      go_simp
                      replace kr := kr.set2 (.bool rg) (.slice ra rn rc)
                      replace kq := kq.set2_ne (hne) (.bool rg) (.slice ra rn rc)
                      replace kX := kX.set2_ne (b := br) (by omega) (.bool rg) (.slice ra rn rc)
                      replace hq := hq.set2n nqr (.bool rg) (.slice ra rn rc)
                      replace hr := hr.set2n nrr (.bool rg) (.slice ra rn rc)
                      replace hb := (hb.setCell (p := ⟨br, 0, none⟩) (by show w.heap.size ≤ br; omega) (.bool rg)).setCell (p := ⟨br, 1, none⟩) (by show w.heap.size ≤ br; omega) (.slice ra rn rc)
                      refine hK.out _ _ (.inl rfl) ?_
                      clear hK K e1 e2 e3 e4
                      refine U_done (by kernel_rfl) ?_ _
                      exact ⟨bq, br, qg, qa, qn, qc, rg, ra, rn, rc, zg, za, zn, zc, rfl, kq, kr, hq, hr, szq, szr, hb⟩
                  · go_simp
                    have gg : Below v3.heap.size v3 (v3.alloc (.cells #[.bool false, .slice none 0 0] 56)) := (Below.refl _ _).alloc (Nat.le_refl _) _
                    have kr := Blk.new v3 #[.bool false, .slice none 0 0] 56
                    have szr := hb.size
                    have nxrkX := kX.lt
                    replace hb := hb.trans (gg.mono hb.size)
                    replace kX := kX.later gg
                    replace hx := hx.below gg
                    replace hz := hz.below gg
                    clear gg
                    refine hK.out _ _ (.inr kX) ?_
                    clear hK K
                    generalize v3.alloc (.cells #[.bool false, .slice none 0 0] 56) = v4 at *
                    generalize v3.heap.size = br at *
                    refine U_two (j1 := 5) (j2 := 9) (by kernel_rfl) rfl rfl (fun K hK => ?_) (fun K hK => ?_)
                    · go_simp
                      have hc := hid (divR_fn hx hz (by rw [HLe.out]; omega) (by rw [Int.natAbs_natCast]; have := dlen_two m; omega) (hne0))
                      (with_reducible refine hc.out.mono ?_); rintro e v5 ⟨q, r, rfl, hq, hr, gg⟩
                      clear hc
                      have nqr := hq.notin (b := br) (by have := kr.lt; omega)
                      have nrr := hr.notin (b := br) (by have := kr.lt; omega)
                      have hszd := hb.size
                      replace hq := hq.mono hszd
                      replace hr := hr.mono hszd
                      replace hb := hb.trans (gg.mono hb.size)
                      replace kX := kX.later gg
                      replace kr := kr.later gg
                      replace hx := hx.below gg
                      replace hz := hz.below gg
                      obtain ⟨qg, qa, qn, qc, rfl⟩ := hq.num.shape4
                      obtain ⟨rg, ra, rn, rc, rfl⟩ := hr.num.shape4
                      clear gg
                      refine hK.out _ _ (.inr kX) ?_
                      clear hK K
                      refine U_take2 5 (i := 6) (v := .tuple #[.agg #[.bool qg, .slice qa qn qc], .agg #[.bool rg, .slice ra rn rc]]) rfl (by kernel_rfl) (by kernel_rfl) (by kernel_rfl) (by kernel_rfl) (by kernel_rfl) (fun _ _ _ h => h) (.inl ⟨rfl, fun u hu => (by go_simp)⟩) kX ?_
                      refine U_take2 5 (i := 7) (v := .agg #[.bool qg, .slice qa qn qc]) rfl (by kernel_rfl) (by kernel_rfl) (by kernel_rfl) (by kernel_rfl) (by kernel_rfl) (fun _ _ _ h => h) (.inl ⟨rfl, fun u hu => (by go_simp)⟩) kX ?_
                      refine U_take2 5 (i := 8) (v := .agg #[.bool rg, .slice ra rn rc]) rfl (by kernel_rfl) (by kernel_rfl) (by kernel_rfl) (by kernel_rfl) (by kernel_rfl) (fun _ _ _ h => h) (.inl ⟨rfl, fun u hu => (by go_simp)⟩) kX ?_
                      refine U_step (j := 9) (by kernel_rfl) rfl (fun K hK => ?_)
                      go_simp
                      have gg : Below v5.heap.size v5 (v5.alloc (.cells #[.bool false, .slice none 0 0] 56)) := (Below.refl _ _).alloc (Nat.le_refl _) _
                      have kq := Blk.new v5 #[.bool false, .slice none 0 0] 56
                      have szq := hb.size
                      have nxqkX := kX.lt
                      have hne : br ≠ v5.heap.size := by have := kr.lt; omega
                      have nqq := hq.notin_new (b := v5.heap.size) (Nat.le_refl _)
                      have nrq := hr.notin_new (b := v5.heap.size) (Nat.le_refl _)
                      replace hb := hb.trans (gg.mono hb.size)
                      replace kX := kX.later gg
                      replace kr := kr.later gg
                      replace hx := hx.below gg
                      replace hz := hz.below gg
                      replace hq := hq.keep gg
                      replace hr := hr.keep gg
                      clear gg
                      refine hK.out _ _ (.inr kX) ?_
                      clear hK K
                      generalize v5.alloc (.cells #[.bool false, .slice none 0 0] 56) = v6 at *
                      generalize v5.heap.size = bq at *
                      refine U_step (j := 11) (by kernel_rfl) rfl (fun K hK => ?_)
                      obtain ⟨⟨e1, e2⟩, e3, e4⟩ := kq.two
                      go_simp
                      replace kq := kq.set2 (.bool qg) (.slice qa qn qc)
                      replace kr := kr.set2_ne (hne) (.bool qg) (.slice qa qn qc)
                      replace kX := kX.set2_ne (b := bq) (by omega) (.bool qg) (.slice qa qn qc)
                      replace hq := hq.set2n nqq (.bool qg) (.slice qa qn qc)
                      replace hr := hr.set2n nrq (.bool qg) (.slice qa qn qc)
                      replace hb := (hb.setCell (p := ⟨bq, 0, none⟩) (by show w.heap.size ≤ bq; omega) (.bool qg)).setCell (p := ⟨bq, 1, none⟩) (by show w.heap.size ≤ bq; omega) (.slice qa qn qc)
                      refine hK.out _ _ (.inr kX) ?_
                      clear hK K e1 e2 e3 e4
                      refine U_step (j := 12) (by kernel_rfl) rfl (fun K hK => ?_)
                      obtain ⟨⟨e1, e2⟩, e3, e4⟩ := kr.two
                      go_simp
                      replace kr := kr.set2 (.bool rg) (.slice ra rn rc)
                      replace kq := kq.set2_ne (hne.symm) (.bool rg) (.slice ra rn rc)
                      replace kX := kX.set2_ne (b := br) (by omega) (.bool rg) (.slice ra rn rc)
                      replace hq := hq.set2n nqr (.bool rg) (.slice ra rn rc)
                      replace hr := hr.set2n nrr (.bool rg) (.slice ra rn rc)
                      replace hb := (hb.setCell (p := ⟨br, 0, none⟩) (by show w.heap.size ≤ br; omega) (.bool rg)).setCell (p := ⟨br, 1, none⟩) (by show w.heap.size ≤ br; omega) (.slice ra rn rc)
                      refine hK.out _ _ (.inl rfl) ?_
                      clear hK K e1 e2 e3 e4
                      refine U_done (by kernel_rfl) ?_ _
                      exact ⟨bq, br, qg, qa, qn, qc, rg, ra, rn, rc, zg, za, zn, zc, rfl, kq, kr, hq, hr, szq, szr, hb⟩
                    · go_simp
                      have gg : Below v4.heap.size v4 (v4.alloc (.cells #[.bool false, .slice none 0 0] 56)) := (Below.refl _ _).alloc (Nat.le_refl _) _
                      have kq := Blk.new v4 #[.bool false, .slice none 0 0] 56
                      have szq := hb.size
                      have nxqkX := kX.lt
                      have hne : br ≠ v4.heap.size := by have := kr.lt; omega
                      replace hb := hb.trans (gg.mono hb.size)
                      replace kX := kX.later gg
                      replace kr := kr.later gg
                      replace hx := hx.below gg
                      replace hz := hz.below gg
                      clear gg
                      refine hK.out _ _ (.inr kX) ?_
                      clear hK K
                      generalize v4.alloc (.cells #[.bool false, .slice none 0 0] 56) = v5 at *
                      generalize v4.heap.size = bq at *
                      refine U_step (j := 5) (by kernel_rfl) rfl (fun K hK => ?_)
                      go_simp
                      have hc := hid (divR_fn hx hz (by rw [HLe.out]; omega) (by rw [Int.natAbs_natCast]; have := dlen_two m; omega) (hne0))
                      (with_reducible refine hc.out.mono ?_); rintro e v6 ⟨q, r, rfl, hq, hr, gg⟩
                      clear hc
                      have nqr := hq.notin (b := br) (by have := kr.lt; omega)
                      have nrr := hr.notin (b := br) (by have := kr.lt; omega)
                      have nqq := hq.notin (b := bq) (by have := kq.lt; omega)
                      have nrq := hr.notin (b := bq) (by have := kq.lt; omega)
                      have hszd := hb.size
                      replace hq := hq.mono hszd
                      replace hr := hr.mono hszd
                      replace hb := hb.trans (gg.mono hb.size)
                      replace kX := kX.later gg
                      replace kr := kr.later gg
                      replace kq := kq.later gg
                      replace hx := hx.below gg
                      replace hz := hz.below gg
                      obtain ⟨qg, qa, qn, qc, rfl⟩ := hq.num.shape4
                      obtain ⟨rg, ra, rn, rc, rfl⟩ := hr.num.shape4
                      clear gg
                      refine hK.out _ _ (.inr kX) ?_
                      clear hK K
                      refine U_take2 5 (i := 6) (v := .tuple #[.agg #[.bool qg, .slice qa qn qc], .agg #[.bool rg, .slice ra rn rc]]) rfl (by kernel_rfl) (by kernel_rfl) (by kernel_rfl) (by kernel_rfl) (by kernel_rfl) (fun _ _ _ h => h) (.inl ⟨rfl, fun u hu => (by go_simp)⟩) kX ?_
                      refine U_take2 5 (i := 7) (v := .agg #[.bool qg, .slice qa qn qc]) rfl (by kernel_rfl) (by kernel_rfl) (by kernel_rfl) (by kernel_rfl) (by kernel_rfl) (fun _ _ _ h => h) (.inl ⟨rfl, fun u hu => (by go_simp)⟩) kX ?_
                      refine U_take2 5 (i := 8) (v := .agg #[.bool rg, .slice ra rn rc]) rfl (by kernel_rfl) (by kernel_rfl) (by kernel_rfl) (by kernel_rfl) (by kernel_rfl) (fun _ _ _ h => h) (.inl ⟨rfl, fun u hu => (by go_simp)⟩) kX ?_
                      refine U_step (j := 11) (by kernel_rfl) rfl (fun K hK => ?_)
                      obtain ⟨⟨e1, e2⟩, e3, e4⟩ := kq.two
                      go_simp
                      replace kq := kq.set2 (.bool qg) (.slice qa qn qc)
                      replace kr := kr.set2_ne (hne) (.bool qg) (.slice qa qn qc)
                      replace kX := kX.set2_ne (b := bq) (by omega) (.bool qg) (.slice qa qn qc)
                      replace hq := hq.set2n nqq (.bool qg) (.slice qa qn qc)
                      replace hr := hr.set2n nrq (.bool qg) (.slice qa qn qc)
                      replace hb := (hb.setCell (p := ⟨bq, 0, none⟩) (by show w.heap.size ≤ bq; omega) (.bool qg)).setCell (p := ⟨bq, 1, none⟩) (by show w.heap.size ≤ bq; omega) (.slice qa qn qc)
                      refine hK.out _ _ (.inr kX) ?_
                      clear hK K e1 e2 e3 e4
                      refine U_step (j := 12) (by kernel_rfl) rfl (fun K hK => ?_)
                      obtain ⟨⟨e1, e2⟩, e3, e4⟩ := kr.two
                      go_simp
                      replace kr := kr.set2 (.bool rg) (.slice ra rn rc)
                      replace kq := kq.set2_ne (hne.symm) (.bool rg) (.slice ra rn rc)
                      replace kX := kX.set2_ne (b := br) (by omega) (.bool rg) (.slice ra rn rc)
                      replace hq := hq.set2n nqr (.bool rg) (.slice ra rn rc)
                      replace hr := hr.set2n nrr (.bool rg) (.slice ra rn rc)
                      replace hb := (hb.setCell (p := ⟨br, 0, none⟩) (by show w.heap.size ≤ br; omega) (.bool rg)).setCell (p := ⟨br, 1, none⟩) (by show w.heap.size ≤ br; omega) (.slice ra rn rc)
                      refine hK.out _ _ (.inl rfl) ?_
                      clear hK K e1 e2 e3 e4
                      refine U_done (by kernel_rfl) ?_ _
                      exact ⟨bq, br, qg, qa, qn, qc, rg, ra, rn, rc, zg, za, zn, zc, rfl, kq, kr, hq, hr, szq, szr, hb⟩
                · go_simp
                  have gg : Below wd.heap.size wd (wd.alloc (.cells #[.bool false, .slice none 0 0] 56)) := (Below.refl _ _).alloc (Nat.le_refl _) _
                  have kq := Blk.new wd #[.bool false, .slice none 0 0] 56
                  have szq := hb.size
                  have nxqkX := kX.lt
                  replace hb := hb.trans (gg.mono hb.size)
                  replace kX := kX.later gg
                  replace hx := hx.below gg
                  clear gg
                  refine hK.out _ _ (.inr kX) ?_
                  clear hK K
                  generalize wd.alloc (.cells #[.bool false, .slice none 0 0] 56) = v3 at *
                  generalize wd.heap.size = bq at *
                  refine U_two (j1 := 4) (j2 := 10) (by kernel_rfl) rfl rfl (fun K hK => ?_) (fun K hK => ?_)
                  · go_simp
                    have hc := fun w => hid (two_fn' m hmk w)
                    (with_reducible refine (hc _).out.mono ?_); rintro e v4 ⟨z, rfl, hz, gg⟩
                    clear hc
                    replace hz := hz.num
                    replace hb := hb.trans (gg.mono hb.size)
                    replace kX := kX.later gg
                    replace kq := kq.later gg
                    replace hx := hx.below gg
                    obtain ⟨zg, za, zn, zc, rfl⟩ := hz.shape4
                    clear gg
                    refine hK.out _ _ (.inr kX) ?_
                    clear hK K
                    refine U_two (j1 := 5) (j2 := 10) (by kernel_rfl) rfl rfl (fun K hK => ?_) (fun K hK => ?_)
                    · go_simp
                      have hc := hid (divR_fn hx hz (by rw [HLe.out]; omega) (by rw [Int.natAbs_natCast]; have := dlen_two m; omega) (hne0))
                      (with_reducible refine hc.out.mono ?_); rintro e v5 ⟨q, r, rfl, hq, hr, gg⟩
                      clear hc
                      have nqq := hq.notin (b := bq) (by have := kq.lt; omega)
                      have nrq := hr.notin (b := bq) (by have := kq.lt; omega)
                      have hszd := hb.size
                      replace hq := hq.mono hszd
                      replace hr := hr.mono hszd
                      replace hb := hb.trans (gg.mono hb.size)
                      replace kX := kX.later gg
                      replace kq := kq.later gg
                      replace hx := hx.below gg
                      replace hz := hz.below gg
                      obtain ⟨qg, qa, qn, qc, rfl⟩ := hq.num.shape4
                      obtain ⟨rg, ra, rn, rc, rfl⟩ := hr.num.shape4
                      clear gg
                      refine hK.out _ _ (.inr kX) ?_
                      clear hK K
                      refine U_take2 5 (i := 6) (v := .tuple #[.agg #[.bool qg, .slice qa qn qc], .agg #[.bool rg, .slice ra rn rc]]) rfl (by kernel_rfl) (by kernel_rfl) (by kernel_rfl) (by kernel_rfl) (by kernel_rfl) (fun _ _ _ h => h) (.inl ⟨rfl, fun u hu => (by go_simp)⟩) kX ?_
                      refine U_take2 5 (i := 7) (v := .agg #[.bool qg, .slice qa qn qc]) rfl (by kernel_rfl) (by kernel_rfl) (by kernel_rfl) (by kernel_rfl) (by kernel_rfl) (fun _ _ _ h => h) (.inl ⟨rfl, fun u hu => (by go_simp)⟩) kX ?_
                      refine U_take2 5 (i := 8) (v := .agg #[.bool rg, .slice ra rn rc]) rfl (by kernel_rfl) (by kernel_rfl) (by kernel_rfl) (by kernel_rfl) (by kernel_rfl) (fun _ _ _ h => h) (.inl ⟨rfl, fun u hu => (by go_simp)⟩) kX ?_
                      refine U_step (j := 10) (by kernel_rfl) rfl (fun K hK => ?_)
                      go_simp
                      have gg : Below v5.heap.size v5 (v5.alloc (.cells #[.bool false, .slice none 0 0] 56)) := (Below.refl _ _).alloc (Nat.le_refl _) _
                      have kr := Blk.new v5 #[.bool false, .slice none 0 0] 56
                      have szr := hb.size
                      have nxrkX := kX.lt
                      have hne : bq ≠ v5.heap.size := by have := kq.lt; omega
                      have nqr := hq.notin_new (b := v5.heap.size) (Nat.le_refl _)
                      have nrr := hr.notin_new (b := v5.heap.size) (Nat.le_refl _)
                      replace hb := hb.trans (gg.mono hb.size)
                      replace kX := kX.later gg
                      replace kq := kq.later gg
                      replace hx := hx.below gg
                      replace hz := hz.below gg
                      replace hq := hq.keep gg
                      replace hr := hr.keep gg
                      clear gg
                      refine hK.out _ _ (.inr kX) ?_
                      clear hK K
                      generalize v5.alloc (.cells #[.bool false, .slice none 0 0] 56) = v6 at *
                      generalize v5.heap.size = br at *
                      refine U_step (j := 11) (by kernel_rfl) rfl (fun K hK => ?_)
                      obtain ⟨⟨e1, e2⟩, e3, e4⟩ := kq.two
                      go_simp
                      replace kq := kq.set2 (.bool qg) (.slice qa qn qc)
                      replace kr := kr.set2_ne (hne.symm) (.bool qg) (.slice qa qn qc)
                      replace kX := kX.set2_ne (b := bq) (by omega) (.bool qg) (.slice qa qn qc)
                      replace hq := hq.set2n nqq (.bool qg) (.slice qa qn qc)
                      replace hr := hr.set2n nrq (.bool qg) (.slice qa qn qc)
                      replace hb := (hb.setCell (p := ⟨bq, 0, none⟩) (by show w.heap.size ≤ bq; omega) (.bool qg)).setCell (p := ⟨bq, 1, none⟩) (by show w.heap.size ≤ bq; omega) (.slice qa qn qc)
                      refine hK.out _ _ (.inr kX) ?_
                      clear hK K e1 e2 e3 e4
                      refine U_step (j := 12) (by kernel_rfl) rfl (fun K hK => ?_)
                      obtain ⟨⟨e1, e2⟩, e3, e4⟩ := kr.two
                      go_simp
                      replace kr := kr.set2 (.bool rg) (.slice ra rn rc)
                      replace kq := kq.set2_ne (hne) (.bool rg) (.slice ra rn rc)
                      replace kX := kX.set2_ne (b := br) (by omega) (.bool rg) (.slice ra rn rc)
                      replace hq := hq.set2n nqr (.bool rg) (.slice ra rn rc)
                      replace hr := hr.set2n nrr (.bool rg) (.slice ra rn rc)
                      replace hb := (hb.setCell (p := ⟨br, 0, none⟩) (by show w.heap.size ≤ br; omega) (.bool rg)).setCell (p := ⟨br, 1, none⟩) (by show w.heap.size ≤ br; omega) (.slice ra rn rc)
                      refine hK.out _ _ (.inl rfl) ?_
                      clear hK K e1 e2 e3 e4
                      refine U_done (by kernel_rfl) ?_ _
                      exact ⟨bq, br, qg, qa, qn, qc, rg, ra, rn, rc, zg, za, zn, zc, rfl, kq, kr, hq, hr, szq, szr, hb⟩
                    · go_simp
                      have gg : Below v4.heap.size v4 (v4.alloc (.cells #[.bool false, .slice none 0 0] 56)) := (Below.refl _ _).alloc (Nat.le_refl _) _
                      have kr := Blk.new v4 #[.bool false, .slice none 0 0] 56
                      have szr := hb.size
                      have nxrkX := kX.lt
                      have hne : bq ≠ v4.heap.size := by have := kq.lt; omega
                      replace hb := hb.trans (gg.mono hb.size)
                      replace kX := kX.later gg
                      replace kq := kq.later gg
                      replace hx := hx.below gg
                      replace hz := hz.below gg
                      clear gg
                      refine hK.out _ _ (.inr kX) ?_
                      clear hK K
                      generalize v4.alloc (.cells #[.bool false, .slice none 0 0] 56) = v5 at *
                      generalize v4.heap.size = br at *
                      refine U_step (j := 5) (by kernel_rfl) rfl (fun K hK => ?_)
                      go_simp
                      have hc := hid (divR_fn hx hz (by rw [HLe.out]; omega) (by rw [Int.natAbs_natCast]; have := dlen_two m; omega) (hne0))
                      (with_reducible refine hc.out.mono ?_); rintro e v6 ⟨q, r, rfl, hq, hr, gg⟩
                      clear hc
                      have nqq := hq.notin (b := bq) (by have := kq.lt; omega)
                      have nrq := hr.notin (b := bq) (by have := kq.lt; omega)
                      have nqr := hq.notin (b := br) (by have := kr.lt; omega)
                      have nrr := hr.notin (b := br) (by have := kr.lt; omega)
                      have hszd := hb.size
                      replace hq := hq.mono hszd
                      replace hr := hr.mono hszd
                      replace hb := hb.trans (gg.mono hb.size)
                      replace kX := kX.later gg
                      replace kq := kq.later gg
                      replace kr := kr.later gg
                      replace hx := hx.below gg
                      replace hz := hz.below gg
                      obtain ⟨qg, qa, qn, qc, rfl⟩ := hq.num.shape4
                      obtain ⟨rg, ra, rn, rc, rfl⟩ := hr.num.shape4
                      clear gg
                      refine hK.out _ _ (.inr kX) ?_
                      clear hK K
                      refine U_take2 5 (i := 6) (v := .tuple #[.agg #[.bool qg, .slice qa qn qc], .agg #[.bool rg, .slice ra rn rc]]) rfl (by kernel_rfl) (by kernel_rfl) (by kernel_rfl) (by kernel_rfl) (by kernel_rfl) (fun _ _ _ h => h) (.inl ⟨rfl, fun u hu => (by go_simp)⟩) kX ?_
                      refine U_take2 5 (i := 7) (v := .agg #[.bool qg, .slice qa qn qc]) rfl (by kernel_rfl) (by kernel_rfl) (by kernel_rfl) (by kernel_rfl) (by kernel_rfl) (fun _ _ _ h => h) (.inl ⟨rfl, fun u hu => (by go_simp)⟩) kX ?_
                      refine U_take2 5 (i := 8) (v := .agg #[.bool rg, .slice ra rn rc]) rfl (by kernel_rfl) (by kernel_rfl) (by kernel_rfl) (by kernel_rfl) (by kernel_rfl) (fun _ _ _ h => h) (.inl ⟨rfl, fun u hu => (by go_simp)⟩) kX ?_
                      refine U_step (j := 11) (by kernel_rfl) rfl (fun K hK => ?_)
                      obtain ⟨⟨e1, e2⟩, e3, e4⟩ := kq.two
                      go_simp
                      replace kq := kq.set2 (.bool qg) (.slice qa qn qc)
                      replace kr := kr.set2_ne (hne.symm) (.bool qg) (.slice qa qn qc)
                      replace kX := kX.set2_ne (b := bq) (by omega) (.bool qg) (.slice qa qn qc)
                      replace hq := hq.set2n nqq (.bool qg) (.slice qa qn qc)
                      replace hr := hr.set2n nrq (.bool qg) (.slice qa qn qc)
                      replace hb := (hb.setCell (p := ⟨bq, 0, none⟩) (by show w.heap.size ≤ bq; omega) (.bool qg)).setCell (p := ⟨bq, 1, none⟩) (by show w.heap.size ≤ bq; omega) (.slice qa qn qc)
                      refine hK.out _ _ (.inr kX) ?_
                      clear hK K e1 e2 e3 e4
                      refine U_step (j := 12) (by kernel_rfl) rfl (fun K hK => ?_)
                      obtain ⟨⟨e1, e2⟩, e3, e4⟩ := kr.two
                      go_simp
                      replace kr := kr.set2 (.bool rg) (.slice ra rn rc)
                      replace kq := kq.set2_ne (hne) (.bool rg) (.slice ra rn rc)
                      replace kX := kX.set2_ne (b := br) (by omega) (.bool rg) (.slice ra rn rc)
                      replace hq := hq.set2n nqr (.bool rg) (.slice ra rn rc)
                      replace hr := hr.set2n nrr (.bool rg) (.slice ra rn rc)
                      replace hb := (hb.setCell (p := ⟨br, 0, none⟩) (by show w.heap.size ≤ br; omega) (.bool rg)).setCell (p := ⟨br, 1, none⟩) (by show w.heap.size ≤ br; omega) (.slice ra rn rc)
                      refine hK.out _ _ (.inl rfl) ?_
                      clear hK K e1 e2 e3 e4
                      refine U_done (by kernel_rfl) ?_ _
                      exact ⟨bq, br, qg, qa, qn, qc, rg, ra, rn, rc, zg, za, zn, zc, rfl, kq, kr, hq, hr, szq, szr, hb⟩
                  · go_simp
                    have gg : Below v3.heap.size v3 (v3.alloc (.cells #[.bool false, .slice none 0 0] 56)) := (Below.refl _ _).alloc (Nat.le_refl _) _
                    have kr := Blk.new v3 #[.bool false, .slice none 0 0] 56
                    have szr := hb.size
                    have nxrkX := kX.lt
                    have hne : bq ≠ v3.heap.size := by have := kq.lt; omega
                    replace hb := hb.trans (gg.mono hb.size)
                    replace kX := kX.later gg
                    replace kq := kq.later gg
                    replace hx := hx.below gg
                    clear gg
                    refine hK.out _ _ (.inr kX) ?_
                    clear hK K
                    generalize v3.alloc (.cells #[.bool false, .slice none 0 0] 56) = v4 at *
                    generalize v3.heap.size = br at *
                    refine U_step (j := 4) (by kernel_rfl) rfl (fun K hK => ?_)
                    go_simp
                    have hc := fun w => hid (two_fn' m hmk w)
                    (with_reducible refine (hc _).out.mono ?_); rintro e v5 ⟨z, rfl, hz, gg⟩
                    clear hc
                    replace hz := hz.num
                    replace hb := hb.trans (gg.mono hb.size)
                    replace kX := kX.later gg
                    replace kq := kq.later gg
                    replace kr := kr.later gg
                    replace hx := hx.below gg
                    obtain ⟨zg, za, zn, zc, rfl⟩ := hz.shape4
                    clear gg
                    refine hK.out _ _ (.inr kX) ?_
                    clear hK K
                    refine U_step (j := 5) (by kernel_rfl) rfl (fun K hK => ?_)
                    go_simp
                    have hc := hid (divR_fn hx hz (by rw [HLe.out]; omega) (by rw [Int.natAbs_natCast]; have := dlen_two m; omega) (hne0))
                    (with_reducible refine hc.out.mono ?_); rintro e v6 ⟨q, r, rfl, hq, hr, gg⟩
                    clear hc
                    have nqq := hq.notin (b := bq) (by have := kq.lt; omega)
                    have nrq := hr.notin (b := bq) (by have := kq.lt; omega)
                    have nqr := hq.notin (b := br) (by have := kr.lt; omega)
                    have nrr := hr.notin (b := br) (by have := kr.lt; omega)
                    have hszd := hb.size
                    replace hq := hq.mono hszd
                    replace hr := hr.mono hszd
                    replace hb := hb.trans (gg.mono hb.size)
                    replace kX := kX.later gg
                    replace kq := kq.later gg
                    replace kr := kr.later gg
                    replace hx := hx.below gg
                    replace hz := hz.below gg
                    obtain ⟨qg, qa, qn, qc, rfl⟩ := hq.num.shape4
                    obtain ⟨rg, ra, rn, rc, rfl⟩ := hr.num.shape4
                    clear gg
                    refine hK.out _ _ (.inr kX) ?_
                    clear hK K
                    refine U_take2 5 (i := 6) (v := .tuple #[.agg #[.bool qg, .slice qa qn qc], .agg #[.bool rg, .slice ra rn rc]]) rfl (by kernel_rfl) (by kernel_rfl) (by kernel_rfl) (by kernel_rfl) (by kernel_rfl) (fun _ _ _ h => h) (.inl ⟨rfl, fun u hu => (by go_simp)⟩) kX ?_
                    refine U_take2 5 (i := 7) (v := .agg #[.bool qg, .slice qa qn qc]) rfl (by kernel_rfl) (by kernel_rfl) (by kernel_rfl) (by kernel_rfl) (by kernel_rfl) (fun _ _ _ h => h) (.inl ⟨rfl, fun u hu => (by go_simp)⟩) kX ?_
                    refine U_take2 5 (i := 8) (v := .agg #[.bool rg, .slice ra rn rc]) rfl (by kernel_rfl) (by kernel_rfl) (by kernel_rfl) (by kernel_rfl) (by kernel_rfl) (fun _ _ _ h => h) (.inl ⟨rfl, fun u hu => (by go_simp)⟩) kX ?_
                    refine U_step (j := 11) (by kernel_rfl) rfl (fun K hK => ?_)
                    obtain ⟨⟨e1, e2⟩, e3, e4⟩ := kq.two
                    go_simp
                    replace kq := kq.set2 (.bool qg) (.slice qa qn qc)
                    replace kr := kr.set2_ne (hne.symm) (.bool qg) (.slice qa qn qc)
                    replace kX := kX.set2_ne (b := bq) (by omega) (.bool qg) (.slice qa qn qc)
                    replace hq := hq.set2n nqq (.bool qg) (.slice qa qn qc)
                    replace hr := hr.set2n nrq (.bool qg) (.slice qa qn qc)
                    replace hb := (hb.setCell (p := ⟨bq, 0, none⟩) (by show w.heap.size ≤ bq; omega) (.bool qg)).setCell (p := ⟨bq, 1, none⟩) (by show w.heap.size ≤ bq; omega) (.slice qa qn qc)
                    refine hK.out _ _ (.inr kX) ?_
                    clear hK K e1 e2 e3 e4
                    refine U_step (j := 12) (by kernel_rfl) rfl (fun K hK => ?_)
                    obtain ⟨⟨e1, e2⟩, e3, e4⟩ := kr.two
                    go_simp
                    replace kr := kr.set2 (.bool rg) (.slice ra rn rc)
                    replace kq := kq.set2_ne (hne) (.bool rg) (.slice ra rn rc)
                    replace kX := kX.set2_ne (b := br) (by omega) (.bool rg) (.slice ra rn rc)
                    replace hq := hq.set2n nqr (.bool rg) (.slice ra rn rc)
                    replace hr := hr.set2n nrr (.bool rg) (.slice ra rn rc)
                    replace hb := (hb.setCell (p := ⟨br, 0, none⟩) (by show w.heap.size ≤ br; omega) (.bool rg)).setCell (p := ⟨br, 1, none⟩) (by show w.heap.size ≤ br; omega) (.slice ra rn rc)
                    refine hK.out _ _ (.inl rfl) ?_
                    clear hK K e1 e2 e3 e4
                    refine U_done (by kernel_rfl) ?_ _
                    exact ⟨bq, br, qg, qa, qn, qc, rg, ra, rn, rc, zg, za, zn, zc, rfl, kq, kr, hq, hr, szq, szr, hb⟩
                · go_simp
                  have gg : Below wd.heap.size wd (wd.alloc (.cells #[.bool false, .slice none 0 0] 56)) := (Below.refl _ _).alloc (Nat.le_refl _) _
                  have kr := Blk.new wd #[.bool false, .slice none 0 0] 56
                  have szr := hb.size
                  have nxrkX := kX.lt
                  replace hb := hb.trans (gg.mono hb.size)
                  replace kX := kX.later gg
                  replace hx := hx.below gg
                  clear gg
                  refine hK.out _ _ (.inr kX) ?_
                  clear hK K
                  generalize wd.alloc (.cells #[.bool false, .slice none 0 0] 56) = v3 at *
                  generalize wd.heap.size = br at *
                  refine U_two (j1 := 4) (j2 := 9) (by kernel_rfl) rfl rfl (fun K hK => ?_) (fun K hK => ?_)
                  · go_simp
                    have hc := fun w => hid (two_fn' m hmk w)
                    (with_reducible refine (hc _).out.mono ?_); rintro e v4 ⟨z, rfl, hz, gg⟩
                    clear hc
                    replace hz := hz.num
                    replace hb := hb.trans (gg.mono hb.size)
                    replace kX := kX.later gg
                    replace kr := kr.later gg
                    replace hx := hx.below gg
                    obtain ⟨zg, za, zn, zc, rfl⟩ := hz.shape4
                    clear gg
                    refine hK.out _ _ (.inr kX) ?_
                    clear hK K
                    refine U_two (j1 := 5) (j2 := 9) (by kernel_rfl) rfl rfl (fun K hK => ?_) (fun K hK => ?_)
                    · go_simp
                      have hc := hid (divR_fn hx hz (by rw [HLe.out]; omega) (by rw [Int.natAbs_natCast]; have := dlen_two m; omega) (hne0))
                      (with_reducible refine hc.out.mono ?_); rintro e v5 ⟨q, r, rfl, hq, hr, gg⟩
                      clear hc
                      have nqr := hq.notin (b := br) (by have := kr.lt; omega)
                      have nrr := hr.notin (b := br) (by have := kr.lt; omega)
                      have hszd := hb.size
                      replace hq := hq.mono hszd
                      replace hr := hr.mono hszd
                      replace hb := hb.trans (gg.mono hb.size)
                      replace kX := kX.later gg
                      replace kr := kr.later gg
                      replace hx := hx.below gg
                      replace hz := hz.below gg
                      obtain ⟨qg, qa, qn, qc, rfl⟩ := hq.num.shape4
                      obtain ⟨rg, ra, rn, rc, rfl⟩ := hr.num.shape4
                      clear gg
                      refine hK.out _ _ (.inr kX) ?_
                      clear hK K
                      refine U_take2 5 (i := 6) (v := .tuple #[.agg #[.bool qg, .slice qa qn qc], .agg #[.bool rg, .slice ra rn rc]]) rfl (by kernel_rfl) (by kernel_rfl) (by kernel_rfl) (by kernel_rfl) (by kernel_rfl) (fun _ _ _ h => h) (.inl ⟨rfl, fun u hu => (by go_simp)⟩) kX ?_
                      refine U_take2 5 (i := 7) (v := .agg #[.bool qg, .slice qa qn qc]) rfl (by kernel_rfl) (by kernel_rfl) (by kernel_rfl) (by kernel_rfl) (by kernel_rfl) (fun _ _ _ h => h) (.inl ⟨rfl, fun u hu => (by go_simp)⟩) kX ?_
                      refine U_take2 5 (i := 8) (v := .agg #[.bool rg, .slice ra rn rc]) rfl (by kernel_rfl) (by kernel_rfl) (by kernel_rfl) (by kernel_rfl) (by kernel_rfl) (fun _ _ _ h => h) (.inl ⟨rfl, fun u hu => (by go_simp)⟩) kX ?_
                      refine U_step (j := 9) (by kernel_rfl) rfl (fun K hK => ?_)
                      go_simp
                      have gg : Below v5.heap.size v5 (v5.alloc (.cells #[.bool false, .slice none 0 0] 56)) := (Below.refl _ _).alloc (Nat.le_refl _) _
                      have kq := Blk.new v5 #[.bool false, .slice none 0 0] 56
                      have szq := hb.size
                      have nxqkX := kX.lt
                      have hne : br ≠ v5.heap.size := by have := kr.lt; omega
                      have nqq := hq.notin_new (b := v5.heap.size) (Nat.le_refl _)
                      have nrq := hr.notin_new (b := v5.heap.size) (Nat.le_refl _)
                      replace hb := hb.trans (gg.mono hb.size)
                      replace kX := kX.later gg
                      replace kr := kr.later gg
                      replace hx := hx.below gg
                      replace hz := hz.below gg
                      replace hq := hq.keep gg
                      replace hr := hr.keep gg
                      clear gg
                      refine hK.out _ _ (.inr kX) ?_
                      clear hK K
                      generalize v5.alloc (.cells #[.bool false, .slice none 0 0] 56) = v6 at *
                      generalize v5.heap.size = bq at *
                      refine U_step (j := 11) (by kernel_rfl) rfl (fun K hK => ?_)
                      obtain ⟨⟨e1, e2⟩, e3, e4⟩ := kq.two
                      go_simp
                      replace kq := kq.set2 (.bool qg) (.slice qa qn qc)
                      replace kr := kr.set2_ne (hne) (.bool qg) (.slice qa qn qc)
                      replace kX := kX.set2_ne (b := bq) (by omega) (.bool qg) (.slice qa qn qc)
                      replace hq := hq.set2n nqq (.bool qg) (.slice qa qn qc)
                      replace hr := hr.set2n nrq (.bool qg) (.slice qa qn qc)
                      replace hb := (hb.setCell (p := ⟨bq, 0, none⟩) (by show w.heap.size ≤ bq; omega) (.bool qg)).setCell (p := ⟨bq, 1, none⟩) (by show w.heap.size ≤ bq; omega) (.slice qa qn qc)
                      refine hK.out _ _ (.inr kX) ?_
                      clear hK K e1 e2 e3 e4
                      refine U_step (j := 12) (by kernel_rfl) rfl (fun K hK => ?_)
                      obtain ⟨⟨e1, e2⟩, e3, e4⟩ := kr.two
                      go_simp
                      replace kr := kr.set2 (.bool rg) (.slice ra rn rc)
                      replace kq := kq.set2_ne (hne.symm) (.bool rg) (.slice ra rn rc)
                      replace kX := kX.set2_ne (b := br) (by omega) (.bool rg) (.slice ra rn rc)
                      replace hq := hq.set2n nqr (.bool rg) (.slice ra rn rc)
                      replace hr := hr.set2n nrr (.bool rg) (.slice ra rn rc)
                      replace hb := (hb.setCell (p := ⟨br, 0, none⟩) (by show w.heap.size ≤ br; omega) (.bool rg)).setCell (p := ⟨br, 1, none⟩) (by show w.heap.size ≤ br; omega) (.slice ra rn rc)
                      refine hK.out _ _ (.inl rfl) ?_
                      clear hK K e1 e2 e3 e4
                      refine U_done (by kernel_rfl) ?_ _
                      exact ⟨bq, br, qg, qa, qn, qc, rg, ra, rn, rc, zg, za, zn, zc, rfl, kq, kr, hq, hr, szq, szr, hb⟩
                    · go_simp
                      have gg : Below v4.heap.size v4 (v4.alloc (.cells #[.bool false, .slice none 0 0] 56)) := (Below.refl _ _).alloc (Nat.le_refl _) _
                      have kq := Blk.new v4 #[.bool false, .slice none 0 0] 56
                      have szq := hb.size
                      have nxqkX := kX.lt
                      have hne : br ≠ v4.heap.size := by have := kr.lt; omega
                      replace hb := hb.trans (gg.mono hb.size)
                      replace kX := kX.later gg
                      replace kr := kr.later gg
                      replace hx := hx.below gg
                      replace hz := hz.below gg
                      clear gg
                      refine hK.out _ _ (.inr kX) ?_
                      clear hK K
                      generalize v4.alloc (.cells #[.bool false, .slice none 0 0] 56) = v5 at *
                      generalize v4.heap.size = bq at *
                      refine U_step (j := 5) (by kernel_rfl) rfl (fun K hK => ?_)
                      go_simp
                      have hc := hid (divR_fn hx hz (by rw [HLe.out]; omega) (by rw [Int.natAbs_natCast]; have := dlen_two m; omega) (hne0))
                      (with_reducible refine hc.out.mono ?_); rintro e v6 ⟨q, r, rfl, hq, hr, gg⟩
                      clear hc
                      have nqr := hq.notin (b := br) (by have := kr.lt; omega)
                      have nrr := hr.notin (b := br) (by have := kr.lt; omega)
                      have nqq := hq.notin (b := bq) (by have := kq.lt; omega)
                      have nrq := hr.notin (b := bq) (by have := kq.lt; omega)
                      have hszd := hb.size
                      replace hq := hq.mono hszd
                      replace hr := hr.mono hszd
                      replace hb := hb.trans (gg.mono hb.size)
                      replace kX := kX.later gg
                      replace kr := kr.later gg
                      replace kq := kq.later gg
                      replace hx := hx.below gg
                      replace hz := hz.below gg
                      obtain ⟨qg, qa, qn, qc, rfl⟩ := hq.num.shape4
                      obtain ⟨rg, ra, rn, rc, rfl⟩ := hr.num.shape4
                      clear gg
                      refine hK.out _ _ (.inr kX) ?_
                      clear hK K
                      refine U_take2 5 (i := 6) (v := .tuple #[.agg #[.bool qg, .slice qa qn qc], .agg #[.bool rg, .slice ra rn rc]]) rfl (by kernel_rfl) (by kernel_rfl) (by kernel_rfl) (by kernel_rfl) (by kernel_rfl) (fun _ _ _ h => h) (.inl ⟨rfl, fun u hu => (by go_simp)⟩) kX ?_
                      refine U_take2 5 (i := 7) (v := .agg #[.bool qg, .slice qa qn qc]) rfl (by kernel_rfl) (by kernel_rfl) (by kernel_rfl) (by kernel_rfl) (by kernel_rfl) (fun _ _ _ h => h) (.inl ⟨rfl, fun u hu => (by go_simp)⟩) kX ?_
                      refine U_take2 5 (i := 8) (v := .agg #[.bool rg, .slice ra rn rc]) rfl (by kernel_rfl) (by kernel_rfl) (by kernel_rfl) (by kernel_rfl) (by kernel_rfl) (fun _ _ _ h => h) (.inl ⟨rfl, fun u hu => (by go_simp)⟩) kX ?_
                      refine U_step (j := 11) (by kernel_rfl) rfl (fun K hK => ?_)
                      obtain ⟨⟨e1, e2⟩, e3, e4⟩ := kq.two
                      go_simp
                      replace kq := kq.set2 (.bool qg) (.slice qa qn qc)
                      replace kr := kr.set2_ne (hne) (.bool qg) (.slice qa qn qc)
                      replace kX := kX.set2_ne (b := bq) (by omega) (.bool qg) (.slice qa qn qc)
                      replace hq := hq.set2n nqq (.bool qg) (.slice qa qn qc)
                      replace hr := hr.set2n nrq (.bool qg) (.slice qa qn qc)
                      replace hb := (hb.setCell (p := ⟨bq, 0, none⟩) (by show w.heap.size ≤ bq; omega) (.bool qg)).setCell (p := ⟨bq, 1, none⟩) (by show w.heap.size ≤ bq; omega) (.slice qa qn qc)
                      refine hK.out _ _ (.inr kX) ?_
                      clear hK K e1 e2 e3 e4
                      refine U_step (j := 12) (by kernel_rfl) rfl (fun K hK => ?_)
                      obtain ⟨⟨e1, e2⟩, e3, e4⟩ := kr.two
                      go_simp
                      replace kr := kr.set2 (.bool rg) (.slice ra rn rc)
                      replace kq := kq.set2_ne (hne.symm) (.bool rg) (.slice ra rn rc)
                      replace kX := kX.set2_ne (b := br) (by omega) (.bool rg) (.slice ra rn rc)
                      replace hq := hq.set2n nqr (.bool rg) (.slice ra rn rc)
                      replace hr := hr.set2n nrr (.bool rg) (.slice ra rn rc)
                      replace hb := (hb.setCell (p := ⟨br, 0, none⟩) (by show w.heap.size ≤ br; omega) (.bool rg)).setCell (p := ⟨br, 1, none⟩) (by show w.heap.size ≤ br; omega) (.slice ra rn rc)
                      refine hK.out _ _ (.inl rfl) ?_
                      clear hK K e1 e2 e3 e4
                      refine U_done (by kernel_rfl) ?_ _
                      exact ⟨bq, br, qg, qa, qn, qc, rg, ra, rn, rc, zg, za, zn, zc, rfl, kq, kr, hq, hr, szq, szr, hb⟩
                  · go_simp
                    have gg : Below v3.heap.size v3 (v3.alloc (.cells #[.bool false, .slice none 0 0] 56)) := (Below.refl _ _).alloc (Nat.le_refl _) _
                    have kq := Blk.new v3 #[.bool false, .slice none 0 0] 56
                    have szq := hb.size
                    have nxqkX := kX.lt
                    have hne : br ≠ v3.heap.size := by have := kr.lt; omega
                    replace hb := hb.trans (gg.mono hb.size)
                    replace kX := kX.later gg
                    replace kr := kr.later gg
                    replace hx := hx.below gg
                    clear gg
                    refine hK.out _ _ (.inr kX) ?_
                    clear hK K
                    generalize v3.alloc (.cells #[.bool false, .slice none 0 0] 56) = v4 at *
                    generalize v3.heap.size = bq at *
                    refine U_step (j := 4) (by kernel_rfl) rfl (fun K hK => ?_)
                    go_simp
                    have hc := fun w => hid (two_fn' m hmk w)
                    (with_reducible refine (hc _).out.mono ?_); rintro e v5 ⟨z, rfl, hz, gg⟩
                    clear hc
                    replace hz := hz.num
                    replace hb := hb.trans (gg.mono hb.size)
                    replace kX := kX.later gg
                    replace kr := kr.later gg
                    replace kq := kq.later gg
                    replace hx := hx.below gg
                    obtain ⟨zg, za, zn, zc, rfl⟩ := hz.shape4
                    clear gg
                    refine hK.out _ _ (.inr kX) ?_
                    clear hK K
                    refine U_step (j := 5) (by kernel_rfl) rfl (fun K hK => ?_)
                    go_simp
                    have hc := hid (divR_fn hx hz (by rw [HLe.out]; omega) (by rw [Int.natAbs_natCast]; have := dlen_two m; omega) (hne0))
                    (with_reducible refine hc.out.mono ?_); rintro e v6 ⟨q, r, rfl, hq, hr, gg⟩
                    clear hc
                    have nqr := hq.notin (b := br) (by have := kr.lt; omega)
                    have nrr := hr.notin (b := br) (by have := kr.lt; omega)
                    have nqq := hq.notin (b := bq) (by have := kq.lt; omega)
                    have nrq := hr.notin (b := bq) (by have := kq.lt; omega)
                    have hszd := hb.size
                    replace hq := hq.mono hszd
                    replace hr := hr.mono hszd
                    replace hb := hb.trans (gg.mono hb.size)
                    replace kX := kX.later gg
                    replace kr := kr.later gg
                    replace kq := kq.later gg
                    replace hx := hx.below gg
                    replace hz := hz.below gg
                    obtain ⟨qg, qa, qn, qc, rfl⟩ := hq.num.shape4
                    obtain ⟨rg, ra, rn, rc, rfl⟩ := hr.num.shape4
                    clear gg
                    refine hK.out _ _ (.inr kX) ?_
                    clear hK K
                    refine U_take2 5 (i := 6) (v := .tuple #[.agg #[.bool qg, .slice qa qn qc], .agg #[.bool rg, .slice ra rn rc]]) rfl (by kernel_rfl) (by kernel_rfl) (by kernel_rfl) (by kernel_rfl) (by kernel_rfl) (fun _ _ _ h => h) (.inl ⟨rfl, fun u hu => (by go_simp)⟩) kX ?_
                    refine U_take2 5 (i := 7) (v := .agg #[.bool qg, .slice qa qn qc]) rfl (by kernel_rfl) (by kernel_rfl) (by kernel_rfl) (by kernel_rfl) (by kernel_rfl) (fun _ _ _ h => h) (.inl ⟨rfl, fun u hu => (by go_simp)⟩) kX ?_
                    refine U_take2 5 (i := 8) (v := .agg #[.bool rg, .slice ra rn rc]) rfl (by kernel_rfl) (by kernel_rfl) (by kernel_rfl) (by kernel_rfl) (by kernel_rfl) (fun _ _ _ h => h) (.inl ⟨rfl, fun u hu => (by go_simp)⟩) kX ?_
                    refine U_step (j := 11) (by kernel_rfl) rfl (fun K hK => ?_)
                    obtain ⟨⟨e1, e2⟩, e3, e4⟩ := kq.two
                    go_simp
                    replace kq := kq.set2 (.bool qg) (.slice qa qn qc)
                    replace kr := kr.set2_ne (hne) (.bool qg) (.slice qa qn qc)
                    replace kX := kX.set2_ne (b := bq) (by omega) (.bool qg) (.slice qa qn qc)
                    replace hq := hq.set2n nqq (.bool qg) (.slice qa qn qc)
                    replace hr := hr.set2n nrq (.bool qg) (.slice qa qn qc)
                    replace hb := (hb.setCell (p := ⟨bq, 0, none⟩) (by show w.heap.size ≤ bq; omega) (.bool qg)).setCell (p := ⟨bq, 1, none⟩) (by show w.heap.size ≤ bq; omega) (.slice qa qn qc)
                    refine hK.out _ _ (.inr kX) ?_
                    clear hK K e1 e2 e3 e4
                    refine U_step (j := 12) (by kernel_rfl) rfl (fun K hK => ?_)
                    obtain ⟨⟨e1, e2⟩, e3, e4⟩ := kr.two
                    go_simp
                    replace kr := kr.set2 (.bool rg) (.slice ra rn rc)
                    replace kq := kq.set2_ne (hne.symm) (.bool rg) (.slice ra rn rc)
                    replace kX := kX.set2_ne (b := br) (by omega) (.bool rg) (.slice ra rn rc)
                    replace hq := hq.set2n nqr (.bool rg) (.slice ra rn rc)
                    replace hr := hr.set2n nrr (.bool rg) (.slice ra rn rc)
                    replace hb := (hb.setCell (p := ⟨br, 0, none⟩) (by show w.heap.size ≤ br; omega) (.bool rg)).setCell (p := ⟨br, 1, none⟩) (by show w.heap.size ≤ br; omega) (.slice ra rn rc)
                    refine hK.out _ _ (.inl rfl) ?_
                    clear hK K e1 e2 e3 e4
                    refine U_done (by kernel_rfl) ?_ _
                    exact ⟨bq, br, qg, qa, qn, qc, rg, ra, rn, rc, zg, za, zn, zc, rfl, kq, kr, hq, hr, szq, szr, hb⟩
              case hr =>
                rintro bq br qg qa qn qc rg ra rn rc zg za zn zc w8 ⟨kq, kr, hq, hr, szq, szr, hb8⟩
                have hc := hid (told_fn hq.num hql (Nums.nil _) (fun x h => by cases h) (by decide))
                rw [toldRes_nil] at hc
                obtain ⟨⟨e1, e2⟩, _⟩ := kq.two
                go_wp2_with fail
                (with_reducible refine hc.out.mono ?_); rintro e w6 ⟨rfl, gg⟩
                replace hb8 := hb8.trans (gg.mono hb8.size)
                go_wp2
                go_ret2
                exact ⟨by rw [HR4.out]; rfl, hb8⟩
end Go.Proofs.YtkhgoeippamobaaGreatDoor
/-
  The reference: And, Or, Xor.
-/
namespace Go.Proofs.YtkhgoeippamobaaGreatDoor
open Go.RowKit
theorem zb_same (f : Nat → Nat → Nat) (g : Bool → Bool → Bool) (hf : BitLike f) (hg : BitBy f g) (x y : Int) (m j : Nat) (hj : m ≤ j)
    (lx : -((2 ^ m : Nat) : Int) ≤ x) (ux : x < ((2 ^ m : Nat) : Int)) (ly : -((2 ^ m : Nat) : Int) ≤ y) (uy : y < ((2 ^ m : Nat) : Int)) : zb (bitI f x y) j = zb (bitI f x y) m := by
  rw [zb_bitI f g hf hg, zb_bitI f g hf hg, zb_far x m j m hj (Nat.le_refl _) lx ux, zb_far y m j m hj (Nat.le_refl _) ly uy]
theorem zq_bound (z : Int) (i : Nat) (b : Bool) (h : zq z i = if b = true then -1 else 0) : z.natAbs ≤ 2 ^ i := by
  have hp := Nat.two_pow_pos i
  unfold zq at h
  have hd := Int.mul_ediv_add_emod z ((2 ^ i : Nat) : Int)
  have h1 := Int.emod_nonneg z (show ((2 ^ i : Nat) : Int) ≠ 0 by omega)
  have h2 := Int.emod_lt_of_pos z (show (0 : Int) < ((2 ^ i : Nat) : Int) by omega)
  rw [h] at hd
  generalize 2 ^ i = p at *
  cases b
  · simp at hd; omega
  · simp at hd; omega
theorem abs_two (x : Int) (L : Nat) (h : dlen 10 x.natAbs ≤ L) : -((2 ^ (4 * L) : Nat) : Int) ≤ x ∧ x < ((2 ^ (4 * L) : Nat) : Int) := by
  have h1 := (dlen_le_iff 10 x.natAbs L (by decide)).1 h
  have h2 := dec_two L
  generalize 2 ^ (4 * L) = p at *
  generalize 10 ^ L = q at *
  omega
/-- what 'of' needs to know of a result's bits -/
theorem of_ready (f : Nat → Nat → Nat) (g : Bool → Bool → Bool) (hf : BitLike f) (hg : BitBy f g) (x y : Int) (L : Nat) (hx : dlen 10 x.natAbs ≤ L) (hy : dlen 10 y.natAbs ≤ L) :
    zq (bitI f x y) (4 * L + 2) = (if (bitsL (bitI f x y) (4 * L + 2)).getD (4 * L + 2 - 1) false = true then -1 else 0) ∧ dlen 10 (bitI f x y).natAbs ≤ 4 * L + 3 := by
  obtain ⟨lx, ux⟩ := abs_two x L hx
  obtain ⟨ly, uy⟩ := abs_two y L hy
  have h1 := zq_top f g hf hg x y (4 * L) (4 * L + 2) (by omega) lx ux ly uy
  have h2 := zb_same f g hf hg x y (4 * L) (4 * L + 2 - 1) (by omega) lx ux ly uy
  have h3 := zq_bound _ _ _ h1
  refine ⟨?_, Nat.le_trans (dlen_mono _ _ h3) (dlen_two _)⟩
  rw [bitsL_get _ _ _ (by omega), h2]
  exact h1
theorem app_bool_op {w : World} {o : Oper} {a : Act} {K : Act → World → Prop} {Q : Exit → Act → World → Prop} (s x : Operand)
    (ho : o.op = .call { callee := .builtin .append, args := #[s, x], argTypes := #[112, 112] })
    (base : Nat) (v : Value) (l : List Bool) (hs : a.eval s = v) (hown : OwnB w base v l)
    (X y : Bool) (hx : a.eval x = .slice (some ⟨w.heap.size, 0, none⟩) 1 1) (hX : X = y) (hn : l.length ≤ 1000000000000) (hbase : base ≤ w.heap.size)
    (h : ∀ v' w', OwnB w' base v' (l ++ [y]) → Below base w w' → K (a.put o.dst v') w') :
    o.wp Tryz.prog a (w.alloc (.cells #[.bool X] 4)) K Q := by
  subst hX
  obtain ⟨i0, hi, hz0, hz1, hz2⟩ := info_parts Tryz.infoBool
  refine wp_append_own _ s x 112 ho base 4 i0 (.bool false) 1 1 Tryz.underlying112 hi hz0 hz1 hz2 rfl (by decide) v l.length _ hs (World.ownsRow.alloc hown _)
    ⟨w.heap.size, 0, none⟩ 1 1 [.bool X] hx rfl (cell_one_new _ _ _) (by intro u hu; simp at hu; subst hu; rfl) (by unfold maxLen; omega) (by omega) (by simp; omega) ?_
  intro v' w' hown' hgrow _
  refine h v' w' (by unfold OwnB; rw [List.map_append, List.length_append]; exact hown') ?_
  refine (((Below.refl base w).alloc hbase _).grown hgrow (by simp; omega) ?_)
  intro k hk
  obtain ⟨hl, ⟨hv, h0⟩ | ⟨g, cap, cur, hv, hg, hr⟩⟩ := hown
  · subst hv; cases hk
  · subst hv
    simp [Value.ownBlock] at hk
    omega
set_option maxRecDepth 100000 in
set_option maxHeartbeats 4000000 in
theorem andR_bit (a b : List UInt8) (ha : a.length ≤ 2000000) (hb : b.length ≤ 2000000) (w : World) :
    Calls Tryz.prog 109 #[.string ⟨a.toArray⟩, .string ⟨b.toArray⟩, .int .i64 0] w fun e w' => e = .returned (.tuple #[.string ⟨(andRes a b).1.toArray⟩, .int .i64 (andRes a b).2]) ∧ Below w.heap.size w w' := by
  have hB := hid (both_fn a b ha hb w)
  unfold BothQ at hB
  clear ha hb
  by_cases hok : pOK a = true ∧ pOK b = true
  case neg =>
    have hf : (pOK a && pOK b) = false := by
      cases h1 : pOK a <;> cases h2 : pOK b <;> simp_all
    have HR := hid (show andRes a b = ([], 2) by exact neg_two hok)
    rw [hf] at hB
    have hB := hid hB.out
    clear hok hf
    go_enter Tryz.func109, Tryz.ntmps109
    go_wp2_with fail
    (with_reducible refine hB.out.mono ?_); rintro e w1 ⟨g1, s1, n1, c1, g2, s2, n2, c2, rfl, hb1, -⟩
    have hsz := hb1.size
    go_wp2
    go_ret2
    exact ⟨by rw [HR.out]; rfl, (hb1.alloc hsz _).alloc (by simp; omega) _⟩
  case pos =>
    have HR := hid (show andRes a b = if big600 ≤ (pVal a).natAbs ∨ big600 ≤ (pVal b).natAbs then ([], 4) else resOf (bitI (· &&& ·) (pVal a) (pVal b)) by unfold andRes twoRes; rw [if_pos hok, if_neg (by simp)])
    obtain ⟨oa, ob⟩ := hok
    rw [oa, ob] at hB
    have hB := hid hB.out
    go_enter Tryz.func109, Tryz.ntmps109
    go_wp2_with fail
    (with_reducible refine hB.out.mono ?_); rintro e w1 ⟨g1, s1, n1, c1, g2, s2, n2, c2, rfl, hb, hn⟩
    obtain ⟨⟨x', hx, hlx, hcx⟩, ⟨y', hy, hly, hcy⟩⟩ := hn (by first | rfl | trivial)
    have HAB := hid (anyBig_two hcx hcy)
    have HCX := hid hcx.small
    have HCY := hid hcy.small
    have HCYB := hid hcy
    clear hn hB oa ob hcx hcy
    have kX := Blk.new w1 #[.bool g1, .slice s1 n1 c1] 56
    have kY := Blk.new (w1.alloc (.cells #[.bool g1, .slice s1 n1 c1] 56)) #[.bool g2, .slice s2 n2 c2] 56
    simp only [World.size_alloc] at kY
    have kX := kX.alloc (.cells #[.bool g2, .slice s2 n2 c2] 56)
    have gg : Below w1.heap.size w1 ((w1.alloc (.cells #[.bool g1, .slice s1 n1 c1] 56)).alloc (.cells #[.bool g2, .slice s2 n2 c2] 56)) := ((Below.refl _ _).alloc (Nat.le_refl _) _).alloc (by simp) _
    have hx := hx.below gg
    have hy := hy.below gg
    have hb := hb.trans (gg.mono hb.size)
    clear gg
    have kN := Blk.new ((w1.alloc (.cells #[.bool g1, .slice s1 n1 c1] 56)).alloc (.cells #[.bool g2, .slice s2 n2 c2] 56)) #[.bool g1, .slice s1 n1 c1, .bool g2, .slice s2 n2 c2] 56
    have gg : Below ((w1.alloc (.cells #[.bool g1, .slice s1 n1 c1] 56)).alloc (.cells #[.bool g2, .slice s2 n2 c2] 56)).heap.size ((w1.alloc (.cells #[.bool g1, .slice s1 n1 c1] 56)).alloc (.cells #[.bool g2, .slice s2 n2 c2] 56)) (((w1.alloc (.cells #[.bool g1, .slice s1 n1 c1] 56)).alloc (.cells #[.bool g2, .slice s2 n2 c2] 56)).alloc (.cells #[.bool g1, .slice s1 n1 c1, .bool g2, .slice s2 n2 c2] 56)) := (Below.refl _ _).alloc (Nat.le_refl _) _
    obtain ⟨⟨p1, p2⟩, q1, q2⟩ := kX.two
    obtain ⟨⟨p3, p4⟩, q3, q4⟩ := kY.two
    have hx := hx.below gg
    have hy := hy.below gg
    have hb := hb.trans (gg.mono hb.size)
    have hN := Nums.mk2 kN hx hy
    have kX := kX.later gg
    have kY := kY.later gg
    simp only [World.size_alloc] at hN
    have hsc := hid (short_fn hN (fun x hm => by simp at hm; rcases hm with rfl | rfl <;> omega) (by simp))
    rw [HAB.out] at hsc
    clear gg kN hN
    go_wp2_with fail
    (with_reducible refine hsc.out.mono ?_); rintro e w2 ⟨rfl, gg⟩
    have hx := hx.below gg
    have hy := hy.below gg
    have hb := hb.trans (gg.mono hb.size)
    have kX := kX.later gg
    have kY := kY.later gg
    clear p1 p2 p3 p4 q1 q2 q3 q4 hsc gg
    generalize w1.heap.size = B1 at *
    by_cases hbig : big600 ≤ (pVal a).natAbs ∨ big600 ≤ (pVal b).natAbs
    · have hT : (!(decide (big600 ≤ (pVal a).natAbs) || decide (big600 ≤ (pVal b).natAbs))) = false := by
        rcases hbig with h | h <;> rw [decide_eq_true h] <;> simp
      have HR2 := hid (show andRes a b = ([], 4) by rw [HR.out, if_pos hbig])
      rw [hT]
      clear hbig hT
      go_wp2
      go_ret2
      exact ⟨by rw [HR2.out]; rfl, hb⟩
    · have hT : (!(decide (big600 ≤ (pVal a).natAbs) || decide (big600 ≤ (pVal b).natAbs))) = true := by
        rw [decide_eq_false (show ¬ big600 ≤ (pVal a).natAbs by omega), decide_eq_false (show ¬ big600 ≤ (pVal b).natAbs by omega)]; rfl
      have ex : x' = pVal a := HCX.out (by omega)
      have ey : y' = pVal b := HCY.out (by omega)
      have hdx : dlen 10 x'.natAbs ≤ 600 := (digits_600 _).2 (by rw [ex]; omega)
      have hdy : dlen 10 y'.natAbs ≤ 600 := (digits_600 _).2 (by rw [ey]; omega)
      have EX := hid ex
      have EY := hid ey
      have HBIG := hid hbig
      obtain ⟨⟨p1, p2⟩, q1, q2⟩ := kX.two
      obtain ⟨⟨p3, p4⟩, q3, q4⟩ := kY.two
      rw [hT]
      clear hbig hT ex ey
      have HR2 := hid (show andRes a b = resOf (bitI (· &&& ·) x' y') by rw [HR.out, if_neg HBIG.out, EX.out, EY.out])
      obtain ⟨eg1, en1⟩ := hx.parts
      obtain ⟨eg2, en2⟩ := hy.parts
      have hn1 : n1 ≤ 600 := by omega
      have hn2 : n2 ≤ 600 := by omega
      have HN1 := hid en1
      have HN2 := hid en2
      clear eg1 eg2 en1 en2
      obtain ⟨M, hM, hM1⟩ : ∃ M : Nat, max (n1 : Int) (n2 : Int) = (M : Int) ∧ (n1 ≤ M ∧ n2 ≤ M ∧ M ≤ 600) := ⟨max n1 n2, by omega, by omega⟩
      obtain ⟨hM1, hM2, hM3⟩ := hM1
      have hw4 : IntKind.i64.wrap (4 * (M : Int)) = 4 * (M : Int) := by simp [IntKind.wrap, IntKind.bits, IntKind.signed]; omega
      obtain ⟨C, hC, hCM⟩ : ∃ C : Nat, 4 * (M : Int) + 2 = (C : Int) ∧ C = 4 * M + 2 := ⟨4 * M + 2, by omega, rfl⟩
      have hw5 : IntKind.i64.wrap (C : Int) = (C : Int) := by simp [IntKind.wrap, IntKind.bits, IntKind.signed]; omega
      have HOF := hid (of_ready (· &&& ·) (fun a b => a && b) bl_and by_and x' y' M (by rw [← HN1.out]; omega) (by rw [← HN2.out]; omega))
      have HZB := hid (fun i => zb_bitI (· &&& ·) (fun a b => a && b) bl_and by_and x' y' i)
      generalize bitI (· &&& ·) x' y' = Z at *
      have hCl : C ≤ 100000 := by omega
      have HCM := hid hCM
      clear hCM
      rw [← HCM.out] at HOF
      go_wp2_with fail
      clear p1 p2 p3 p4 q1 q2 q3 q4 hw4 hM
      replace kX := kX.drew
      replace kY := kY.drew
      replace hx := hx.below ((Below.refl w2.heap.size w2).drew)
      replace hy := hy.below ((Below.refl w2.heap.size w2).drew)
      replace hb := hb.drew
      refine U_begin (late := fun i => decide (6 ≤ i)) (S := fun u => Blk u B1 #[.bool g1, .slice s1 n1 c1] 56 ∧ Blk u (B1 + 1) #[.bool g2, .slice s2 n2 c2] 56) (by kernel_rfl) ?_
      generalize w2.drew = wd at *
      refine U_take2 4 (i := 0) (v := .agg #[.bool g1, .slice s1 n1 c1]) rfl (by kernel_rfl) (by kernel_rfl) (by kernel_rfl) (by kernel_rfl) (by kernel_rfl) (fun _ _ _ h => h) (.inl ⟨rfl, fun u hu => (by obtain ⟨⟨h1, h2⟩, _⟩ := hu.1.two; go_simp)⟩) ⟨kX, kY⟩ ?_
      refine U_take2 4 (i := 1) (v := .int .i64 C) rfl (by kernel_rfl) (by kernel_rfl) (by kernel_rfl) (by kernel_rfl) (by kernel_rfl) (fun _ _ _ h => h) (.inl ⟨rfl, fun u hu => (by go_simp)⟩) ⟨kX, kY⟩ ?_
      refine U_take2 4 (i := 3) (v := .agg #[.bool g2, .slice s2 n2 c2]) rfl (by kernel_rfl) (by kernel_rfl) (by kernel_rfl) (by kernel_rfl) (by kernel_rfl) (fun _ _ _ h => h) (.inl ⟨rfl, fun u hu => (by obtain ⟨⟨h1, h2⟩, _⟩ := hu.2.two; go_simp)⟩) ⟨kX, kY⟩ ?_
      refine U_take2 4 (i := 4) (v := .int .i64 C) rfl (by kernel_rfl) (by kernel_rfl) (by kernel_rfl) (by kernel_rfl) (by kernel_rfl) (fun _ _ _ h => h) (.inl ⟨rfl, fun u hu => (by go_simp)⟩) ⟨kX, kY⟩ ?_
      refine U_step (j := 2) (by kernel_rfl) rfl (fun K hK => ?_)
      go_simp
      have hc := hid (bits_fn' hx (by rw [← HN1.out]; omega) C hCl)
      (with_reducible refine hc.out.mono ?_); rintro e w3 ⟨lv, rfl, hlv, gg⟩
      clear hc
      replace hy := hy.below gg
      replace hb := hb.trans (gg.mono hb.size)
      replace kX := kX.later gg
      replace kY := kY.later gg
      refine hK.out _ _ (.inr ⟨kX, kY⟩) ?_
      clear hK K gg
      refine U_step (j := 5) (by kernel_rfl) rfl (fun K hK => ?_)
      go_simp
      have hc := hid (bits_fn' hy (by rw [← HN2.out]; omega) C hCl)
      (with_reducible refine hc.out.mono ?_); rintro e w4 ⟨mv, rfl, hmv, gg⟩
      clear hc
      replace hlv := hlv.keep gg
      replace hb := hb.trans (gg.mono hb.size)
      replace kX := kX.later gg
      replace kY := kY.later gg
      refine hK.out _ _ (.inr ⟨kX, kY⟩) ?_
      clear hK K gg
      refine U_step (j := 6) (by kernel_rfl) rfl (fun K hK => ?_)
      go_simp
      refine hK.out _ _ (.inl rfl) ?_
      clear hK K
      refine U_step (j := 7) (by kernel_rfl) rfl (fun K hK => ?_)
      go_simp
      refine hK.out _ _ (.inl rfl) ?_
      clear hK K
      refine U_done (by kernel_rfl) ?_ _
      obtain ⟨la, lc, rfl⟩ := hlv.shape
      obtain ⟨ma, mc, rfl⟩ := hmv.shape
      have hlr := hlv.row
      have hmr := hmv.row
      rw [bitsL_length] at hlr hmr ⊢
      rw [bitsL_length]
      obtain ⟨la', lc', hle, _, hlc⟩ := hlr
      obtain ⟨ma', mc', hme, _, hmc⟩ := hmr
      simp only [Value.slice.injEq] at hle hme
      obtain ⟨rfl, e1, rfl⟩ := hle
      obtain ⟨rfl, e2, rfl⟩ := hme
      rw [bitsL_length] at hlc hmc
      obtain ⟨lb, lo, rfl, hlbl, hlc⟩ := hlc (by omega)
      obtain ⟨mb, mo, rfl, hmbl, hmc⟩ := hmc (by omega)
      clear hlv hmv kX kY hx hy e1 e2
      have hsz4 := hb.size
      go_wp2_with fail
      go_loopw [14, 15, 48] (fun ov _ kv wr => ∃ j : Nat, kv = .int .i64 j ∧ j ≤ C ∧ OwnB wr w4.heap.size ov (bitsL Z j) ∧ Below w4.heap.size w4 wr) (fun _ _ kv _ => C - (intOf kv).toNat)
      case atStart => exact ⟨0, rfl, Nat.zero_le _, OwnB.nil, Below.refl _ _⟩
      case round =>
        obtain ⟨j, rfl, hj, hown, hbr⟩ := hrel
        obtain ⟨oa, oc, rfl⟩ := hown.shape
        rw [bitsL_length] at hown ⊢
        have hszr := hbr.size
        by_cases hlt : j < C
        · have hl1 := (hbr.cell (p := ⟨lb, lo + j, none⟩) hlbl).trans (hlc j hlt)
          have hm1 := (hbr.cell (p := ⟨mb, mo + j, none⟩) hmbl).trans (hmc j hlt)
          rw [bitsL_get _ _ _ hlt] at hl1 hm1
          have HZ1 := hid (HZB.out j)
          generalize zb x' j = p at *
          generalize zb y' j = q at *
          have hix1 : 0 ≤ (j : Int) := by omega
          have hix2 : (j : Int) < (C : Int) := by omega
          cases p with
          | true =>
            have HXX := hid (show q = (fun a b => a && b) true q by cases q <;> rfl)
            go_wp2_with (at_builtin; go_loud (refine app_bool rfl _ _ rfl w4.heap.size _ (bitsL Z j) rfl hown _ ((fun a b => a && b) true q) rfl HXX.out (by rw [bitsL_length]; omega) hszr ?_); intro v' w9 hown' hb9 hkb; refine Hid.out ?_)
            replace hown' : OwnB w9 w4.heap.size v' (bitsL Z (j + 1)) := by rw [bitsL_succ, HZ1.out]; exact hown'
            refine hid ?_
            go_wp2
            go_roundw
            case rel => exact ⟨j + 1, by go_num, by omega, hown', hbr.trans hb9⟩
            case measure => simp [intOf] <;> omega
          | false =>
            have HXX := hid (show false = (fun a b => a && b) false q by cases q <;> rfl)
            go_wp2_with (at_builtin; go_loud (refine app_bool rfl _ _ rfl w4.heap.size _ (bitsL Z j) rfl hown _ ((fun a b => a && b) false q) rfl HXX.out (by rw [bitsL_length]; omega) hszr ?_); intro v' w9 hown' hb9 hkb; refine Hid.out ?_)
            replace hown' : OwnB w9 w4.heap.size v' (bitsL Z (j + 1)) := by rw [bitsL_succ, HZ1.out]; exact hown'
            refine hid ?_
            go_wp2
            go_roundw
            case rel => exact ⟨j + 1, by go_num, by omega, hown', hbr.trans hb9⟩
            case measure => simp [intOf] <;> omega
        · obtain rfl : j = C := by omega
          have HO := hid (of_fn' (z := Z) hown.row (by rw [bitsL_length]; omega) (by rw [bitsL_length]; omega) (fun i hi => bitsL_get _ _ _ (by rw [bitsL_length] at hi; exact hi)) (by rw [bitsL_length]; exact HOF.out.1) (by have := HOF.out.2; omega))
          have hb6 := hb.trans (hbr.mono hsz4)
          go_wp2_with fail
          (with_reducible refine HO.out.mono ?_); rintro e w6 ⟨q, rfl, hq, gg⟩
          replace hb6 := hb6.trans (gg.mono hb6.size)
          obtain ⟨qg, qa, qn, qc, rfl⟩ := hq.num.shape4
          have HTO := hid (told_fn hq.num (by have := HOF.out.2; omega) (Nums.nil _) (fun x h => by cases h) (by decide))
          rw [toldRes_nil] at HTO
          clear gg
          go_wp2_with fail
          (with_reducible refine HTO.out.mono ?_); rintro e w7 ⟨rfl, gg⟩
          replace hb6 := hb6.trans (gg.mono hb6.size)
          go_wp2
          go_ret2
          exact ⟨by rw [HR2.out]; rfl, hb6⟩
theorem andR_fn (a b : List UInt8) (ha : a.length ≤ 2000000) (hb : b.length ≤ 2000000) (w : World) :
    Calls Tryz.prog 40 #[.string ⟨a.toArray⟩, .string ⟨b.toArray⟩] w fun e w' => e = .returned (.tuple #[.string ⟨(andRes a b).1.toArray⟩, .int .i64 (andRes a b).2]) ∧ Below w.heap.size w w' := by
  have HC := hid (andR_bit a b ha hb w)
  go_enter Tryz.func40, Tryz.ntmps40
  go_wp2_with fail
  (with_reducible refine HC.out.mono ?_); rintro e w1 ⟨rfl, gg⟩
  go_wp2
  go_ret2
  exact ⟨rfl, gg⟩
set_option maxRecDepth 100000 in
set_option maxHeartbeats 4000000 in
theorem orR_bit (a b : List UInt8) (ha : a.length ≤ 2000000) (hb : b.length ≤ 2000000) (w : World) :
    Calls Tryz.prog 109 #[.string ⟨a.toArray⟩, .string ⟨b.toArray⟩, .int .i64 1] w fun e w' => e = .returned (.tuple #[.string ⟨(orRes a b).1.toArray⟩, .int .i64 (orRes a b).2]) ∧ Below w.heap.size w w' := by
  have hB := hid (both_fn a b ha hb w)
  unfold BothQ at hB
  clear ha hb
  by_cases hok : pOK a = true ∧ pOK b = true
  case neg =>
    have hf : (pOK a && pOK b) = false := by
      cases h1 : pOK a <;> cases h2 : pOK b <;> simp_all
    have HR := hid (show orRes a b = ([], 2) by exact neg_two hok)
    rw [hf] at hB
    have hB := hid hB.out
    clear hok hf
    go_enter Tryz.func109, Tryz.ntmps109
    go_wp2_with fail
    (with_reducible refine hB.out.mono ?_); rintro e w1 ⟨g1, s1, n1, c1, g2, s2, n2, c2, rfl, hb1, -⟩
    have hsz := hb1.size
    go_wp2
    go_ret2
    exact ⟨by rw [HR.out]; rfl, (hb1.alloc hsz _).alloc (by simp; omega) _⟩
  case pos =>
    have HR := hid (show orRes a b = if big600 ≤ (pVal a).natAbs ∨ big600 ≤ (pVal b).natAbs then ([], 4) else resOf (bitI (· ||| ·) (pVal a) (pVal b)) by unfold orRes twoRes; rw [if_pos hok, if_neg (by simp)])
    obtain ⟨oa, ob⟩ := hok
    rw [oa, ob] at hB
    have hB := hid hB.out
    go_enter Tryz.func109, Tryz.ntmps109
    go_wp2_with fail
    (with_reducible refine hB.out.mono ?_); rintro e w1 ⟨g1, s1, n1, c1, g2, s2, n2, c2, rfl, hb, hn⟩
    obtain ⟨⟨x', hx, hlx, hcx⟩, ⟨y', hy, hly, hcy⟩⟩ := hn (by first | rfl | trivial)
    have HAB := hid (anyBig_two hcx hcy)
    have HCX := hid hcx.small
    have HCY := hid hcy.small
    have HCYB := hid hcy
    clear hn hB oa ob hcx hcy
    have kX := Blk.new w1 #[.bool g1, .slice s1 n1 c1] 56
    have kY := Blk.new (w1.alloc (.cells #[.bool g1, .slice s1 n1 c1] 56)) #[.bool g2, .slice s2 n2 c2] 56
    simp only [World.size_alloc] at kY
    have kX := kX.alloc (.cells #[.bool g2, .slice s2 n2 c2] 56)
    have gg : Below w1.heap.size w1 ((w1.alloc (.cells #[.bool g1, .slice s1 n1 c1] 56)).alloc (.cells #[.bool g2, .slice s2 n2 c2] 56)) := ((Below.refl _ _).alloc (Nat.le_refl _) _).alloc (by simp) _
    have hx := hx.below gg
    have hy := hy.below gg
    have hb := hb.trans (gg.mono hb.size)
    clear gg
    have kN := Blk.new ((w1.alloc (.cells #[.bool g1, .slice s1 n1 c1] 56)).alloc (.cells #[.bool g2, .slice s2 n2 c2] 56)) #[.bool g1, .slice s1 n1 c1, .bool g2, .slice s2 n2 c2] 56
    have gg : Below ((w1.alloc (.cells #[.bool g1, .slice s1 n1 c1] 56)).alloc (.cells #[.bool g2, .slice s2 n2 c2] 56)).heap.size ((w1.alloc (.cells #[.bool g1, .slice s1 n1 c1] 56)).alloc (.cells #[.bool g2, .slice s2 n2 c2] 56)) (((w1.alloc (.cells #[.bool g1, .slice s1 n1 c1] 56)).alloc (.cells #[.bool g2, .slice s2 n2 c2] 56)).alloc (.cells #[.bool g1, .slice s1 n1 c1, .bool g2, .slice s2 n2 c2] 56)) := (Below.refl _ _).alloc (Nat.le_refl _) _
    obtain ⟨⟨p1, p2⟩, q1, q2⟩ := kX.two
    obtain ⟨⟨p3, p4⟩, q3, q4⟩ := kY.two
    have hx := hx.below gg
    have hy := hy.below gg
    have hb := hb.trans (gg.mono hb.size)
    have hN := Nums.mk2 kN hx hy
    have kX := kX.later gg
    have kY := kY.later gg
    simp only [World.size_alloc] at hN
    have hsc := hid (short_fn hN (fun x hm => by simp at hm; rcases hm with rfl | rfl <;> omega) (by simp))
    rw [HAB.out] at hsc
    clear gg kN hN
    go_wp2_with fail
    (with_reducible refine hsc.out.mono ?_); rintro e w2 ⟨rfl, gg⟩
    have hx := hx.below gg
    have hy := hy.below gg
    have hb := hb.trans (gg.mono hb.size)
    have kX := kX.later gg
    have kY := kY.later gg
    clear p1 p2 p3 p4 q1 q2 q3 q4 hsc gg
    generalize w1.heap.size = B1 at *
    by_cases hbig : big600 ≤ (pVal a).natAbs ∨ big600 ≤ (pVal b).natAbs
    · have hT : (!(decide (big600 ≤ (pVal a).natAbs) || decide (big600 ≤ (pVal b).natAbs))) = false := by
        rcases hbig with h | h <;> rw [decide_eq_true h] <;> simp
      have HR2 := hid (show orRes a b = ([], 4) by rw [HR.out, if_pos hbig])
      rw [hT]
      clear hbig hT
      go_wp2
      go_ret2
      exact ⟨by rw [HR2.out]; rfl, hb⟩
    · have hT : (!(decide (big600 ≤ (pVal a).natAbs) || decide (big600 ≤ (pVal b).natAbs))) = true := by
        rw [decide_eq_false (show ¬ big600 ≤ (pVal a).natAbs by omega), decide_eq_false (show ¬ big600 ≤ (pVal b).natAbs by omega)]; rfl
      have ex : x' = pVal a := HCX.out (by omega)
      have ey : y' = pVal b := HCY.out (by omega)
      have hdx : dlen 10 x'.natAbs ≤ 600 := (digits_600 _).2 (by rw [ex]; omega)
      have hdy : dlen 10 y'.natAbs ≤ 600 := (digits_600 _).2 (by rw [ey]; omega)
      have EX := hid ex
      have EY := hid ey
      have HBIG := hid hbig
      obtain ⟨⟨p1, p2⟩, q1, q2⟩ := kX.two
      obtain ⟨⟨p3, p4⟩, q3, q4⟩ := kY.two
      rw [hT]
      clear hbig hT ex ey
      have HR2 := hid (show orRes a b = resOf (bitI (· ||| ·) x' y') by rw [HR.out, if_neg HBIG.out, EX.out, EY.out])
      obtain ⟨eg1, en1⟩ := hx.parts
      obtain ⟨eg2, en2⟩ := hy.parts
      have hn1 : n1 ≤ 600 := by omega
      have hn2 : n2 ≤ 600 := by omega
      have HN1 := hid en1
      have HN2 := hid en2
      clear eg1 eg2 en1 en2
      obtain ⟨M, hM, hM1⟩ : ∃ M : Nat, max (n1 : Int) (n2 : Int) = (M : Int) ∧ (n1 ≤ M ∧ n2 ≤ M ∧ M ≤ 600) := ⟨max n1 n2, by omega, by omega⟩
      obtain ⟨hM1, hM2, hM3⟩ := hM1
      have hw4 : IntKind.i64.wrap (4 * (M : Int)) = 4 * (M : Int) := by simp [IntKind.wrap, IntKind.bits, IntKind.signed]; omega
      obtain ⟨C, hC, hCM⟩ : ∃ C : Nat, 4 * (M : Int) + 2 = (C : Int) ∧ C = 4 * M + 2 := ⟨4 * M + 2, by omega, rfl⟩
      have hw5 : IntKind.i64.wrap (C : Int) = (C : Int) := by simp [IntKind.wrap, IntKind.bits, IntKind.signed]; omega
      have HOF := hid (of_ready (· ||| ·) (fun a b => a || b) bl_or by_or x' y' M (by rw [← HN1.out]; omega) (by rw [← HN2.out]; omega))
      have HZB := hid (fun i => zb_bitI (· ||| ·) (fun a b => a || b) bl_or by_or x' y' i)
      generalize bitI (· ||| ·) x' y' = Z at *
      have hCl : C ≤ 100000 := by omega
      have HCM := hid hCM
      clear hCM
      rw [← HCM.out] at HOF
      go_wp2_with fail
      clear p1 p2 p3 p4 q1 q2 q3 q4 hw4 hM
      replace kX := kX.drew
      replace kY := kY.drew
      replace hx := hx.below ((Below.refl w2.heap.size w2).drew)
      replace hy := hy.below ((Below.refl w2.heap.size w2).drew)
      replace hb := hb.drew
      refine U_begin (late := fun i => decide (6 ≤ i)) (S := fun u => Blk u B1 #[.bool g1, .slice s1 n1 c1] 56 ∧ Blk u (B1 + 1) #[.bool g2, .slice s2 n2 c2] 56) (by kernel_rfl) ?_
      generalize w2.drew = wd at *
      refine U_take2 4 (i := 0) (v := .agg #[.bool g1, .slice s1 n1 c1]) rfl (by kernel_rfl) (by kernel_rfl) (by kernel_rfl) (by kernel_rfl) (by kernel_rfl) (fun _ _ _ h => h) (.inl ⟨rfl, fun u hu => (by obtain ⟨⟨h1, h2⟩, _⟩ := hu.1.two; go_simp)⟩) ⟨kX, kY⟩ ?_
      refine U_take2 4 (i := 1) (v := .int .i64 C) rfl (by kernel_rfl) (by kernel_rfl) (by kernel_rfl) (by kernel_rfl) (by kernel_rfl) (fun _ _ _ h => h) (.inl ⟨rfl, fun u hu => (by go_simp)⟩) ⟨kX, kY⟩ ?_
      refine U_take2 4 (i := 3) (v := .agg #[.bool g2, .slice s2 n2 c2]) rfl (by kernel_rfl) (by kernel_rfl) (by kernel_rfl) (by kernel_rfl) (by kernel_rfl) (fun _ _ _ h => h) (.inl ⟨rfl, fun u hu => (by obtain ⟨⟨h1, h2⟩, _⟩ := hu.2.two; go_simp)⟩) ⟨kX, kY⟩ ?_
      refine U_take2 4 (i := 4) (v := .int .i64 C) rfl (by kernel_rfl) (by kernel_rfl) (by kernel_rfl) (by kernel_rfl) (by kernel_rfl) (fun _ _ _ h => h) (.inl ⟨rfl, fun u hu => (by go_simp)⟩) ⟨kX, kY⟩ ?_
      refine U_step (j := 2) (by kernel_rfl) rfl (fun K hK => ?_)
      go_simp
      have hc := hid (bits_fn' hx (by rw [← HN1.out]; omega) C hCl)
      (with_reducible refine hc.out.mono ?_); rintro e w3 ⟨lv, rfl, hlv, gg⟩
      clear hc
      replace hy := hy.below gg
      replace hb := hb.trans (gg.mono hb.size)
      replace kX := kX.later gg
      replace kY := kY.later gg
      refine hK.out _ _ (.inr ⟨kX, kY⟩) ?_
      clear hK K gg
      refine U_step (j := 5) (by kernel_rfl) rfl (fun K hK => ?_)
      go_simp
      have hc := hid (bits_fn' hy (by rw [← HN2.out]; omega) C hCl)
      (with_reducible refine hc.out.mono ?_); rintro e w4 ⟨mv, rfl, hmv, gg⟩
      clear hc
      replace hlv := hlv.keep gg
      replace hb := hb.trans (gg.mono hb.size)
      replace kX := kX.later gg
      replace kY := kY.later gg
      refine hK.out _ _ (.inr ⟨kX, kY⟩) ?_
      clear hK K gg
      refine U_step (j := 6) (by kernel_rfl) rfl (fun K hK => ?_)
      go_simp
      refine hK.out _ _ (.inl rfl) ?_
      clear hK K
      refine U_step (j := 7) (by kernel_rfl) rfl (fun K hK => ?_)
      go_simp
      refine hK.out _ _ (.inl rfl) ?_
      clear hK K
      refine U_done (by kernel_rfl) ?_ _
      obtain ⟨la, lc, rfl⟩ := hlv.shape
      obtain ⟨ma, mc, rfl⟩ := hmv.shape
      have hlr := hlv.row
      have hmr := hmv.row
      rw [bitsL_length] at hlr hmr ⊢
      rw [bitsL_length]
      obtain ⟨la', lc', hle, _, hlc⟩ := hlr
      obtain ⟨ma', mc', hme, _, hmc⟩ := hmr
      simp only [Value.slice.injEq] at hle hme
      obtain ⟨rfl, e1, rfl⟩ := hle
      obtain ⟨rfl, e2, rfl⟩ := hme
      rw [bitsL_length] at hlc hmc
      obtain ⟨lb, lo, rfl, hlbl, hlc⟩ := hlc (by omega)
      obtain ⟨mb, mo, rfl, hmbl, hmc⟩ := hmc (by omega)
      clear hlv hmv kX kY hx hy e1 e2
      have hsz4 := hb.size
      go_wp2_with fail
      go_loopw [14, 15, 48] (fun ov _ kv wr => ∃ j : Nat, kv = .int .i64 j ∧ j ≤ C ∧ OwnB wr w4.heap.size ov (bitsL Z j) ∧ Below w4.heap.size w4 wr) (fun _ _ kv _ => C - (intOf kv).toNat)
      case atStart => exact ⟨0, rfl, Nat.zero_le _, OwnB.nil, Below.refl _ _⟩
      case round =>
        obtain ⟨j, rfl, hj, hown, hbr⟩ := hrel
        obtain ⟨oa, oc, rfl⟩ := hown.shape
        rw [bitsL_length] at hown ⊢
        have hszr := hbr.size
        by_cases hlt : j < C
        · have hl1 := (hbr.cell (p := ⟨lb, lo + j, none⟩) hlbl).trans (hlc j hlt)
          have hm1 := (hbr.cell (p := ⟨mb, mo + j, none⟩) hmbl).trans (hmc j hlt)
          rw [bitsL_get _ _ _ hlt] at hl1 hm1
          have HZ1 := hid (HZB.out j)
          generalize zb x' j = p at *
          generalize zb y' j = q at *
          have hix1 : 0 ≤ (j : Int) := by omega
          have hix2 : (j : Int) < (C : Int) := by omega
          cases p with
          | true =>
            have HXX := hid (show true = (fun a b => a || b) true q by cases q <;> rfl)
            go_wp2_with (at_builtin; go_loud (refine app_bool rfl _ _ rfl w4.heap.size _ (bitsL Z j) rfl hown _ ((fun a b => a || b) true q) rfl HXX.out (by rw [bitsL_length]; omega) hszr ?_); intro v' w9 hown' hb9 hkb; refine Hid.out ?_)
            replace hown' : OwnB w9 w4.heap.size v' (bitsL Z (j + 1)) := by rw [bitsL_succ, HZ1.out]; exact hown'
            refine hid ?_
            go_wp2
            go_roundw
            case rel => exact ⟨j + 1, by go_num, by omega, hown', hbr.trans hb9⟩
            case measure => simp [intOf] <;> omega
          | false =>
            have HXX := hid (show q = (fun a b => a || b) false q by cases q <;> rfl)
            go_wp2_with (at_builtin; go_loud (refine app_bool rfl _ _ rfl w4.heap.size _ (bitsL Z j) rfl hown _ ((fun a b => a || b) false q) rfl HXX.out (by rw [bitsL_length]; omega) hszr ?_); intro v' w9 hown' hb9 hkb; refine Hid.out ?_)
            replace hown' : OwnB w9 w4.heap.size v' (bitsL Z (j + 1)) := by rw [bitsL_succ, HZ1.out]; exact hown'
            refine hid ?_
            go_wp2
            go_roundw
            case rel => exact ⟨j + 1, by go_num, by omega, hown', hbr.trans hb9⟩
            case measure => simp [intOf] <;> omega
        · obtain rfl : j = C := by omega
          have HO := hid (of_fn' (z := Z) hown.row (by rw [bitsL_length]; omega) (by rw [bitsL_length]; omega) (fun i hi => bitsL_get _ _ _ (by rw [bitsL_length] at hi; exact hi)) (by rw [bitsL_length]; exact HOF.out.1) (by have := HOF.out.2; omega))
          have hb6 := hb.trans (hbr.mono hsz4)
          go_wp2_with fail
          (with_reducible refine HO.out.mono ?_); rintro e w6 ⟨q, rfl, hq, gg⟩
          replace hb6 := hb6.trans (gg.mono hb6.size)
          obtain ⟨qg, qa, qn, qc, rfl⟩ := hq.num.shape4
          have HTO := hid (told_fn hq.num (by have := HOF.out.2; omega) (Nums.nil _) (fun x h => by cases h) (by decide))
          rw [toldRes_nil] at HTO
          clear gg
          go_wp2_with fail
          (with_reducible refine HTO.out.mono ?_); rintro e w7 ⟨rfl, gg⟩
          replace hb6 := hb6.trans (gg.mono hb6.size)
          go_wp2
          go_ret2
          exact ⟨by rw [HR2.out]; rfl, hb6⟩
theorem orR_fn (a b : List UInt8) (ha : a.length ≤ 2000000) (hb : b.length ≤ 2000000) (w : World) :
    Calls Tryz.prog 41 #[.string ⟨a.toArray⟩, .string ⟨b.toArray⟩] w fun e w' => e = .returned (.tuple #[.string ⟨(orRes a b).1.toArray⟩, .int .i64 (orRes a b).2]) ∧ Below w.heap.size w w' := by
  have HC := hid (orR_bit a b ha hb w)
  go_enter Tryz.func41, Tryz.ntmps41
  go_wp2_with fail
  (with_reducible refine HC.out.mono ?_); rintro e w1 ⟨rfl, gg⟩
  go_wp2
  go_ret2
  exact ⟨rfl, gg⟩
set_option maxRecDepth 100000 in
set_option maxHeartbeats 4000000 in
theorem xorR_bit (a b : List UInt8) (ha : a.length ≤ 2000000) (hb : b.length ≤ 2000000) (w : World) :
    Calls Tryz.prog 109 #[.string ⟨a.toArray⟩, .string ⟨b.toArray⟩, .int .i64 2] w fun e w' => e = .returned (.tuple #[.string ⟨(xorRes a b).1.toArray⟩, .int .i64 (xorRes a b).2]) ∧ Below w.heap.size w w' := by
  have hB := hid (both_fn a b ha hb w)
  unfold BothQ at hB
  clear ha hb
  by_cases hok : pOK a = true ∧ pOK b = true
  case neg =>
    have hf : (pOK a && pOK b) = false := by
      cases h1 : pOK a <;> cases h2 : pOK b <;> simp_all
    have HR := hid (show xorRes a b = ([], 2) by exact neg_two hok)
    rw [hf] at hB
    have hB := hid hB.out
    clear hok hf
    go_enter Tryz.func109, Tryz.ntmps109
    go_wp2_with fail
    (with_reducible refine hB.out.mono ?_); rintro e w1 ⟨g1, s1, n1, c1, g2, s2, n2, c2, rfl, hb1, -⟩
    have hsz := hb1.size
    go_wp2
    go_ret2
    exact ⟨by rw [HR.out]; rfl, (hb1.alloc hsz _).alloc (by simp; omega) _⟩
  case pos =>
    have HR := hid (show xorRes a b = if big600 ≤ (pVal a).natAbs ∨ big600 ≤ (pVal b).natAbs then ([], 4) else resOf (bitI (· ^^^ ·) (pVal a) (pVal b)) by unfold xorRes twoRes; rw [if_pos hok, if_neg (by simp)])
    obtain ⟨oa, ob⟩ := hok
    rw [oa, ob] at hB
    have hB := hid hB.out
    go_enter Tryz.func109, Tryz.ntmps109
    go_wp2_with fail
    (with_reducible refine hB.out.mono ?_); rintro e w1 ⟨g1, s1, n1, c1, g2, s2, n2, c2, rfl, hb, hn⟩
    obtain ⟨⟨x', hx, hlx, hcx⟩, ⟨y', hy, hly, hcy⟩⟩ := hn (by first | rfl | trivial)
    have HAB := hid (anyBig_two hcx hcy)
    have HCX := hid hcx.small
    have HCY := hid hcy.small
    have HCYB := hid hcy
    clear hn hB oa ob hcx hcy
    have kX := Blk.new w1 #[.bool g1, .slice s1 n1 c1] 56
    have kY := Blk.new (w1.alloc (.cells #[.bool g1, .slice s1 n1 c1] 56)) #[.bool g2, .slice s2 n2 c2] 56
    simp only [World.size_alloc] at kY
    have kX := kX.alloc (.cells #[.bool g2, .slice s2 n2 c2] 56)
    have gg : Below w1.heap.size w1 ((w1.alloc (.cells #[.bool g1, .slice s1 n1 c1] 56)).alloc (.cells #[.bool g2, .slice s2 n2 c2] 56)) := ((Below.refl _ _).alloc (Nat.le_refl _) _).alloc (by simp) _
    have hx := hx.below gg
    have hy := hy.below gg
    have hb := hb.trans (gg.mono hb.size)
    clear gg
    have kN := Blk.new ((w1.alloc (.cells #[.bool g1, .slice s1 n1 c1] 56)).alloc (.cells #[.bool g2, .slice s2 n2 c2] 56)) #[.bool g1, .slice s1 n1 c1, .bool g2, .slice s2 n2 c2] 56
    have gg : Below ((w1.alloc (.cells #[.bool g1, .slice s1 n1 c1] 56)).alloc (.cells #[.bool g2, .slice s2 n2 c2] 56)).heap.size ((w1.alloc (.cells #[.bool g1, .slice s1 n1 c1] 56)).alloc (.cells #[.bool g2, .slice s2 n2 c2] 56)) (((w1.alloc (.cells #[.bool g1, .slice s1 n1 c1] 56)).alloc (.cells #[.bool g2, .slice s2 n2 c2] 56)).alloc (.cells #[.bool g1, .slice s1 n1 c1, .bool g2, .slice s2 n2 c2] 56)) := (Below.refl _ _).alloc (Nat.le_refl _) _
    obtain ⟨⟨p1, p2⟩, q1, q2⟩ := kX.two
    obtain ⟨⟨p3, p4⟩, q3, q4⟩ := kY.two
    have hx := hx.below gg
    have hy := hy.below gg
    have hb := hb.trans (gg.mono hb.size)
    have hN := Nums.mk2 kN hx hy
    have kX := kX.later gg
    have kY := kY.later gg
    simp only [World.size_alloc] at hN
    have hsc := hid (short_fn hN (fun x hm => by simp at hm; rcases hm with rfl | rfl <;> omega) (by simp))
    rw [HAB.out] at hsc
    clear gg kN hN
    go_wp2_with fail
    (with_reducible refine hsc.out.mono ?_); rintro e w2 ⟨rfl, gg⟩
    have hx := hx.below gg
    have hy := hy.below gg
    have hb := hb.trans (gg.mono hb.size)
    have kX := kX.later gg
    have kY := kY.later gg
    clear p1 p2 p3 p4 q1 q2 q3 q4 hsc gg
    generalize w1.heap.size = B1 at *
    by_cases hbig : big600 ≤ (pVal a).natAbs ∨ big600 ≤ (pVal b).natAbs
    · have hT : (!(decide (big600 ≤ (pVal a).natAbs) || decide (big600 ≤ (pVal b).natAbs))) = false := by
        rcases hbig with h | h <;> rw [decide_eq_true h] <;> simp
      have HR2 := hid (show xorRes a b = ([], 4) by rw [HR.out, if_pos hbig])
      rw [hT]
      clear hbig hT
      go_wp2
      go_ret2
      exact ⟨by rw [HR2.out]; rfl, hb⟩
    · have hT : (!(decide (big600 ≤ (pVal a).natAbs) || decide (big600 ≤ (pVal b).natAbs))) = true := by
        rw [decide_eq_false (show ¬ big600 ≤ (pVal a).natAbs by omega), decide_eq_false (show ¬ big600 ≤ (pVal b).natAbs by omega)]; rfl
      have ex : x' = pVal a := HCX.out (by omega)
      have ey : y' = pVal b := HCY.out (by omega)
      have hdx : dlen 10 x'.natAbs ≤ 600 := (digits_600 _).2 (by rw [ex]; omega)
      have hdy : dlen 10 y'.natAbs ≤ 600 := (digits_600 _).2 (by rw [ey]; omega)
      have EX := hid ex
      have EY := hid ey
      have HBIG := hid hbig
      obtain ⟨⟨p1, p2⟩, q1, q2⟩ := kX.two
      obtain ⟨⟨p3, p4⟩, q3, q4⟩ := kY.two
      rw [hT]
      clear hbig hT ex ey
      have HR2 := hid (show xorRes a b = resOf (bitI (· ^^^ ·) x' y') by rw [HR.out, if_neg HBIG.out, EX.out, EY.out])
      obtain ⟨eg1, en1⟩ := hx.parts
      obtain ⟨eg2, en2⟩ := hy.parts
      have hn1 : n1 ≤ 600 := by omega
      have hn2 : n2 ≤ 600 := by omega
      have HN1 := hid en1
      have HN2 := hid en2
      clear eg1 eg2 en1 en2
      obtain ⟨M, hM, hM1⟩ : ∃ M : Nat, max (n1 : Int) (n2 : Int) = (M : Int) ∧ (n1 ≤ M ∧ n2 ≤ M ∧ M ≤ 600) := ⟨max n1 n2, by omega, by omega⟩
      obtain ⟨hM1, hM2, hM3⟩ := hM1
      have hw4 : IntKind.i64.wrap (4 * (M : Int)) = 4 * (M : Int) := by simp [IntKind.wrap, IntKind.bits, IntKind.signed]; omega
      obtain ⟨C, hC, hCM⟩ : ∃ C : Nat, 4 * (M : Int) + 2 = (C : Int) ∧ C = 4 * M + 2 := ⟨4 * M + 2, by omega, rfl⟩
      have hw5 : IntKind.i64.wrap (C : Int) = (C : Int) := by simp [IntKind.wrap, IntKind.bits, IntKind.signed]; omega
      have HOF := hid (of_ready (· ^^^ ·) (fun a b => a != b) bl_xor by_xor x' y' M (by rw [← HN1.out]; omega) (by rw [← HN2.out]; omega))
      have HZB := hid (fun i => zb_bitI (· ^^^ ·) (fun a b => a != b) bl_xor by_xor x' y' i)
      generalize bitI (· ^^^ ·) x' y' = Z at *
      have hCl : C ≤ 100000 := by omega
      have HCM := hid hCM
      clear hCM
      rw [← HCM.out] at HOF
      go_wp2_with fail
      clear p1 p2 p3 p4 q1 q2 q3 q4 hw4 hM
      replace kX := kX.drew
      replace kY := kY.drew
      replace hx := hx.below ((Below.refl w2.heap.size w2).drew)
      replace hy := hy.below ((Below.refl w2.heap.size w2).drew)
      replace hb := hb.drew
      refine U_begin (late := fun i => decide (6 ≤ i)) (S := fun u => Blk u B1 #[.bool g1, .slice s1 n1 c1] 56 ∧ Blk u (B1 + 1) #[.bool g2, .slice s2 n2 c2] 56) (by kernel_rfl) ?_
      generalize w2.drew = wd at *
      refine U_take2 4 (i := 0) (v := .agg #[.bool g1, .slice s1 n1 c1]) rfl (by kernel_rfl) (by kernel_rfl) (by kernel_rfl) (by kernel_rfl) (by kernel_rfl) (fun _ _ _ h => h) (.inl ⟨rfl, fun u hu => (by obtain ⟨⟨h1, h2⟩, _⟩ := hu.1.two; go_simp)⟩) ⟨kX, kY⟩ ?_
      refine U_take2 4 (i := 1) (v := .int .i64 C) rfl (by kernel_rfl) (by kernel_rfl) (by kernel_rfl) (by kernel_rfl) (by kernel_rfl) (fun _ _ _ h => h) (.inl ⟨rfl, fun u hu => (by go_simp)⟩) ⟨kX, kY⟩ ?_
      refine U_take2 4 (i := 3) (v := .agg #[.bool g2, .slice s2 n2 c2]) rfl (by kernel_rfl) (by kernel_rfl) (by kernel_rfl) (by kernel_rfl) (by kernel_rfl) (fun _ _ _ h => h) (.inl ⟨rfl, fun u hu => (by obtain ⟨⟨h1, h2⟩, _⟩ := hu.2.two; go_simp)⟩) ⟨kX, kY⟩ ?_
      refine U_take2 4 (i := 4) (v := .int .i64 C) rfl (by kernel_rfl) (by kernel_rfl) (by kernel_rfl) (by kernel_rfl) (by kernel_rfl) (fun _ _ _ h => h) (.inl ⟨rfl, fun u hu => (by go_simp)⟩) ⟨kX, kY⟩ ?_
      refine U_step (j := 2) (by kernel_rfl) rfl (fun K hK => ?_)
      go_simp
      have hc := hid (bits_fn' hx (by rw [← HN1.out]; omega) C hCl)
      (with_reducible refine hc.out.mono ?_); rintro e w3 ⟨lv, rfl, hlv, gg⟩
      clear hc
      replace hy := hy.below gg
      replace hb := hb.trans (gg.mono hb.size)
      replace kX := kX.later gg
      replace kY := kY.later gg
      refine hK.out _ _ (.inr ⟨kX, kY⟩) ?_
      clear hK K gg
      refine U_step (j := 5) (by kernel_rfl) rfl (fun K hK => ?_)
      go_simp
      have hc := hid (bits_fn' hy (by rw [← HN2.out]; omega) C hCl)
      (with_reducible refine hc.out.mono ?_); rintro e w4 ⟨mv, rfl, hmv, gg⟩
      clear hc
      replace hlv := hlv.keep gg
      replace hb := hb.trans (gg.mono hb.size)
      replace kX := kX.later gg
      replace kY := kY.later gg
      refine hK.out _ _ (.inr ⟨kX, kY⟩) ?_
      clear hK K gg
      refine U_step (j := 6) (by kernel_rfl) rfl (fun K hK => ?_)
      go_simp
      refine hK.out _ _ (.inl rfl) ?_
      clear hK K
      refine U_step (j := 7) (by kernel_rfl) rfl (fun K hK => ?_)
      go_simp
      refine hK.out _ _ (.inl rfl) ?_
      clear hK K
      refine U_done (by kernel_rfl) ?_ _
      obtain ⟨la, lc, rfl⟩ := hlv.shape
      obtain ⟨ma, mc, rfl⟩ := hmv.shape
      have hlr := hlv.row
      have hmr := hmv.row
      rw [bitsL_length] at hlr hmr ⊢
      rw [bitsL_length]
      obtain ⟨la', lc', hle, _, hlc⟩ := hlr
      obtain ⟨ma', mc', hme, _, hmc⟩ := hmr
      simp only [Value.slice.injEq] at hle hme
      obtain ⟨rfl, e1, rfl⟩ := hle
      obtain ⟨rfl, e2, rfl⟩ := hme
      rw [bitsL_length] at hlc hmc
      obtain ⟨lb, lo, rfl, hlbl, hlc⟩ := hlc (by omega)
      obtain ⟨mb, mo, rfl, hmbl, hmc⟩ := hmc (by omega)
      clear hlv hmv kX kY hx hy e1 e2
      have hsz4 := hb.size
      go_wp2_with fail
      go_loopw [14, 15, 48] (fun ov _ kv wr => ∃ j : Nat, kv = .int .i64 j ∧ j ≤ C ∧ OwnB wr w4.heap.size ov (bitsL Z j) ∧ Below w4.heap.size w4 wr) (fun _ _ kv _ => C - (intOf kv).toNat)
      case atStart => exact ⟨0, rfl, Nat.zero_le _, OwnB.nil, Below.refl _ _⟩
      case round =>
        obtain ⟨j, rfl, hj, hown, hbr⟩ := hrel
        obtain ⟨oa, oc, rfl⟩ := hown.shape
        rw [bitsL_length] at hown ⊢
        have hszr := hbr.size
        by_cases hlt : j < C
        · have hl1 := (hbr.cell (p := ⟨lb, lo + j, none⟩) hlbl).trans (hlc j hlt)
          have hm1 := (hbr.cell (p := ⟨mb, mo + j, none⟩) hmbl).trans (hmc j hlt)
          rw [bitsL_get _ _ _ hlt] at hl1 hm1
          have HZ1 := hid (HZB.out j)
          generalize zb x' j = p at *
          generalize zb y' j = q at *
          have hix1 : 0 ≤ (j : Int) := by omega
          have hix2 : (j : Int) < (C : Int) := by omega
          go_wp2_with fail
          have hbrd : Below wr.heap.size wr wr.drew := (Below.refl _ _).drew
          replace hown := hown.keep hbrd
          replace hl1 := (hbrd.cell (p := ⟨lb, lo + j, none⟩) (Nat.lt_of_lt_of_le hlbl hszr)).trans hl1
          replace hm1 := (hbrd.cell (p := ⟨mb, mo + j, none⟩) (Nat.lt_of_lt_of_le hmbl hszr)).trans hm1
          replace hbr := hbr.drew
          refine U_begin (late := fun i => decide (11 ≤ i)) (S := fun u => u.cell? ⟨lb, lo + j, none⟩ = some (.bool p) ∧ u.cell? ⟨mb, mo + j, none⟩ = some (.bool q)) (by kernel_rfl) ?_
          have hszr' : w4.heap.size ≤ wr.drew.heap.size := hbr.size
          generalize wr.drew = wd at *
          refine U_take2 8 (i := 0) (v := .slice oa j oc) rfl (by kernel_rfl) (by kernel_rfl) (by kernel_rfl) (by kernel_rfl) (by kernel_rfl) (fun _ _ _ h => h) (.inl ⟨rfl, fun u hu => (by go_simp)⟩) ⟨hl1, hm1⟩ ?_
          refine U_take2 8 (i := 1) (v := .slice (some ⟨lb, lo, none⟩) C lc) rfl (by kernel_rfl) (by kernel_rfl) (by kernel_rfl) (by kernel_rfl) (by kernel_rfl) (fun _ _ _ h => h) (.inl ⟨rfl, fun u hu => (by go_simp)⟩) ⟨hl1, hm1⟩ ?_
          refine U_take2 8 (i := 2) (v := .int .i64 j) rfl (by kernel_rfl) (by kernel_rfl) (by kernel_rfl) (by kernel_rfl) (by kernel_rfl) (fun _ _ _ h => h) (.inl ⟨rfl, fun u hu => (by go_simp)⟩) ⟨hl1, hm1⟩ ?_
          refine U_take2 8 (i := 3) (v := .pointer (some ⟨lb, lo + j, none⟩)) rfl (by kernel_rfl) (by kernel_rfl) (by kernel_rfl) (by kernel_rfl) (by kernel_rfl) (fun _ _ _ h => h) (.inl ⟨rfl, fun u hu => (by go_simp)⟩) ⟨hl1, hm1⟩ ?_
          refine U_take2 8 (i := 4) (v := .bool p) rfl (by kernel_rfl) (by kernel_rfl) (by kernel_rfl) (by kernel_rfl) (by kernel_rfl) (fun _ _ _ h => h) (.inl ⟨rfl, fun u hu => (by obtain ⟨h1, h2⟩ := hu; go_simp)⟩) ⟨hl1, hm1⟩ ?_
          refine U_take2 8 (i := 5) (v := .slice (some ⟨mb, mo, none⟩) C mc) rfl (by kernel_rfl) (by kernel_rfl) (by kernel_rfl) (by kernel_rfl) (by kernel_rfl) (fun _ _ _ h => h) (.inl ⟨rfl, fun u hu => (by go_simp)⟩) ⟨hl1, hm1⟩ ?_
          refine U_take2 8 (i := 6) (v := .int .i64 j) rfl (by kernel_rfl) (by kernel_rfl) (by kernel_rfl) (by kernel_rfl) (by kernel_rfl) (fun _ _ _ h => h) (.inl ⟨rfl, fun u hu => (by go_simp)⟩) ⟨hl1, hm1⟩ ?_
          refine U_take2 8 (i := 7) (v := .pointer (some ⟨mb, mo + j, none⟩)) rfl (by kernel_rfl) (by kernel_rfl) (by kernel_rfl) (by kernel_rfl) (by kernel_rfl) (fun _ _ _ h => h) (.inl ⟨rfl, fun u hu => (by go_simp)⟩) ⟨hl1, hm1⟩ ?_
          refine U_take2 8 (i := 8) (v := .bool q) rfl (by kernel_rfl) (by kernel_rfl) (by kernel_rfl) (by kernel_rfl) (by kernel_rfl) (fun _ _ _ h => h) (.inl ⟨rfl, fun u hu => (by obtain ⟨h1, h2⟩ := hu; go_simp)⟩) ⟨hl1, hm1⟩ ?_
          refine U_take2 8 (i := 9) (v := .bool (!(p == q))) rfl (by kernel_rfl) (by kernel_rfl) (by kernel_rfl) (by kernel_rfl) (by kernel_rfl) (fun _ _ _ h => h) (.inl ⟨rfl, fun u hu => (by go_simp)⟩) ⟨hl1, hm1⟩ ?_
          refine U_step (j := 10) (by kernel_rfl) rfl (fun K hK => ?_)
          go_simp
          have gal : Below wd.heap.size wd (wd.alloc (.cells #[.bool (!(p == q))] 4)) := (Below.refl _ _).alloc (Nat.le_refl _) _
          refine hK.out _ _ (.inr ⟨(gal.cell (p := ⟨lb, lo + j, none⟩) (Nat.lt_of_lt_of_le hlbl hszr')).trans hl1, (gal.cell (p := ⟨mb, mo + j, none⟩) (Nat.lt_of_lt_of_le hmbl hszr')).trans hm1⟩) ?_
          clear hK K gal
          refine U_step (j := 11) (by kernel_rfl) rfl (fun K hK => ?_)
          rw [if_pos (show Region.wanted _ _ = true by simp [Region.wanted])]
          refine app_bool_op _ _ rfl w4.heap.size _ (bitsL Z j) rfl hown _ ((fun a b => a != b) p q) rfl (by cases p <;> cases q <;> rfl) (by rw [bitsL_length]; omega) hszr' ?_
          intro v' w9 hown' hb9
          refine hK.out _ _ (.inl rfl) ?_
          clear hK K
          refine U_step (j := 12) (by kernel_rfl) rfl (fun K hK => ?_)
          go_simp
          refine hK.out _ _ (.inl rfl) ?_
          clear hK K
          refine U_done (by kernel_rfl) ?_ _
          replace hown' : OwnB w9 w4.heap.size v' (bitsL Z (j + 1)) := by rw [bitsL_succ, HZ1.out]; exact hown'
          go_wp2
          go_roundw
          case rel => exact ⟨j + 1, by go_num, by omega, hown', hbr.trans hb9⟩
          case measure => simp [intOf] <;> omega
        · obtain rfl : j = C := by omega
          have HO := hid (of_fn' (z := Z) hown.row (by rw [bitsL_length]; omega) (by rw [bitsL_length]; omega) (fun i hi => bitsL_get _ _ _ (by rw [bitsL_length] at hi; exact hi)) (by rw [bitsL_length]; exact HOF.out.1) (by have := HOF.out.2; omega))
          have hb6 := hb.trans (hbr.mono hsz4)
          go_wp2_with fail
          (with_reducible refine HO.out.mono ?_); rintro e w6 ⟨q, rfl, hq, gg⟩
          replace hb6 := hb6.trans (gg.mono hb6.size)
          obtain ⟨qg, qa, qn, qc, rfl⟩ := hq.num.shape4
          have HTO := hid (told_fn hq.num (by have := HOF.out.2; omega) (Nums.nil _) (fun x h => by cases h) (by decide))
          rw [toldRes_nil] at HTO
          clear gg
          go_wp2_with fail
          (with_reducible refine HTO.out.mono ?_); rintro e w7 ⟨rfl, gg⟩
          replace hb6 := hb6.trans (gg.mono hb6.size)
          go_wp2
          go_ret2
          exact ⟨by rw [HR2.out]; rfl, hb6⟩
theorem xorR_fn (a b : List UInt8) (ha : a.length ≤ 2000000) (hb : b.length ≤ 2000000) (w : World) :
    Calls Tryz.prog 42 #[.string ⟨a.toArray⟩, .string ⟨b.toArray⟩] w fun e w' => e = .returned (.tuple #[.string ⟨(xorRes a b).1.toArray⟩, .int .i64 (xorRes a b).2]) ∧ Below w.heap.size w w' := by
  have HC := hid (xorR_bit a b ha hb w)
  go_enter Tryz.func42, Tryz.ntmps42
  go_wp2_with fail
  (with_reducible refine HC.out.mono ?_); rintro e w1 ⟨rfl, gg⟩
  go_wp2
  go_ret2
  exact ⟨rfl, gg⟩
end Go.Proofs.YtkhgoeippamobaaGreatDoor
