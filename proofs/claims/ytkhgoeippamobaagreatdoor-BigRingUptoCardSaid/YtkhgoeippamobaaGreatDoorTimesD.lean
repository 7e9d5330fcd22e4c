/-
  The reference: the product.
-/
import Derived.Test.YtkhgoeippamobaaGreatDoorTimesMath10
import Derived.BigQuiet
import Derived.Test.YtkhgoeippamobaaGreatDoorMake
namespace Go.Proofs.YtkhgoeippamobaaGreatDoor
open Go.RowKit
theorem wrap_i64_nat (x : Nat) (h : x < 9223372036854775808) : IntKind.i64.wrap (x : Int) = x := by
  simp [IntKind.wrap, IntKind.bits, IntKind.signed]
  omega
section
variable {ops : Array Oper} {rest : List Oper} {o : Oper} {a : Act} {Q : Exit → Act → World → Prop}
/-- 'make(nat, n)' of the reference -/
theorem mk_i64 (w : World) (hgd : o.guard = none) (l c : Operand) (ho : o.op = Op.makeSlice 54 l c) (base n : Nat) (L C : Int) (hl : a.eval l = .int .i64 L) (hc : a.eval c = .int .i64 C) (hL : L = (n : Int)) (hC : C = (n : Int)) (hn : n ≤ 1000000000000) (hbase : base ≤ w.heap.size)
    (h : ∀ w', Own .i64 3 w' base (.slice (some ⟨w.heap.size, 0, none⟩) n n) n (fun _ => 0) → Below base w w' → w'.heap.size = w.heap.size + 1 → Below w.heap.size w w' → wpList Tryz.prog ops Q rest (a.put o.dst (.slice (some ⟨w.heap.size, 0, none⟩) n n)) w') :
    wpList Tryz.prog ops Q (o :: rest) a w := by
  obtain ⟨i0, hi, hz0, hz1, hz2⟩ := info_parts Tryz.infoInt
  subst hL
  subst hC
  have hm := run_make (P := Tryz.prog) w 54 3 i0 (.int .i64 0) Tryz.underlying54 hi hz0 .i64 .i64 n n (by omega) (by omega) (by rw [hz2]; omega) (by omega)
  refine wpList_plain hgd fun K hK' => ?_
  unfold Oper.wp
  simp only [Int.toNat_natCast] at hm
  simp [execOp, ho, hl, hc, hm, Result.andThen]
  refine hK' _ _ (h _ ?_ ?_ ?_ ?_)
  · have := World.ownsRow_lit (e := 3) (size := 1) w (madeCells (Value.int IntKind.i64 0).cells (n * 1)) n hbase (by unfold maxLen; omega) (size_madeCells _ _)
    unfold Own
    rw [← cellsK_make]
    rw [hz1]
    exact this
  · exact (Below.refl base w).alloc hbase _
  · simp
  · exact (Below.refl _ w).alloc (Nat.le_refl _) _
end
set_option maxRecDepth 100000 in
set_option maxHeartbeats 4000000 in
theorem timesD_fn {v u : Value} {m n : Nat} {w : World} (hv : DecRep w v m) (hu : DecRep w u n) (hm : dlen 10 m ≤ 10000000) (hn : dlen 10 n ≤ 10000000) :
    Calls Tryz.prog 115 #[v, u] w (FreshDec (m * n) w) := by
  obtain ⟨a, cap, rfl⟩ := hv.shape
  obtain ⟨a', cap', rfl⟩ := hu.shape
  go_enter Tryz.func115, Tryz.ntmps115
  go_wp2_with (at_make; refine mk_i64 _ rfl _ _ rfl w.heap.size (dlen 10 m + dlen 10 n) _ _ rfl rfl (by simp) (by simp) (by omega) (Nat.le_refl _) ?_; intro w1 hown hb hz hb1)
  go_loopw [18] (fun i wr => ∃ j : Nat, i = .int .i64 j ∧ j ≤ dlen 10 m ∧ Own .i64 3 wr w.heap.size (.slice (some ⟨w.heap.size, 0, none⟩) (dlen 10 m + dlen 10 n) (dlen 10 m + dlen 10 n)) (dlen 10 m + dlen 10 n) (dgt 10 (sX m n j)) ∧ Below w.heap.size w wr)
    (fun i _ => dlen 10 m - (intOf i).toNat)
  case atStart => exact ⟨0, rfl, Nat.zero_le _, hown.congr (fun t _ => by rw [sX_zero]; simp [dgt]), hb⟩
  case round =>
    obtain ⟨i, rfl, hi, hown1, hbr⟩ := hrel
    by_cases hlt : i < dlen 10 m
    · obtain ⟨a1, cap1, hv1, _, hcell⟩ := hv.below hbr
      simp only [Value.slice.injEq, true_and] at hv1
      obtain ⟨rfl, rfl⟩ := hv1
      obtain ⟨b, off, rfl, _, hc0⟩ := hcell (by omega)
      have hcj := hc0 i hlt
      have hd := dgt_lt 10 m i (by decide)
      clear hown hb hz hb1
      obtain ⟨wo, rfl⟩ : ∃ wo : World, wo = wr := ⟨_, rfl⟩
      go_wp2
      go_loopw [7, 8] (fun carry kv wr => ∃ k : Nat, kv = .int .i64 k ∧ i + k ≤ dlen 10 m + dlen 10 n ∧ carry = .int .i64 (cX m n i k) ∧ Own .i64 3 wr w.heap.size (.slice (some ⟨w.heap.size, 0, none⟩) (dlen 10 m + dlen 10 n) (dlen 10 m + dlen 10 n)) (dlen 10 m + dlen 10 n) (fun t => if t < i + k then dgt 10 (tX m n i k) t else dgt 10 (sX m n i) t) ∧ Below w.heap.size w wr)
        (fun _ k _ => dlen 10 m + dlen 10 n + 1 - (intOf k).toNat)
      case atStart =>
        refine ⟨0, rfl, by omega, by rw [cX_zero]; rfl, hown1.congr (fun t _ => ?_), hbr⟩
        by_cases e : t < i
        · rw [if_pos (by omega), tX_start m n i t e]
        · rw [if_neg (by omega)]
      case round =>
        obtain ⟨k, rfl, hk, rfl, hown2, hbr2⟩ := hrel
        have hsz2 := hbr2.size
        by_cases hlt2 : k < dlen 10 n
        · skip
          have hoc := hown2.cell (i + k) (by omega)
          rw [if_neg (by omega)] at hoc
          have hof := hown2.free (i + k)
          have hdn := dgt_lt 10 n k (by decide)
          have hds := dgt_lt 10 (sX m n i) (i + k) (by decide)
          have hcx := cX_lt m n i k
          have hpp : dgt 10 m i * dgt 10 n k ≤ 9 * 9 := Nat.mul_le_mul (by omega) (by omega)
          have hpc : ((dgt 10 m i : Nat) : Int) * ((dgt 10 n k : Nat) : Int) = ((dgt 10 m i * dgt 10 n k : Nat) : Int) := by rw [Int.natCast_mul]
          have HU1 := hid (uX_mod m n i k)
          have HU2 := hid (uX_div m n i k)
          have HU := hid (show uX m n i k = dgt 10 (sX m n i) (i + k) + dgt 10 m i * dgt 10 n k + cX m n i k from rfl)
          have hcd := hid (fun (q : Nat) => dig_fn (hu.below (hbr2.trans (below_drewN (Below.refl w.heap.size wr) q))) (by omega) k (by omega))
          have hwik : IntKind.i64.wrap ((i : Int) + (k : Int)) = ((i + k : Nat) : Int) := by rw [← Int.natCast_add]; exact wrap_i64_nat _ (by omega)
          have hw2 : IntKind.i64.wrap (((dgt 10 m i : Nat) : Int) * ((dgt 10 n k : Nat) : Int)) = ((dgt 10 m i * dgt 10 n k : Nat) : Int) := by rw [hpc]; exact wrap_i64_nat _ (by omega)
          have hw3 : IntKind.i64.wrap (((dgt 10 (sX m n i) (i + k) : Nat) : Int) + ((dgt 10 m i * dgt 10 n k : Nat) : Int)) = ((dgt 10 (sX m n i) (i + k) + dgt 10 m i * dgt 10 n k : Nat) : Int) := by rw [← Int.natCast_add]; exact wrap_i64_nat _ (by omega)
          have hw4 : IntKind.i64.wrap (((dgt 10 (sX m n i) (i + k) + dgt 10 m i * dgt 10 n k : Nat) : Int) + ((cX m n i k : Nat) : Int)) = ((uX m n i k : Nat) : Int) := by rw [← Int.natCast_add, HU.out]; exact wrap_i64_nat _ (by omega)
          have hul : uX m n i k < 1000 := by rw [HU.out]; omega
          have hix1 : 0 ≤ (i : Int) + (k : Int) := by omega
          have hix2 : (i : Int) + (k : Int) < (dlen 10 m : Int) + (dlen 10 n : Int) := by omega
          have hix3 : ((i : Int) + (k : Int)).toNat = i + k := by omega
          have hix4 : (0 ≤ (i : Int) + (k : Int) ∧ (i : Int) + (k : Int) < (dlen 10 m : Int) + (dlen 10 n : Int)) = True := by simp [hix1, hix2]
          have hik : i + k < dlen 10 m + dlen 10 n := by omega
          clear hcell hc0 hcj hpc
          obtain ⟨a2, cap2, hv2, _, hcell2⟩ := hv.below hbr2
          simp only [Value.slice.injEq, true_and] at hv2
          obtain ⟨rfl, rfl⟩ := hv2
          obtain ⟨b2, off2, hbo, _, hc2⟩ := hcell2 (by omega)
          simp only [Option.some.injEq, Addr.mk.injEq, and_true] at hbo
          obtain ⟨rfl, rfl⟩ := hbo
          have hcj := hc2 i hlt
          clear hc2 hcell2
          go_wp2_with fail
          go_quiet ((go_at_call 130; exact Calls.quiet_of_same (hcd.out _)))
          have hX : ((uX m n i k : Nat) : Int) = ((dgt 10 (sX m n i) (i + k) : Nat) : Int) + ((dgt 10 m i : Nat) : Int) * ((dgt 10 n k : Nat) : Int) + ((cX m n i k : Nat) : Int) := by rw [HU.out]; simp
          have HX := hid hX
          clear hX
          go_wp2
          go_roundw
          case rel =>
            refine ⟨k + 1, by go_num, by omega, ?_, ?_, (below_drewN hbr2 nq).setCell (Nat.le_refl _) _⟩
            · rw [← HU2.out, ← HX.out]; rfl
            · rw [← HX.out, show ((uX m n i k : Nat) : Int) % 10 = ((uX m n i k % 10 : Nat) : Int) by omega, HU1.out]
              have hown3 : Own .i64 3 (wr.drewN nq) w.heap.size (.slice (some ⟨w.heap.size, 0, none⟩) (dlen 10 m + dlen 10 n) (dlen 10 m + dlen 10 n)) (dlen 10 m + dlen 10 n) (fun t => if t < i + k then dgt 10 (tX m n i k) t else dgt 10 (sX m n i) t) := hown2
              refine (hown3.store (i + k) _).congr ?_
              intro t ht
              show (if t = i + k then _ else if t < i + k then _ else _) = _
              by_cases e : t = i + k
              · rw [if_pos e, if_pos (by omega), e]
              · rw [if_neg e]
                by_cases e2 : t < i + k
                · rw [if_pos e2, if_pos (by omega), tX_low m n i k t e2]
                · rw [if_neg e2, if_neg (by omega)]
          case measure => simp [intOf] <;> omega
        · by_cases hc0' : 0 < cX m n i k
          · have hin := cX_in m n i k (by omega) hc0'
            have hoc := hown2.cell (i + k) (by omega)
            rw [if_neg (by omega)] at hoc
            have hof := hown2.free (i + k)
            have hdn := dgt_lt 10 n k (by decide)
            have hds := dgt_lt 10 (sX m n i) (i + k) (by decide)
            have hcx := cX_lt m n i k
            have hpp : dgt 10 m i * dgt 10 n k ≤ 9 * 9 := Nat.mul_le_mul (by omega) (by omega)
            have hpc : ((dgt 10 m i : Nat) : Int) * ((dgt 10 n k : Nat) : Int) = ((dgt 10 m i * dgt 10 n k : Nat) : Int) := by rw [Int.natCast_mul]
            have HU1 := hid (uX_mod m n i k)
            have HU2 := hid (uX_div m n i k)
            have HU := hid (show uX m n i k = dgt 10 (sX m n i) (i + k) + dgt 10 m i * dgt 10 n k + cX m n i k from rfl)
            have hcd := hid (fun (q : Nat) => dig_fn (hu.below (hbr2.trans (below_drewN (Below.refl w.heap.size wr) q))) (by omega) k (by omega))
            have hwik : IntKind.i64.wrap ((i : Int) + (k : Int)) = ((i + k : Nat) : Int) := by rw [← Int.natCast_add]; exact wrap_i64_nat _ (by omega)
            have hw2 : IntKind.i64.wrap (((dgt 10 m i : Nat) : Int) * ((dgt 10 n k : Nat) : Int)) = ((dgt 10 m i * dgt 10 n k : Nat) : Int) := by rw [hpc]; exact wrap_i64_nat _ (by omega)
            have hw3 : IntKind.i64.wrap (((dgt 10 (sX m n i) (i + k) : Nat) : Int) + ((dgt 10 m i * dgt 10 n k : Nat) : Int)) = ((dgt 10 (sX m n i) (i + k) + dgt 10 m i * dgt 10 n k : Nat) : Int) := by rw [← Int.natCast_add]; exact wrap_i64_nat _ (by omega)
            have hw4 : IntKind.i64.wrap (((dgt 10 (sX m n i) (i + k) + dgt 10 m i * dgt 10 n k : Nat) : Int) + ((cX m n i k : Nat) : Int)) = ((uX m n i k : Nat) : Int) := by rw [← Int.natCast_add, HU.out]; exact wrap_i64_nat _ (by omega)
            have hul : uX m n i k < 1000 := by rw [HU.out]; omega
            have hix1 : 0 ≤ (i : Int) + (k : Int) := by omega
            have hix2 : (i : Int) + (k : Int) < (dlen 10 m : Int) + (dlen 10 n : Int) := by omega
            have hix3 : ((i : Int) + (k : Int)).toNat = i + k := by omega
            have hix4 : (0 ≤ (i : Int) + (k : Int) ∧ (i : Int) + (k : Int) < (dlen 10 m : Int) + (dlen 10 n : Int)) = True := by simp [hix1, hix2]
            have hik : i + k < dlen 10 m + dlen 10 n := by omega
            clear hcell hc0 hcj hpc
            obtain ⟨a2, cap2, hv2, _, hcell2⟩ := hv.below hbr2
            simp only [Value.slice.injEq, true_and] at hv2
            obtain ⟨rfl, rfl⟩ := hv2
            obtain ⟨b2, off2, hbo, _, hc2⟩ := hcell2 (by omega)
            simp only [Option.some.injEq, Addr.mk.injEq, and_true] at hbo
            obtain ⟨rfl, rfl⟩ := hbo
            have hcj := hc2 i hlt
            clear hc2 hcell2
            go_wp2_with fail
            go_quiet ((go_at_call 130; exact Calls.quiet_of_same (hcd.out _)))
            have hX : ((uX m n i k : Nat) : Int) = ((dgt 10 (sX m n i) (i + k) : Nat) : Int) + ((dgt 10 m i : Nat) : Int) * ((dgt 10 n k : Nat) : Int) + ((cX m n i k : Nat) : Int) := by rw [HU.out]; simp
            have HX := hid hX
            clear hX
            go_wp2
            go_roundw
            case rel =>
              refine ⟨k + 1, by go_num, by omega, ?_, ?_, (below_drewN hbr2 nq).setCell (Nat.le_refl _) _⟩
              · rw [← HU2.out, ← HX.out]; rfl
              · rw [← HX.out, show ((uX m n i k : Nat) : Int) % 10 = ((uX m n i k % 10 : Nat) : Int) by omega, HU1.out]
                have hown3 : Own .i64 3 (wr.drewN nq) w.heap.size (.slice (some ⟨w.heap.size, 0, none⟩) (dlen 10 m + dlen 10 n) (dlen 10 m + dlen 10 n)) (dlen 10 m + dlen 10 n) (fun t => if t < i + k then dgt 10 (tX m n i k) t else dgt 10 (sX m n i) t) := hown2
                refine (hown3.store (i + k) _).congr ?_
                intro t ht
                show (if t = i + k then _ else if t < i + k then _ else _) = _
                by_cases e : t = i + k
                · rw [if_pos e, if_pos (by omega), e]
                · rw [if_neg e]
                  by_cases e2 : t < i + k
                  · rw [if_pos e2, if_pos (by omega), tX_low m n i k t e2]
                  · rw [if_neg e2, if_neg (by omega)]
            case measure => simp [intOf] <;> omega
          · have hz : cX m n i k = 0 := by omega
            have hE := hown2.congr (g := dgt 10 (sX m n (i + 1))) (fun t ht => by
              show (if t < i + k then _ else _) = _
              by_cases e : t < i + k
              · rw [if_pos e, tX_end m n i k (by omega)]
              · rw [if_neg e, tX_rest m n i k t (by omega) hz (by omega)])
            clear hown2
            go_wp2
            go_roundw
            case rel => exact ⟨i + 1, by go_num, by omega, hE, hbr2⟩
            case measure => simp [intOf] <;> omega
    · obtain rfl : i = dlen 10 m := by omega
      rw [sX_all] at hown1
      have hN := mulX_lt m n
      have hdl := (dlen_le_iff 10 _ _ (by decide)).2 hN
      have hct := hid (trimmedD_row hown1.row (by omega) hN)
      go_wp2_with fail
      (with_reducible refine hct.out.mono ?_); rintro e w' ⟨rfl, rfl⟩
      go_wp2
      go_ret
      exact ⟨_, rfl, hown1.cut hdl, hbr⟩
end Go.Proofs.YtkhgoeippamobaaGreatDoor
