/-
  Digits of a base: the text of a number.
-/
import Derived.Test.YtkhgoeippamobaaGreatDoorBy
import Derived.BigRegion
import Derived.Lib.BufferRead
namespace Go.Proofs.YtkhgoeippamobaaGreatDoor
open Go.RowKit
theorem Tryz.info5 : (Tryz.prog.info? 5).map (fun i => (i.zero, i.size, i.bytes)) = some (some (.int .u8 0), 1, 1) := by kernel_rfl
/-- all blocks but a value's own are as they were -/
def KeepBut (w w' : World) (v : Value) : Prop := w.heap.size ≤ w'.heap.size ∧ ∀ k, k < w.heap.size → some k ≠ v.ownBlock → w'.heap[k]? = w.heap[k]?
theorem Own.block_lt {ik : IntKind} {e : TypeId} {w : World} {base : Nat} {v : Value} {n : Nat} {f : Nat → Nat} (h : Own ik e w base v n f) (g : Nat) (hg : v.ownBlock = some g) : g < w.heap.size := by
  obtain ⟨hl, ⟨hv, _⟩ | ⟨g', cap, cur, hv, _, hh, _⟩⟩ := h
  · subst hv; simp [Value.ownBlock] at hg
  · subst hv
    simp [Value.ownBlock] at hg
    subst hg
    exact (Array.getElem?_eq_some_iff.1 hh).1
theorem Own.keepBut {ik : IntKind} {e : TypeId} {w w' : World} {base : Nat} {u v : Value} {n : Nat} {f : Nat → Nat} (h : Own ik e w base u n f) (hk : KeepBut w w' v) (hne : ∀ g, v.ownBlock = some g → g < base) : Own ik e w' base u n f := by
  obtain ⟨hl, ⟨hv, h0⟩ | ⟨g', cap, cur, hv, hb, hh, hr⟩⟩ := h
  · exact ⟨hl, .inl ⟨hv, h0⟩⟩
  · refine ⟨hl, .inr ⟨g', cap, cur, hv, hb, ?_, hr⟩⟩
    rw [hk.2 g' (Array.getElem?_eq_some_iff.1 hh).1 (fun e => by have := hne g' e.symm; omega)]
    exact hh
def lenOf : Value → Nat
  | .slice _ l _ => l
  | _ => 0
theorem Own.lenOf {ik : IntKind} {e : TypeId} {w : World} {base : Nat} {v : Value} {n : Nat} {f : Nat → Nat} (h : Own ik e w base v n f) : lenOf v = n := by
  obtain ⟨a, c, rfl⟩ := h.shape
  rfl
section
variable {w : World} {ops : Array Oper} {rest : List Oper} {o : Oper} {a : Act} {Q : Exit → Act → World → Prop}
/-- 'append(s, x)', s a row of bytes of the call's own -/
theorem app_u8 (hgd : o.guard = none) (s x : Operand)
    (ho : o.op = .call { callee := .builtin .append, args := #[s, x], argTypes := #[132, 132] })
    (base : Nat) (v : Value) (n : Nat) (f : Nat → Nat) (hs : a.eval s = v) (hown : Own .u8 5 w base v n f)
    (X : Int) (hx : a.eval x = .slice (some ⟨w.heap.size, 0, none⟩) 1 1) (hX : X = ((f n : Nat) : Int)) (hn : n ≤ 1000000000000) (hbase : base ≤ w.heap.size)
    (h : ∀ v' w', Own .u8 5 w' base v' (n + 1) f → Below base w w' → KeepBut w w' v → wpList Tryz.prog ops Q rest (a.put o.dst v') w') :
    wpList Tryz.prog ops Q (o :: rest) a (w.alloc (.cells #[.int .u8 X] 5)) := by
  subst hX
  obtain ⟨i0, hi, hz0, hz1, hz2⟩ := info_parts Tryz.info5
  refine wpList_append_own _ hgd s x 132 ho base 5 i0 (.int .u8 0) 1 1 Tryz.underlying132 hi hz0 hz1 hz2 rfl (by decide) v n _ hs (World.ownsRow.alloc hown _)
    ⟨w.heap.size, 0, none⟩ 1 1 [.int .u8 ((f n : Nat) : Int)] hx rfl (cell_one_new _ _ _) (by intro u hu; simp at hu; subst hu; rfl) (by unfold maxLen; omega) (by omega) (by simp; omega) ?_
  intro v' w' hown' hgrow _
  refine h v' w' (by unfold Own; rw [cellsK_succ]; exact hown') ?_ ⟨by have := hgrow.size; simp at this; omega, fun k hk hne => (hgrow.block k (by simp; omega) hne).trans (Below.heap_alloc _ _ _ hk)⟩
  refine (((Below.refl base w).alloc hbase _).grown hgrow (by simp; omega) ?_)
  intro k hk
  obtain ⟨hl, ⟨hv, h0⟩ | ⟨g, cap, cur, hv, hg, hr⟩⟩ := hown
  · subst hv; cases hk
  · subst hv
    simp [Value.ownBlock] at hk
    omega
end
/-- the byte of a digit -/
def chN (d : Nat) : Nat := if d < 10 then 48 + d else 87 + d
/-- the digit number i to a base -/
def dgt (b n i : Nat) : Nat := n / b ^ i % b
/-- how many digits to a base: as many as are wanted -/
def dlenF (b : Nat) : Nat → Nat → Nat
  | 0, _ => 0
  | f + 1, n => if n = 0 then 0 else dlenF b f (n / b) + 1
def dlen (b n : Nat) : Nat := dlenF b n n
theorem dlenF_eq (b : Nat) (hb : 2 ≤ b) : ∀ f n, n ≤ f → ∀ k, dlenF b f n ≤ k ↔ n < b ^ k := by
  intro f
  induction f with
  | zero => intro n hn k; have := Nat.pow_pos (n := k) (show 0 < b by omega); simp [dlenF]; omega
  | succ f ih =>
    intro n hn k
    unfold dlenF
    by_cases h0 : n = 0
    · have := Nat.pow_pos (n := k) (show 0 < b by omega)
      rw [if_pos h0]; omega
    · rw [if_neg h0]
      have hlt : n / b < n := Nat.div_lt_self (by omega) (by omega)
      cases k with
      | zero => simp; omega
      | succ k =>
        have := ih (n / b) (by omega) k
        rw [Nat.div_lt_iff_lt_mul (by omega)] at this
        rw [Nat.pow_succ]
        omega
theorem dlen_le_iff (b n k : Nat) (hb : 2 ≤ b) : dlen b n ≤ k ↔ n < b ^ k := dlenF_eq b hb n n (Nat.le_refl _) k
theorem dlen_lt (b n : Nat) (hb : 2 ≤ b) : n < b ^ dlen b n := (dlen_le_iff b n _ hb).1 (Nat.le_refl _)
theorem lt_dlen_iff (b n k : Nat) (hb : 2 ≤ b) : k < dlen b n ↔ b ^ k ≤ n := by
  have := dlen_le_iff b n k hb
  omega
theorem dlen_div (b n k : Nat) (hb : 2 ≤ b) : n / b ^ k = 0 ↔ dlen b n ≤ k := by
  rw [dlen_le_iff b n k hb, Nat.div_eq_zero_iff_lt (Nat.pow_pos (by omega))]
theorem dgt_lt (b n i : Nat) (hb : 2 ≤ b) : dgt b n i < b := Nat.mod_lt _ (by omega)
theorem chN_lt (d : Nat) (h : d < 36) : chN d < 256 := by unfold chN; split <;> omega
theorem dlen_bound (b n : Nat) (hb : 2 ≤ b) : dlen b n ≤ 32 * nlen n := (dlen_le_iff b n _ hb).2 (Nat.lt_of_lt_of_le (lt_nlen n) (Nat.pow_le_pow_left hb _))
/-- the text of a number above 0, without a sign -/
def strOf (b n : Nat) : List UInt8 := (List.range (dlen b n)).map fun t => UInt8.ofNat (chN (dgt b n (dlen b n - 1 - t)))
theorem strOf_length (b n : Nat) : (strOf b n).length = dlen b n := by simp [strOf]
theorem dgt_step (b n k : Nat) : n / b ^ k / b = n / b ^ (k + 1) := by rw [Nat.pow_succ, Nat.div_div_eq_div_mul]
def alphaA : ByteArray := ⟨#[48, 49, 50, 51, 52, 53, 54, 55, 56, 57, 97, 98, 99, 100, 101, 102, 103, 104, 105, 106, 107, 108, 109, 110, 111, 112, 113, 114, 115, 116, 117, 118, 119, 120, 121, 122]⟩
theorem alph : ∀ r, (h : r < 36) → (alphaA[r]'h).toNat = chN r := by decide +kernel
theorem alphI (r : Nat) (h : r < 36) : (((alphaA[r]'h).toNat : Nat) : Int) = ((chN r : Nat) : Int) := by rw [alph r h]
/-- behind i swaps -/
def revF (b n i t : Nat) : Nat := if t < i ∨ dlen b n - i ≤ t then chN (dgt b n (dlen b n - 1 - t)) else chN (dgt b n t)
theorem revF_low (b n i : Nat) (h : i < dlen b n / 2) : revF b n i i = chN (dgt b n i) := by unfold revF; rw [if_neg (by omega)]
theorem revF_high (b n i : Nat) (h : i < dlen b n / 2) : revF b n i (dlen b n - 1 - i) = chN (dgt b n (dlen b n - 1 - i)) := by unfold revF; rw [if_neg (by omega)]
theorem revF_end (b n t : Nat) (h : t < dlen b n) : revF b n (dlen b n / 2) t = chN (dgt b n (dlen b n - 1 - t)) := by
  unfold revF
  by_cases e : t < dlen b n / 2 ∨ dlen b n - dlen b n / 2 ≤ t
  · rw [if_pos e]
  · rw [if_neg e]; congr 2; omega
theorem revF_succ (b n i t : Nat) (h : i < dlen b n / 2) (ht : t < dlen b n) : (if t = dlen b n - 1 - i then chN (dgt b n i) else if t = i then chN (dgt b n (dlen b n - 1 - i)) else revF b n i t) = revF b n (i + 1) t := by
  unfold revF
  by_cases e1 : t = dlen b n - 1 - i
  · rw [if_pos e1, if_pos (.inr (by omega))]; congr 2; omega
  · rw [if_neg e1]
    by_cases e2 : t = i
    · rw [if_pos e2, if_pos (.inl (by omega)), e2]
    · rw [if_neg e2]
      by_cases e3 : t < i ∨ dlen b n - i ≤ t
      · rw [if_pos e3, if_pos (by omega)]
      · rw [if_neg e3, if_neg (by omega)]
theorem run_str_of (W : World) (bv : Value) (base b n : Nat) (h : Own .u8 5 W base bv (dlen b n) (fun t => chN (dgt b n (dlen b n - 1 - t)))) (hb2 : 2 ≤ b) (hb : b ≤ 36) : (convert 132 9 bv).run Tryz.prog W = .ok (.string ⟨(strOf b n).toArray⟩) W := by
  obtain ⟨a, cap, rfl, hc, hcell⟩ := h.row
  have hlen := strOf_length b n
  rcases h.2 with ⟨hv, h0⟩ | ⟨g, cap', cur, hv, _⟩
  · simp only [Value.slice.injEq] at hv
    obtain ⟨rfl, h1, rfl⟩ := hv
    rw [h1, Lib.run_convert_nil_bytes W 132 9 5 0 Tryz.underlying132 Tryz.underlying5 Tryz.underlying9]
    rw [h1] at hlen
    rw [List.eq_nil_of_length_eq_zero hlen]
  · simp only [Value.slice.injEq] at hv
    obtain ⟨rfl, _, rfl⟩ := hv
    have hb := run_convert_bytes_back (P := Tryz.prog) W 132 9 5 ⟨g, 0, none⟩ cap (strOf b n) Tryz.underlying132 Tryz.underlying5 Tryz.underlying9 (fun j hj => by
      rw [hlen] at hj
      have h1 := h.cell j hj
      have h2 := chN_lt _ (Nat.lt_of_lt_of_le (dgt_lt b n (dlen b n - 1 - j) hb2) hb)
      have e : (⟨g, 0, none⟩ : Addr).add j = ⟨g, j, none⟩ := by simp [Addr.add]; intro h; exact h.symm
      rw [e, h1]
      simp [strOf]
      omega)
    rw [hlen] at hb
    exact hb
set_option maxRecDepth 100000 in
set_option maxHeartbeats 4000000 in
theorem based_nat {v : Value} {n : Nat} {w : World} (h : NatRep w v n) (hl : nlen n ≤ 1000000) (b : Nat) (hb2 : 2 ≤ b) (hb36 : b ≤ 36) :
    Calls Tryz.prog 140 #[v, .int .i64 b] w fun e w' => e = .returned (.string ⟨(strOf b n).toArray⟩) ∧ Below w.heap.size w w' := by
  obtain ⟨a, cap, rfl⟩ := h.shape
  have hdb := dlen_bound b n hb2
  go_enter Tryz.func140, Tryz.ntmps140
  go_wp2
  go_loopw [0, 5] (fun av bv wr => ∃ k : Nat, k ≤ dlen b n ∧ NatRep wr av (n / b ^ k) ∧ Own .u8 5 wr w.heap.size bv k (fun i => chN (dgt b n i)) ∧ Below w.heap.size w wr)
    (fun _ bv _ => dlen b n - lenOf bv)
  case atStart => exact ⟨0, Nat.zero_le _, by rw [Nat.pow_zero, Nat.div_one]; exact h, Own.nil, Below.refl _ _⟩
  case round =>
    obtain ⟨k, hk, hav, hbv, hbr⟩ := hrel
    obtain ⟨a1, cap1, rfl⟩ := hav.shape
    by_cases hlt : k < dlen b n
    · have hne : n / b ^ k ≠ 0 := fun h0 => by have := (dlen_div b n k hb2).1 h0; omega
      have hlen : 0 < nlen (n / b ^ k) := by have := nlen_eq_zero (n / b ^ k); omega
      have hnl : nlen (n / b ^ k) ≤ nlen n := nlen_mono (Nat.div_le_self _ _)
      have hd := dgt_lt b n k hb2
      have hsz := hbr.size
      have hd36 : dgt b n k < 36 := by omega
      have hstep := hid (dgt_step b n k)
      have hc := hid (by_nat hav (by omega) b (by omega) (by omega))
      have hbw : IntKind.u32.wrap (b : Int) = b := by rw [wrap_u32_nat, Nat.mod_eq_of_lt (by omega)]
      have hdg : n / b ^ k % b = dgt b n k := rfl
      rw [hdg] at hc
      clear hdg
      go_wp2_with fail
      (with_reducible refine hc.out.mono ?_); rintro e w1 ⟨⟨u, rfl, hu⟩, hb1⟩
      obtain ⟨ua, uc, rfl⟩ := hu.shape
      have hul : nlen (n / b ^ k / b) < nlen (n / b ^ k) ∨ (nlen (n / b ^ k / b) = nlen (n / b ^ k)) := by have := nlen_mono (Nat.div_le_self (n / b ^ k) b); omega
      have hbv1 := hbv.keep hb1 (Nat.le_refl _)
      have hsz1 := hb1.size
      go_wp2_with (at_builtin; refine app_u8 rfl _ _ rfl w.heap.size _ k _ rfl hbv1 _ rfl ?_ (by omega) (by omega) ?_; rotate_left; intro v' w2 hown2 hb2 hkb)
      · go_roundw
        case rel =>
          refine ⟨k + 1, hlt, ?_, hown2, hbr.trans ((hb1.mono hsz).trans hb2)⟩
          have hu2 := (hu.keepBut hkb (fun g hg => hbv.block_lt g hg)).nat
          rw [← hstep.out]
          exact hu2
        case measure =>
          have e1 := hbv.lenOf
          have e2 := hown2.lenOf
          omega
      · exact alphI _ hd36
    · obtain rfl : k = dlen b n := by omega
      have hz : ¬ 0 < nlen (n / b ^ dlen b n) := by
        rw [(dlen_div b n (dlen b n) hb2).2 (Nat.le_refl _)]; decide
      obtain ⟨ba, bc, rfl⟩ := hbv.shape
      have hbv0 := hbv.congr (g := revF b n 0) (fun t ht => by unfold revF; rw [if_neg (by omega)])
      clear hbv hav hlt hk
      obtain ⟨wo, rfl⟩ : ∃ wo : World, wo = wr := ⟨_, rfl⟩
      go_wp2
      go_loopw [28] (fun iv wr => ∃ i : Nat, iv = .int .i64 i ∧ i ≤ dlen b n / 2 ∧ Own .u8 5 wr w.heap.size (.slice ba (dlen b n) bc) (dlen b n) (revF b n i) ∧ Below w.heap.size w wr)
        (fun iv _ => dlen b n / 2 - (intOf iv).toNat)
      case atStart => exact ⟨0, rfl, Nat.zero_le _, hbv0, hbr⟩
      case round =>
        obtain ⟨i, rfl, hi, hown, hbw⟩ := hrel
        clear hbv0 hbr
        by_cases hlt2 : i < dlen b n / 2
        · obtain ⟨g, rfl⟩ := hown.addr (by omega)
          have hc1 := hown.cell i (by omega)
          have hc2 := hown.cell (dlen b n - 1 - i) (by omega)
          have hf1 := hown.free i
          have hf2 := hown.free (dlen b n - 1 - i)
          rw [revF_low b n i hlt2] at hc1
          rw [revF_high b n i hlt2] at hc2
          have hne : i < dlen b n - 1 - i := by omega
          go_wp2
          go_region
          all_goals
            go_wp2
            go_roundw
            case rel =>
              have hs := (hown.store i (chN (dgt b n (dlen b n - 1 - i)))).store (dlen b n - 1 - i) (chN (dgt b n i))
              have hs2 : Own .u8 5 _ w.heap.size _ _ (revF b n (i + 1)) := hs.congr (fun t ht => revF_succ b n i t hlt2 ht)
              have hge := hown.base_le
              exact ⟨i + 1, by go_num, by omega, hs2, ((hbw.setCell (p := ⟨g, i, none⟩) hge _).setCell (p := ⟨g, dlen b n - 1 - i, none⟩) hge _).drew⟩
            case measure => simp [intOf] <;> omega
        · obtain rfl : i = dlen b n / 2 := by omega
          have hrun := run_str_of wr _ _ b n (hown.congr (fun t ht => revF_end b n t ht)) hb2 hb36
          go_wp2
          go_ret
          exact ⟨rfl, hbw⟩
end Go.Proofs.YtkhgoeippamobaaGreatDoor
