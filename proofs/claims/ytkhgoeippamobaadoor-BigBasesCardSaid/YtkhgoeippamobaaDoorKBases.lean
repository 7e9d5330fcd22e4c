/-
  BasesCard: the law's card and what it alone needs, merged from 5 texts. Conditions: the row's own.
-/
import Derived.Laws.AppendOwnNone
import Derived.Deep.LoopGhost
import Derived.Test.YtkhgoeippamobaaDoorCards
import Derived.Test.YtkhgoeippamobaaDoorTie
import Derived.Deep.DeepHandedRow
import Derived.ProofKit
import Derived.OpenShut
import Derived.Lay
import Derived.MakeChecks
import Derived.ChangeMaps5
import Derived.Test.YtkhgoeippamobaaDoorK1
import Derived.Test.YtkhgoeippamobaaDoorK2
import Derived.Test.YtkhgoeippamobaaDoorK3
/-
  The reference: divided.
-/
namespace Go.Proofs.YtkhgoeippamobaaDoor
open Go.RowKit
theorem dgt_cons (L d t : Nat) (hd : d < 10) : dgt 10 (10 * L + d) t = if t = 0 then d else dgt 10 L (t - 1) := by
  cases t with
  | zero => rw [if_pos rfl]; unfold dgt; rw [Nat.pow_zero, Nat.div_one]; omega
  | succ t =>
    rw [if_neg (by omega), Nat.add_sub_cancel]
    unfold dgt
    rw [Nat.pow_succ, Nat.mul_comm (10 ^ t) 10, ← Nat.div_div_eq_div_mul]
    congr 2
    omega
theorem cons_lt (L d k : Nat) (h : L < 10 ^ k) (hd : d < 10) : 10 * L + d < 10 ^ (k + 1) := by
  rw [Nat.pow_succ]; omega
section
variable {w : World} {ops : Array Oper} {rest : List Oper} {o : Oper} {a : Act} {Q : Exit → Act → World → Prop}
/-- 'append(nat{d}, l...)' -/
theorem app_cat (hgd : o.guard = none) (s x : Operand)
    (ho : o.op = .call { callee := .builtin .append, args := #[s, x], argTypes := #[41, 41] })
    (base : Nat) (d L : Nat) (X : Int) (hX : X = (d : Int)) (hd : d < 10) (hs : a.eval s = .slice (some ⟨w.heap.size, 0, none⟩) 1 1) (A : Option Addr) (cap : Nat) (hx : a.eval x = .slice A (dlen 10 L) cap) (hrow : DecRep w (.slice A (dlen 10 L) cap) L) (hnil : A = none → cap = 0) (hn : dlen 10 L ≤ 1000000000) (hbase : base ≤ w.heap.size)
    (h : ∀ v' w', Own .i64 3 w' base v' (dlen 10 L + 1) (dgt 10 (10 * L + d)) → Below base w w' → wpList Tryd.prog ops Q rest (a.put o.dst v') w') :
    wpList Tryd.prog ops Q (o :: rest) a (w.alloc (.cells #[.int .i64 X] 3)) := by
  subst hX
  obtain ⟨i0, hi, hz0, hz1, hz2⟩ := info_parts Tryd.infoInt
  have hown : (w.alloc (.cells #[.int .i64 (d : Int)] 3)).ownsRow base 3 1 (.slice (some ⟨w.heap.size, 0, none⟩) 1 1) 1 [.int .i64 (d : Int)] := World.ownsRow_lit (e := 3) (size := 1) w #[.int .i64 (d : Int)] 1 hbase (by unfold maxLen; omega) rfl
  have hbl : Below base w (w.alloc (.cells #[.int .i64 (d : Int)] 3)) := (Below.refl base w).alloc hbase _
  obtain ⟨A', cap', hv, hcap, hcell⟩ := hrow
  simp only [Value.slice.injEq, true_and] at hv
  obtain ⟨rfl, rfl⟩ := hv
  have hcells : cellsK .i64 (dgt 10 (10 * L + d)) (dlen 10 L + 1) = [.int .i64 (d : Int)] ++ cellsK .i64 (dgt 10 L) (dlen 10 L) := by
    unfold cellsK
    rw [List.range_succ_eq_map, List.map_cons, List.map_map, dgt_cons L d 0 hd, if_pos rfl]
    refine congrArg (List.cons _) ?_
    apply List.map_congr_left
    intro t _
    simp only [Function.comp]
    rw [dgt_cons L d (t + 1) hd, if_neg (by omega), Nat.add_sub_cancel]
  cases A with
  | none =>
    have h0 : dlen 10 L = 0 := by
      rcases Nat.eq_zero_or_pos (dlen 10 L) with h | h
      · exact h
      · obtain ⟨b, off, he, _⟩ := hcell h
        cases he
    obtain rfl := hnil rfl
    rw [h0] at hx hcells h
    refine wpList_append_own_none hgd s x 41 ho base 3 i0 1 Tryd.underlying41 hi (.slice (some ⟨w.heap.size, 0, none⟩) 1 1) 1 _ hs hown hx (h _ _ ?_ hbl)
    unfold Own
    rw [hcells]
    exact hown
  | some ad =>
    refine wpList_append_own _ hgd s x 41 ho base 3 i0 (.int .i64 0) 1 8 Tryd.underlying41 hi hz0 hz1 hz2 rfl (by decide) _ 1 _ hs hown
      ad (dlen 10 L) cap (cellsK .i64 (dgt 10 L) (dlen 10 L)) hx (by rw [cellsK_length]; omega) ?_ ?_ (by unfold maxLen; omega) (by omega) (by simp; omega) ?_
    · intro j u hj
      have hjl : j < dlen 10 L := by
        have := (List.getElem?_eq_some_iff.1 hj).1
        rwa [cellsK_length] at this
      obtain ⟨b, off, he, hlt, hc⟩ := hcell (by omega)
      obtain rfl : ad = ⟨b, off, none⟩ := by simpa using he
      have h1 := hc j hjl
      rw [cellsK_get _ _ _ _ hjl] at hj
      obtain rfl : (.int .i64 ((dgt 10 L j : Nat) : Int)) = u := by simpa using hj
      rw [show Addr.add ⟨b, off, none⟩ j = ⟨b, off + j, none⟩ from by simp [Addr.add]]
      exact (((Below.refl w.heap.size w).alloc (Nat.le_refl _) (.cells #[.int .i64 (d : Int)] 3)).cell (p := ⟨b, off + j, none⟩) hlt).trans h1
    · intro u hu
      unfold cellsK at hu
      obtain ⟨t, _, rfl⟩ := List.mem_map.1 hu
      rfl
    · intro v' w' hown' hgrow _
      refine h v' w' ?_ ?_
      · unfold Own
        rw [hcells, Nat.add_comm]
        exact hown'
      · refine hbl.grown hgrow (by simp; omega) ?_
        intro k hk
        simp [Value.ownBlock] at hk
        omega
end
/-- the quotient's digits from number j on -/
def fQ (m n j s : Nat) : Nat := if s < j then 0 else dgt 10 (m / n) s
theorem divStep (m n j : Nat) (hn : 0 < n) : 10 * (m / 10 ^ (j + 1) % n) + dgt 10 m j = n * dgt 10 (m / n) j + m / 10 ^ j % n := by
  have h1 := div10_split m j
  have hd := dgt_lt 10 m j (by decide)
  have e : dgt 10 (m / n) j = m / 10 ^ j / n % 10 := by
    unfold dgt
    rw [Nat.div_div_eq_div_mul, Nat.mul_comm n, ← Nat.div_div_eq_div_mul]
  rw [e]
  generalize dgt 10 m j = d at *
  generalize m / 10 ^ (j + 1) = M at *
  rw [h1]
  have h2 := Nat.div_add_mod M n
  have h3 := Nat.mod_lt M hn
  generalize M / n = q at *
  generalize M % n = r at *
  have h4 : d + 10 * M = (10 * r + d) + n * (10 * q) := by
    rw [← h2, Nat.mul_add, Nat.mul_left_comm]; omega
  rw [h4, Nat.add_mul_div_left _ _ hn, Nat.add_mul_mod_self_left, Nat.add_mul_mod_self_left]
  have h5 : (10 * r + d) / n < 10 := by rw [Nat.div_lt_iff_lt_mul hn]; omega
  rw [Nat.mod_eq_of_lt h5]
  exact (Nat.div_add_mod _ _).symm
theorem OwnDec.nilcap {w : World} {base n cap : Nat} {a : Option Addr} (h : OwnDec w base (.slice a (dlen 10 n) cap) n) : a = none → cap = 0 := by
  intro ha
  subst ha
  obtain ⟨hl, ⟨hv, h0⟩ | ⟨g', cap', cur, hv, _⟩⟩ := h
  · simp only [Value.slice.injEq] at hv
    exact hv.2.2
  · simp at hv
set_option maxRecDepth 100000 in
set_option maxHeartbeats 4000000 in
theorem dividedR_fn {v u : Value} {m n : Nat} {w : World} (hv : DecRep w v m) (hu : DecRep w u n) (hm : dlen 10 m ≤ 10000000) (hn : dlen 10 n ≤ 10000000) (hn0 : 0 < n) :
    Calls Tryd.prog 17 #[v, u] w fun e w' => ∃ q r, e = .returned (.tuple #[q, r]) ∧ OwnDec w' w.heap.size q (m / n) ∧ OwnDec w' w.heap.size r (m % n) ∧ Below w.heap.size w w' := by
  obtain ⟨a, cap, rfl⟩ := hv.shape
  obtain ⟨a', cap', rfl⟩ := hu.shape
  have hcell0 := hv
  obtain ⟨ax, capx, hvx, hcapx, hcellx⟩ := hcell0
  simp only [Value.slice.injEq, true_and] at hvx
  obtain ⟨rfl, rfl⟩ := hvx
  have HC := hid hcellx
  have HN0 := hid hn0
  clear hcellx hn0 hcapx
  go_enter Tryd.func17, Tryd.ntmps17
  go_wp2_with (at_make; refine mk_i64 _ rfl _ _ rfl w.heap.size (dlen 10 m) _ _ rfl rfl (by simp) (by simp) (by omega) (Nat.le_refl _) ?_; intro w1 hown hb hz hb1)
  go_loopg [7, 8] (dlen 10 m) (fun g lv iv wr => ∃ j : Nat, g = j ∧ iv = .int .i64 ((j : Int) - 1) ∧ j ≤ dlen 10 m ∧ OwnDec wr (w.heap.size + 1) lv (m / 10 ^ j % n) ∧ Own .i64 3 wr w.heap.size (.slice (some ⟨w.heap.size, 0, none⟩) (dlen 10 m) (dlen 10 m)) (dlen 10 m) (fQ m n j) ∧ Below w.heap.size w wr)
  case atStart =>
    refine ⟨dlen 10 m, rfl, rfl, Nat.le_refl _, ?_, hown.congr (fun t ht => by unfold fQ; rw [if_pos ht]), hb⟩
    rw [(dlen_div 10 m _ (by decide)).2 (Nat.le_refl _), Nat.zero_mod]
    exact Own.nil
  case round =>
    obtain ⟨j, hg, rfl, hj, hl, hq, hbr⟩ := hrel
    obtain rfl := hg.symm
    obtain ⟨la, lc, rfl⟩ := hl.dec.shape
    clear hown hb hz hb1
    obtain ⟨wo, rfl⟩ : ∃ wo : World, wo = wr := ⟨_, rfl⟩
    have hdl : dlen 10 (m / 10 ^ j % n) ≤ dlen 10 n := dlen_mono _ _ (Nat.le_of_lt (Nat.mod_lt _ HN0.out))
    by_cases h0 : j = 0
    · subst h0
      have hqq : Own .i64 3 wo w.heap.size (.slice (some ⟨w.heap.size, 0, none⟩) (dlen 10 m) (dlen 10 m)) (dlen 10 m) (dgt 10 (m / n)) := hq.congr (fun t _ => by unfold fQ; rw [if_neg (by omega)])
      have hlt : m / n < 10 ^ dlen 10 m := Nat.lt_of_le_of_lt (Nat.div_le_self _ _) (dlen_lt 10 m (by decide))
      have HT := hid (trimmedD_own hqq (by omega) hlt)
      have HE := hid (show m / 10 ^ 0 % n = m % n by simp)
      have hl' := hl
      rw [HE.out] at hl'
      clear hlt hqq hdl
      go_wp2_with fail
      (with_reducible refine HT.out.mono ?_); rintro e w2 ⟨⟨q, rfl, hqo⟩, rfl⟩
      obtain ⟨qa, qc, rfl⟩ := hqo.dec.shape
      go_wp2
      go_ret2
      exact ⟨_, _, rfl, hqo, Own.mono (by rw [← HE.out]; exact hl) (Nat.le_succ _), hbr⟩
    · obtain ⟨i, rfl⟩ : ∃ i, j = i + 1 := ⟨j - 1, by omega⟩
      have hi : ((i + 1 : Nat) : Int) - 1 = (i : Int) := by omega
      rw [hi]
      clear hi h0
      have hszr := hbr.size
      obtain ⟨b, off, rfl, hbl, hc⟩ := HC.out (by omega)
      have hci := (hbr.cell (p := ⟨b, off + i, none⟩) hbl).trans (hc i (by omega))
      have hst := divStep m n i HN0.out
      have hd10 := dgt_lt 10 m i (by decide)
      have hL := Nat.mod_lt (m / 10 ^ (i + 1)) HN0.out
      have HS := hid hst
      have hdlm : dlen 10 (m / 10 ^ (i + 1) % n) ≤ 10000000 := by omega
      have hconslt := cons_lt (m / 10 ^ (i + 1) % n) (dgt 10 m i) (dlen 10 (m / 10 ^ (i + 1) % n)) (dlen_lt 10 _ (by decide)) hd10
      have HCL := hid hconslt
      clear hst hc hconslt
      have hR2 := Nat.mod_lt (m / 10 ^ i) HN0.out
      have hFQ := fun s => hid (show (if s = i then dgt 10 (m / n) i else fQ m n (i + 1) s) = fQ m n i s by
        unfold fQ
        by_cases h1 : s = i
        · subst h1; rw [if_pos rfl, if_neg (by omega)]
        · rw [if_neg h1]
          by_cases h2 : s < i
          · rw [if_pos h2, if_pos (by omega)]
          · rw [if_neg h2, if_neg (by omega)])
      have hqlt := hq.lt
      generalize m / 10 ^ (i + 1) % n = R at *
      generalize dgt 10 m i = d at *
      generalize dgt 10 (m / n) i = c at *
      have hR2' := hid hR2
      clear hR2
      have hc10 : 10 * R + d < 10 * n := by omega
      have hdb : dlen 10 (10 * R + d) ≤ 10000001 := by
        have := (dlen_le_iff 10 (10 * R + d) _ (by decide)).2 HCL.out
        omega
      go_wp2_with (at_builtin; refine app_cat rfl _ _ rfl (w.heap.size + 1) d R _ rfl hd10 rfl la lc rfl hl.dec hl.nilcap (by omega) (by omega) ?_; intro v1 w2 hown2 hb2)
      have HT := hid (trimmedD_own hown2 (by omega) HCL.out)
      (with_reducible refine HT.out.mono ?_); rintro e w3 ⟨⟨l1, rfl, hl1⟩, rfl⟩
      have hq1 := hq.keepAt hb2 (Nat.lt_succ_self _)
      have hbr1 := hbr.trans (hb2.mono (Nat.le_succ _))
      have hq2 : Own .i64 3 w3 w.heap.size (.slice (some ⟨w.heap.size, 0, none⟩) (dlen 10 m) (dlen 10 m)) (dlen 10 m) (fun s => if s = i then 0 else fQ m n (i + 1) s) := hq1.congr (fun s _ => by
        by_cases h1 : s = i
        · subst h1; rw [if_pos rfl]; unfold fQ; rw [if_pos (by omega)]
        · rw [if_neg h1])
      clear HT hown2 hl hq hq1 hbr hci hqlt
      go_wp2_with fail
      go_loopg [7] (10 * R + d) (fun g lv wr => ∃ L t : Nat, g = L ∧ 10 * R + d = n * t + L ∧ OwnDec wr (w.heap.size + 1) lv L ∧ Own .i64 3 wr w.heap.size (.slice (some ⟨w.heap.size, 0, none⟩) (dlen 10 m) (dlen 10 m)) (dlen 10 m) (fun s => if s = i then t else fQ m n (i + 1) s) ∧ Below w.heap.size w wr)
      case atStart => exact ⟨10 * R + d, 0, rfl, by omega, hl1, hq2, hbr1⟩
      case round =>
        obtain ⟨L, t, hg, hsum, hL1, hq3, hbr3⟩ := hrel
        obtain rfl := hg.symm
        have HSUM := hid hsum
        obtain ⟨a4, c4, rfl⟩ := hL1.dec.shape
        have ht10 : t < 10 := by
          have : n * t < n * 10 := by omega
          exact Nat.lt_of_mul_lt_mul_left this
        have hdL : dlen 10 L ≤ 10000001 := Nat.le_trans (dlen_mono _ _ (by omega)) hdb
        have hO := hid (order_fn hL1.dec (hu.below hbr3) (by omega) (by omega))
        have hcell := hq3.cell i (by omega)
        have hfree := hq3.free i
        rw [if_pos rfl] at hcell
        have hszr := hbr3.size
        clear hsum hl1 hq2 hbr1 hb2
        by_cases hle : n ≤ L
        · have hcm : ∃ C : Int, 0 ≤ C ∧ cmpN L n = C := by
            unfold cmpN
            rw [if_neg (by omega)]
            split
            · exact ⟨1, by decide, rfl⟩
            · exact ⟨0, by decide, rfl⟩
          obtain ⟨C, hC0, hC⟩ := hcm
          rw [hC] at hO
          have hO := hid hO.out
          have hM := hid (minusD_fn hL1.dec (hu.below hbr3) (by omega) (by omega) hle)
          have HLE := hid hle
          clear hC hle
          go_wp2_with fail
          (with_reducible refine hO.out.mono ?_); rintro e w4 ⟨rfl, rfl⟩
          go_wp2_with fail
          (with_reducible refine hM.out.mono ?_); rintro e w5 ⟨l5, rfl, hl5, hb5⟩
          have hq5 := Own.keep hq3 hb5 (Nat.le_refl _)
          have hcell := hq5.cell i (by omega)
          have hfree := hq5.free i
          rw [if_pos rfl] at hcell
          have hq6 := hq5.store i (t + 1)
          have hbr5 := (hbr3.trans (hb5.mono hszr)).setCell (p := ⟨w.heap.size, i, none⟩) (Nat.le_refl _) (.int .i64 ((t + 1 : Nat) : Int))
          have hl6 : OwnDec (w5.setCell ⟨w.heap.size, i, none⟩ (.int .i64 ((t + 1 : Nat) : Int))) (w.heap.size + 1) l5 (L - n) := Own.mono (base := w4.heap.size) (ownsRow_setCell_below hl5 (a := ⟨w.heap.size, i, none⟩) (by have := hq3.lt; exact this) _) (by have := hq3.lt; omega)
          go_wp2
          go_roundg (L - n)
          case measure => have := HLE.out; have := HN0.out; omega
          case rel =>
            refine ⟨L - n, t + 1, rfl, ?_, hl6, hq6.congr (fun s _ => ?_), hbr5⟩
            · have h1 := HSUM.out
              have h2 := HLE.out
              rw [Nat.mul_succ]; omega
            · by_cases h1 : s = i
              · rw [if_pos h1, if_pos h1]
              · rw [if_neg h1, if_neg h1, if_neg h1]
        · have hC : cmpN L n = -1 := by unfold cmpN; rw [if_pos (by omega)]
          rw [hC] at hO
          have hO := hid hO.out
          have huniq : L = m / 10 ^ i % n ∧ t = c := by
            have h1 := HSUM.out
            have h2 := HS.out
            have h3 := hR2'.out
            have h4 : (n * t + L) / n = (n * c + m / 10 ^ i % n) / n := by rw [← h1, ← h2]
            rw [Nat.mul_add_div HN0.out, Nat.mul_add_div HN0.out, Nat.div_eq_of_lt (by omega), Nat.div_eq_of_lt h3] at h4
            have h5 : t = c := by omega
            subst h5
            exact ⟨by omega, rfl⟩
          have HU := hid huniq
          clear huniq hC hle
          go_wp2_with fail
          (with_reducible refine hO.out.mono ?_); rintro e w4 ⟨rfl, rfl⟩
          go_wp2
          go_roundg i
          case measure => omega
          case rel =>
            obtain ⟨h1, h2⟩ := HU.out
            refine ⟨i, rfl, rfl, by omega, by rw [← h1]; exact hL1, hq3.congr (fun s _ => ?_), hbr3⟩
            rw [h2]
            exact (hFQ s).out
end Go.Proofs.YtkhgoeippamobaaDoor
/-
  The reference: one, Base, Read. Read of big.
-/
namespace Go.Proofs.YtkhgoeippamobaaDoor
open Go.RowKit
/-- a number that the reference read -/
def CNum1 (w : World) (v : Value) (z : Int) : Prop := ∃ z', DNum w v z' ∧ dlen 10 z'.natAbs ≤ 2002000 ∧ Cut z' z
theorem CNum1.below {w w' : World} {v : Value} {z : Int} (h : CNum1 w v z) (hb : Below w.heap.size w w') : CNum1 w' v z := by
  obtain ⟨z', h1, h2, h3⟩ := h
  exact ⟨z', h1.below hb, h2, h3⟩
theorem PRef.cnum1 {w : World} {base : Nat} {v : Value} {z : Int} (h : PRef w base v z) : CNum1 w v z := by
  obtain ⟨z', h1, h2, h3⟩ := h
  exact ⟨z', h1.num, h2, h3⟩
theorem PRef.keep1 {w w' : World} {base : Nat} {v : Value} {z : Int} (h : PRef w base v z) (hb : Below w.heap.size w w') : PRef w' base v z := by
  obtain ⟨z', ⟨s, h0, h1⟩, h2, h3⟩ := h
  exact ⟨z', ⟨s, h0, Own.keep h1 hb (Nat.le_refl _)⟩, h2, h3⟩
theorem PRef.set2' {w : World} {base b : Nat} {v : Value} {z : Int} (h : PRef w base v z) (hb : b < base) (x y : Value) : PRef ((w.setCell ⟨b, 0, none⟩ x).setCell ⟨b, 1, none⟩ y) base v z := by
  obtain ⟨z', ⟨s, h0, h1⟩, h2, h3⟩ := h
  exact ⟨z', ⟨s, h0, own_set2 h1 x y hb⟩, h2, h3⟩
theorem Blk.set2' {w : World} {b : Nat} {x y : Value} {t : TypeId} (h : Blk w b #[x, y] t) (x' y' : Value) : Blk ((w.setCell ⟨b, 0, none⟩ x').setCell ⟨b, 1, none⟩ y') b #[x', y'] t := by
  have h0 : w.heap[b]? = _ := h
  have h1 := heap_setCell_same w b 0 _ t x' h0
  have h2 := heap_setCell_same _ b 1 _ t y' h1
  exact h2
theorem DNum.rep1 {w : World} {g : Bool} {a : Option Addr} {n c : Nat} {z : Int} (h : DNum w (.agg #[.bool g, .slice a n c]) z) : DecRep w (.slice a n c) z.natAbs := by
  obtain ⟨s, he, hd⟩ := h
  simp only [Value.agg.injEq, Array.mk.injEq, List.cons.injEq, and_true] at he
  rw [he.2]; exact hd
theorem DNum.parts1 {w : World} {g : Bool} {a : Option Addr} {n c : Nat} {z : Int} (h : DNum w (.agg #[.bool g, .slice a n c]) z) : g = decide (z < 0) ∧ n = dlen 10 z.natAbs := by
  obtain ⟨a', c', he, _⟩ := h.shape
  simp only [Value.agg.injEq, Array.mk.injEq, List.cons.injEq, Value.bool.injEq, Value.slice.injEq, and_true] at he
  exact ⟨he.1, he.2.2.1⟩
/-- what 'one' answers -/
def OneQ (o : Bool) (z : Int) (w : World) (e : Ending) (w' : World) : Prop :=
  ∃ g s n c, e = .returned (.tuple #[.agg #[.bool g, .slice s n c], .int .i64 (if o = true then 0 else 2)]) ∧ Below w.heap.size w w' ∧ (o = true → CNum1 w' (.agg #[.bool g, .slice s n c]) z)
set_option maxRecDepth 100000 in
set_option maxHeartbeats 4000000 in
theorem oneR_fn (a : List UInt8) (ha : a.length ≤ 2000000) (w : World) :
    Calls Tryd.prog 15 #[.string ⟨a.toArray⟩] w (OneQ (pOK a) (pVal a) w) := by
  have k1 := Blk.new w #[.bool false, .slice none 0 0] 43
  have hb0 : Below w.heap.size w (w.alloc (.cells #[.bool false, .slice none 0 0] 43)) := (Below.refl _ _).alloc (Nat.le_refl _) _
  have hw0 : w.heap.size + 1 ≤ (w.alloc (.cells #[.bool false, .slice none 0 0] 43)).heap.size := by simp
  have hA := fun w => hid (number_fn a ha w)
  unfold NumP at hA
  generalize pOK a = o1 at *
  clear ha
  go_enter Tryd.func15, Tryd.ntmps15
  go_wp2_with fail
  generalize w.alloc (.cells #[.bool false, .slice none 0 0] 43) = w0 at *
  (with_reducible refine (hA _).out.mono ?_); rintro e w1 ⟨v, rfl, gg, hv, g1, s1, n1, c1, rfl⟩
  have HV := hid hv
  clear hv
  have k1 := k1.later gg
  have hb := hb0.trans (gg.mono hb0.size)
  have hg1 := gg.size
  clear hb0 gg
  have gg : Below w1.heap.size w1 (w1.alloc (.cells #[.bool g1, .slice s1 n1 c1] 43)) := (Below.refl _ _).alloc (Nat.le_refl _) _
  have k3 := Blk.new w1 #[.bool g1, .slice s1 n1 c1] 43
  have HV := hid (fun h => (HV.out h).keep1 gg)
  have k1 := k1.later gg
  have hb := hb.trans (gg.mono hb.size)
  have hlt1 := k3.lt
  clear gg
  obtain ⟨⟨p1, p2⟩, q1, q2⟩ := k1.two
  obtain ⟨⟨p5, p6⟩, q5, q6⟩ := k3.two
  cases o1
  · go_wp2
    have k1F := k1.set2' (.bool false) (.slice none 0 0)
    obtain ⟨⟨r1, r2⟩, _⟩ := k1F.two
    have hbF := (hb.setCell (p := ⟨w.heap.size, 0, none⟩) (Nat.le_refl _) (.bool false)).setCell (p := ⟨w.heap.size, 1, none⟩) (Nat.le_refl _) (.slice none 0 0)
    exact bodyPost_ret (v := .tuple #[.agg #[.bool false, .slice none 0 0], .int .i64 2]) (by simp [results, Tryd.results15, go_sem, r1, r2]) rfl ⟨_, _, _, _, rfl, hbF, fun h => by simp at h⟩
  · have k1F := k1.set2' (.bool g1) (.slice s1 n1 c1)
    obtain ⟨⟨r1, r2⟩, _⟩ := k1F.two
    have hbF := (hb.setCell (p := ⟨w.heap.size, 0, none⟩) (Nat.le_refl _) (.bool g1)).setCell (p := ⟨w.heap.size, 1, none⟩) (Nat.le_refl _) (.slice s1 n1 c1)
    have n1' := ((HV.out (by first | rfl | trivial)).set2' (b := w.heap.size) (by omega) (.bool g1) (.slice s1 n1 c1)).cnum1
    go_wp2
    exact bodyPost_ret (v := .tuple #[.agg #[.bool g1, .slice s1 n1 c1], .int .i64 0]) (by simp [results, Tryd.results15, go_sem, r1, r2]) rfl ⟨_, _, _, _, rfl, hbF, fun _ => n1'⟩
theorem lit_dig36 (d : Nat) (h : d < 36) : ∀ s : ByteArray, s = ⟨#[48, 49, 50, 51, 52, 53, 54, 55, 56, 57, 97, 98, 99, 100, 101, 102, 103, 104, 105, 106, 107, 108, 109, 110, 111, 112, 113, 114, 115, 116, 117, 118, 119, 120, 121, 122]⟩ → s.extract d (d + 1) = ⟨(digS d).toArray⟩ := by
  rintro s rfl
  have key : ∀ d, d < 36 → (⟨#[48, 49, 50, 51, 52, 53, 54, 55, 56, 57, 97, 98, 99, 100, 101, 102, 103, 104, 105, 106, 107, 108, 109, 110, 111, 112, 113, 114, 115, 116, 117, 118, 119, 120, 121, 122]⟩ : ByteArray).extract d (d + 1) = ⟨(digS d).toArray⟩ := by decide +kernel
  exact key d h
/-- the text of the lowest digits -/
def lowB (b n k : Nat) : List UInt8 := (List.range k).map fun t => UInt8.ofNat (chN (dgt b n (k - 1 - t)))
theorem lowB_length (b n k : Nat) : (lowB b n k).length = k := by simp [lowB]
theorem lowB_succ (b n k : Nat) : lowB b n (k + 1) = digS (dgt b n k) ++ lowB b n k := by
  unfold lowB digS
  rw [List.range_succ_eq_map]
  simp only [List.map_cons, List.map_map, List.singleton_append, List.cons.injEq]
  refine ⟨by simp, ?_⟩
  apply List.map_congr_left
  intro t ht
  have := List.mem_range.1 ht
  show UInt8.ofNat (chN (dgt b n (k + 1 - 1 - (t + 1)))) = _
  rw [show k + 1 - 1 - (t + 1) = k - 1 - t from by omega]
theorem lowB_all (b n : Nat) : lowB b n (dlen b n) = strOf b n := rfl
theorem dig_at {v : Value} {n : Nat} {w : World} (h : DecRep w v n) (hl : dlen 10 n ≤ 1000000000) (i : Nat) (I : Int) (hI : I = (i : Int)) (hi : i ≤ 1000000000) :
    Calls Tryd.prog 19 #[v, .int .i64 I] w fun e w' => e = .returned (.int .i64 (dgt 10 n i)) ∧ w' = w := by
  subst hI
  exact dig_fn h hl i hi
theorem two_digits (r : Nat) (h : r < 36) : dgt 10 r 0 + 10 * dgt 10 r 1 = r := by
  unfold dgt
  rw [Nat.pow_zero, Nat.pow_one, Nat.div_one]
  omega
set_option maxRecDepth 100000 in
set_option maxHeartbeats 4000000 in
theorem baseR_fn (a : List UInt8) (ha : a.length ≤ 2000000) (B : Int) (w : World) :
    Calls Tryd.prog 7 #[.string ⟨a.toArray⟩, .int .i64 B] w fun e w' => e = .returned (.tuple #[.string ⟨(baseRes a B).1.toArray⟩, .int .i64 (baseRes a B).2]) ∧ Below w.heap.size w w' := by
  have hB := hid (oneR_fn a ha w)
  unfold OneQ at hB
  clear ha
  cases hok : pOK a with
  | false =>
    have HR := hid (show baseRes a B = ([], 2) by unfold baseRes; rw [hok]; rfl)
    rw [hok] at hB
    have hB := hid hB.out
    clear hok
    go_enter Tryd.func7, Tryd.ntmps7
    go_wp2_with fail
    (with_reducible refine hB.out.mono ?_); rintro e w1 ⟨g1, s1, n1, c1, rfl, hb1, -⟩
    have hsz := hb1.size
    go_wp2
    go_ret2
    exact ⟨by rw [HR.out]; rfl, hb1.alloc hsz _⟩
  | true =>
    have HR := hid (show baseRes a B = if B < 2 ∨ 36 < B then ([], 7) else if big600 ≤ (pVal a).natAbs then ([], 4) else (numText B.toNat (pVal a).natAbs (decide (pVal a < 0)), 0) by unfold baseRes; rw [if_pos hok])
    rw [hok] at hB
    have hB := hid hB.out
    clear hok
    by_cases hrange : B < 2 ∨ 36 < B
    · have HR2 := hid (show baseRes a B = ([], 7) by rw [HR.out, if_pos hrange])
      by_cases h2 : B < 2
      · go_enter Tryd.func7, Tryd.ntmps7
        go_wp2_with fail
        (with_reducible refine hB.out.mono ?_); rintro e w1 ⟨g1, s1, n1, c1, rfl, hb1, -⟩
        have hsz := hb1.size
        go_wp2
        go_ret2
        exact ⟨by rw [HR2.out]; rfl, hb1.alloc hsz _⟩
      · have h3 : 36 < B := by omega
        go_enter Tryd.func7, Tryd.ntmps7
        go_wp2_with fail
        (with_reducible refine hB.out.mono ?_); rintro e w1 ⟨g1, s1, n1, c1, rfl, hb1, -⟩
        have hsz := hb1.size
        go_wp2
        go_ret2
        exact ⟨by rw [HR2.out]; rfl, hb1.alloc hsz _⟩
    · have h2 : ¬ B < 2 := by omega
      have h3 : ¬ 36 < B := by omega
      have HR2 := hid (show baseRes a B = if big600 ≤ (pVal a).natAbs then ([], 4) else (numText B.toNat (pVal a).natAbs (decide (pVal a < 0)), 0) by rw [HR.out, if_neg hrange])
      obtain ⟨b, rfl⟩ := Int.eq_ofNat_of_zero_le (show 0 ≤ B by omega)
      clear hrange HR
      go_enter Tryd.func7, Tryd.ntmps7
      go_wp2_with fail
      (with_reducible refine hB.out.mono ?_); rintro e w1 ⟨g1, s1, n1, c1, rfl, hb, hn⟩
      obtain ⟨x', hx, hlx, hcx⟩ := hn (by first | rfl | trivial)
      have HCX := hid hcx
      clear hn hB hcx
      have kX := Blk.new w1 #[.bool g1, .slice s1 n1 c1] 43
      have gg : Below w1.heap.size w1 (w1.alloc (.cells #[.bool g1, .slice s1 n1 c1] 43)) := (Below.refl _ _).alloc (Nat.le_refl _) _
      have hx := hx.below gg
      have hb := hb.trans (gg.mono hb.size)
      clear gg
      obtain ⟨⟨p1, p2⟩, q1, q2⟩ := kX.two
      have HL := hid (long_fn hx (by omega))
      have HLB := hid (Cut.big HCX.out)
      rw [HLB.out] at HL
      go_wp2_with fail
      (with_reducible refine HL.out.mono ?_); rintro e w2 ⟨rfl, gg⟩
      have hx := hx.below gg
      have hb := hb.trans (gg.mono hb.size)
      have kX := kX.later gg
      clear gg p1 p2 q1 q2 HL
      by_cases hbig : big600 ≤ (pVal a).natAbs
      · have HR3 := hid (show baseRes a b = ([], 4) by rw [HR2.out, if_pos hbig])
        rw [decide_eq_true hbig]
        clear hbig
        go_wp2
        go_ret2
        exact ⟨by rw [HR3.out]; rfl, hb⟩
      · have hxx := HCX.out.small (by omega)
        have HR3 := hid (show baseRes a b = (numText b x'.natAbs (decide (x' < 0)), 0) by rw [HR2.out, if_neg hbig, hxx]; rfl)
        have hdx : dlen 10 x'.natAbs ≤ 600 := (digits_600 _).2 (by rw [hxx]; omega)
        rw [decide_eq_false hbig]
        clear hbig hxx HR2 HCX HLB
        obtain ⟨⟨p1, p2⟩, q1, q2⟩ := kX.two
        have hrep := hx.rep1
        obtain ⟨hg1, hn1⟩ := hx.parts1
        have HG := hid hg1
        have HN := hid hn1
        clear hg1 hn1
        generalize hxn : x'.natAbs = n at *
        have h2' : 2 ≤ b := by omega
        have h3' : b ≤ 36 := by omega
        have HB1 := hid (show dlen 10 b ≤ 19 from dlen_small b (by omega))
        go_wp2_with fail
        go_loopg [8, 9] n (fun g sv nv wr => ∃ k : Nat, g = n / b ^ k ∧ k ≤ dlen b n ∧ sv = .string ⟨(lowB b n k).toArray⟩ ∧ DecRep wr nv (n / b ^ k) ∧ Below w.heap.size w wr ∧ Blk wr w1.heap.size #[.bool g1, .slice s1 n1 c1] 43)
        case atStart => exact ⟨0, by simp, Nat.zero_le _, rfl, by rw [Nat.pow_zero, Nat.div_one]; exact hrep, hb, kX⟩
        case round =>
          obtain ⟨k, hg, hk, rfl, hnr, hbr, kr⟩ := hrel
          have HGK := hid hg
          clear hg
          obtain ⟨na, nc, rfl⟩ := hnr.shape
          have hkb : k ≤ 2016 := by
            have := dlen_bound b n h2'
            have : n < big600 := (digits_600 n).1 hdx
            have h5 := nlen_of_bits n 2010 (bits_2010 n this)
            omega
          by_cases hz : 0 < n / b ^ k
          · have hlen : 0 < dlen 10 (n / b ^ k) := (dlen_pos_iff _).2 hz
            have hdlk : dlen 10 (n / b ^ k) ≤ 600 := Nat.le_trans (dlen_mono _ _ (Nat.div_le_self _ _)) hdx
            have hklt : k < dlen b n := (Nat.lt_or_ge k (dlen b n)).resolve_right fun h => by
              have := (dlen_div b n k h2').2 h
              omega
            have HS := hid (lowB_succ b n k)
            have HQ := hid (dgt_step b n k)
            have hdg : dgt b n k = n / b ^ k % b := rfl
            have hdlt := dgt_lt b n k h2'
            have HDV := hid (Nat.div_lt_self hz (show 1 < b by omega))
            have HDG := hid hdg
            clear hdg hz
            have hl1 := lowB_length b n k
            have hs1 : (⟨(lowB b n k).toArray⟩ : ByteArray).size = k := by rw [Lib.size_mk]; exact hl1
            clear hl1
            have HN1 := hid (natOf_fn b (by omega) wr)
            go_wp2_with fail
            (with_reducible refine HN1.out.mono ?_); rintro e w3 ⟨v3, rfl, ho3, hb3⟩
            obtain ⟨a3, c3, rfl⟩ := ho3.dec.shape
            have HD := hid (dividedR_fn (hnr.below hb3) ho3.dec (by omega) (by have := HB1.out; omega) (by omega))
            rw [← HDG.out] at HD
            go_wp2_with fail
            (with_reducible refine HD.out.mono ?_); rintro e w4 ⟨q4, r4, rfl, hq4, hr4, hb4⟩
            obtain ⟨a4, c4, rfl⟩ := hq4.dec.shape
            obtain ⟨a5, c5, rfl⟩ := hr4.dec.shape
            have hsz1 := hbr.size
            have hsz3 := hb3.size
            have hb5 := hbr.trans ((hb3.mono hsz1).trans (hb4.mono (by omega)))
            have kr4 := (kr.later hb3).later hb4
            have hr19 : dlen 10 (dgt b n k) ≤ 19 := dlen_small _ (by omega)
            have HD0 := hid (dig_at hr4.dec (by omega) 0 0 rfl (by omega))
            have HD1 := hid (dig_at hr4.dec (by omega) 1 1 rfl (by omega))
            have HSUM := two_digits (dgt b n k) (by omega)
            have hy0 := dgt_lt 10 (dgt b n k) 0 (by decide)
            have hy1 := dgt_lt 10 (dgt b n k) 1 (by decide)
            have HSUM' := hid HSUM
            have HLIT := hid (lit_dig36 (dgt b n k) (by omega))
            clear HSUM
            generalize hX : dgt b n k = X at *
            have HX := hid hX
            clear hX
            generalize dgt 10 X 0 = y0 at *
            generalize dgt 10 X 1 = y1 at *
            have hv : ((y0 : Int) + 10 * (y1 : Int)) = (X : Int) := by have := HSUM'.out; omega
            have h36 : (X : Int) < 36 := by omega
            go_wp2_with fail
            (with_reducible refine HD0.out.mono ?_); rintro e w' ⟨rfl, rfl⟩
            go_wp2_with fail
            (with_reducible refine HD1.out.mono ?_); rintro e w' ⟨rfl, rfl⟩
            go_wp2
            go_roundg (n / b ^ k / b)
            case measure => rw [HGK.out]; exact HDV.out
            case rel =>
              refine ⟨k + 1, HQ.out, by omega, ?_, by rw [← HQ.out]; exact hq4.dec, hb5, kr4⟩
              rw [HS.out]
              refine congrArg Value.string ?_
              rw [HLIT.out _ rfl]
              apply ByteArray.ext
              simp [ByteArray.data_append]
          · have hlen : dlen 10 (n / b ^ k) = 0 := by
              have := dlen_pos_iff (n / b ^ k)
              omega
            have hkk : k = dlen b n := Nat.le_antisymm hk ((dlen_div b n k h2').1 (Nat.eq_zero_of_not_pos hz))
            subst hkk
            rw [hlen, lowB_all]
            obtain ⟨⟨p1, p2⟩, q1, q2⟩ := kr.two
            have hem := strOf_isEmpty b n h2'
            have hlen2 := strOf_length b n
            have hsz : (strOf b n).length ≤ 32000000 := by omega
            clear hlen2 hlen hz hnr hkb hk
            by_cases h0 : n = 0
            · rw [decide_eq_true h0] at hem
              have hn : numText b n (decide (x' < 0)) = [48] := by rw [numText, if_pos h0]
              have HNT := hid hn
              clear h0 hn
              go_wp2
              go_ret2
              exact ⟨by rw [HR3.out, HNT.out]; rfl, hbr⟩
            · rw [decide_eq_false h0] at hem
              have HG' := hid (HG.out)
              cases g1
              · have hn : numText b n (decide (x' < 0)) = strOf b n := by rw [numText, if_neg h0, ← HG'.out]; rfl
                have HNT := hid hn
                clear h0 hn HG HG'
                go_wp2
                go_ret2
                exact ⟨by rw [HR3.out, HNT.out]; rfl, hbr⟩
              · have hn : numText b n (decide (x' < 0)) = 45 :: strOf b n := by rw [numText, if_neg h0, ← HG'.out]; rfl
                have HNT := hid hn
                clear h0 hn HG HG'
                go_wp2
                go_ret2
                exact ⟨by rw [HR3.out, HNT.out]; rfl, hbr⟩
end Go.Proofs.YtkhgoeippamobaaDoor
/-
  The reference: Read. Read of big.
-/
namespace Go.Proofs.YtkhgoeippamobaaDoor
open Go.RowKit
def rNeg (l : List UInt8) : Bool := ([45] : List UInt8).isPrefixOf l
def rRest (l : List UInt8) : List UInt8 := if ([45] : List UInt8).isPrefixOf l then l.tail else l
/-- what 'Read' answers -/
def readRes (a : List UInt8) (B : Int) : List UInt8 × Int :=
  if B < 2 ∨ 36 < B then ([], 7) else if rOK B.toNat (rRest a) = true then resOf (sgnInt (rNeg a) (numOf B.toNat (rRest a))) else ([], 2)
theorem near_cut {n N : Nat} {neg : Bool} (h : Near n N) : Cut (sgnInt neg n) (sgnInt neg N) := by
  rcases h with rfl | ⟨h1, h2⟩
  · exact .inl rfl
  · right
    have h3 := big600_pos
    rw [sgnInt_abs, sgnInt_abs, sgnInt_neg, sgnInt_neg, decide_eq_true (show 0 < n by omega), decide_eq_true (show 0 < N by omega)]
    exact ⟨h1, h2, rfl⟩
set_option maxRecDepth 100000 in
set_option maxHeartbeats 4000000 in
theorem readR_fn (a : List UInt8) (ha : a.length ≤ 1000000) (B : Int) (w : World) :
    Calls Tryd.prog 9 #[.string ⟨a.toArray⟩, .int .i64 B] w fun e w' => e = .returned (.tuple #[.string ⟨(readRes a B).1.toArray⟩, .int .i64 (readRes a B).2]) ∧ Below w.heap.size w w' := by
  by_cases hrange : B < 2 ∨ 36 < B
  · have HR := hid (show readRes a B = ([], 7) by unfold readRes; rw [if_pos hrange])
    by_cases h2 : B < 2
    · go_enter Tryd.func9, Tryd.ntmps9
      go_wp2
      go_ret2
      exact ⟨by rw [HR.out]; rfl, Below.refl _ _⟩
    · have h3 : 36 < B := by omega
      go_enter Tryd.func9, Tryd.ntmps9
      go_wp2
      go_ret2
      exact ⟨by rw [HR.out]; rfl, Below.refl _ _⟩
  · have HR0 := hid (show readRes a B = if rOK B.toNat (rRest a) = true then resOf (sgnInt (rNeg a) (numOf B.toNat (rRest a))) else ([], 2) by unfold readRes; rw [if_neg hrange])
    have h2 : ¬ B < 2 := by omega
    have h3 : ¬ 36 < B := by omega
    obtain ⟨b, rfl⟩ := Int.eq_ofNat_of_zero_le (show 0 ≤ B by omega)
    have HR := hid (show readRes a b = if rOK b (rRest a) = true then resOf (sgnInt (rNeg a) (numOf b (rRest a))) else ([], 2) by rw [HR0.out]; rfl)
    clear HR0 hrange
    cases a with
    | nil =>
      have hrest : rRest [] = [] := rfl
      have hneg : rNeg [] = false := rfl
      have h1 : (⟨([] : List UInt8).toArray⟩ : ByteArray).size = 0 := rfl
      have hU : ([] : List UInt8).length ≤ 1000000 := by simp
      have HD := hid (digits_fn ([] : List UInt8) (by omega) b (by omega) (by omega) w)
      unfold DigP at HD
      cases hok : rOK b ([] : List UInt8) with
      | false =>
        have HR2 := hid (show readRes [] b = ([], 2) by rw [HR.out, hrest, hok]; rfl)
        rw [hok] at HD
        have HD := hid HD.out
        clear hok hrest hneg
        go_enter Tryd.func9, Tryd.ntmps9
        go_wp2_with fail
        (with_reducible refine HD.out.mono ?_); rintro e w1 ⟨v, n, rfl, hb, hown, hdl, -⟩
        obtain ⟨va, vc, rfl⟩ := hown.dec.shape
        go_wp2
        go_ret2
        exact ⟨by rw [HR2.out]; rfl, hb⟩
      | true =>
        have HR2 := hid (show readRes [] b = resOf (sgnInt false (numOf b ([] : List UInt8))) by rw [HR.out, hrest, hok, hneg]; rfl)
        rw [hok] at HD
        have HD := hid HD.out
        clear hok hrest hneg
        go_enter Tryd.func9, Tryd.ntmps9
        go_wp2_with fail
        (with_reducible refine HD.out.mono ?_); rintro e w1 ⟨v, n, rfl, hb, hown, hdl, hnear⟩
        have HC := hid (near_cut (neg := false) (hnear (by first | rfl | trivial))).res
        obtain ⟨va, vc, rfl⟩ := hown.dec.shape
        clear hnear
        have HN := hid (num_fn hown.dec (by omega) false)
        have HG := hid (sgnInt_neg false n)
        generalize (false && decide (0 < n)) = G at *
        go_wp2_with fail
        (with_reducible refine HN.out.mono ?_); rintro e w2 ⟨rfl, hb2⟩
        have hD : DNum w2 (.agg #[.bool G, .slice va (dlen 10 n) vc]) (sgnInt false n) := ⟨_, by rw [HG.out], by rw [sgnInt_abs]; exact hown.dec.below hb2⟩
        have HT := hid (told_fn hD (by rw [sgnInt_abs]; omega) (Nums.nil _) (fun x h => by cases h) (by decide))
        rw [toldRes_nil, HC.out] at HT
        have hsz := hb.size
        have hsz2 := hb2.size
        go_wp2_with fail
        (with_reducible refine HT.out.mono ?_); rintro e w3 ⟨rfl, hb3⟩
        go_wp2
        go_ret2
        exact ⟨by rw [HR2.out]; rfl, hb.trans ((hb2.mono hsz).trans (hb3.mono (by omega)))⟩
    | cons x T =>
      by_cases hx45 : x = 45
      · subst hx45
        have hrest : rRest (45 :: T) = T := by simp [rRest, List.isPrefixOf]
        have hneg : rNeg (45 :: T) = true := by simp [rNeg, List.isPrefixOf]
        have h1 : (⟨(45 :: T).toArray⟩ : ByteArray).size = T.length + 1 := by rw [Lib.size_mk]; simp
        have h2x : (⟨(45 :: T).toArray⟩ : ByteArray).extract 1 (T.length + 1) = ⟨T.toArray⟩ := by rw [Lib.extract_mk]; simp
        have hx : ∀ h, (⟨(45 :: T).toArray⟩ : ByteArray)[0]'h = 45 := fun h => rfl
        have hTl : T.length ≤ 999999 := by simpa using ha
        have hU : T.length ≤ 1000000 := by simp at ha ⊢; omega
        have HD := hid (digits_fn T (by omega) b (by omega) (by omega) w)
        unfold DigP at HD
        cases hok : rOK b T with
        | false =>
          have HR2 := hid (show readRes (45 :: T) b = ([], 2) by rw [HR.out, hrest, hok]; rfl)
          rw [hok] at HD
          have HD := hid HD.out
          clear hok hrest hneg
          go_enter Tryd.func9, Tryd.ntmps9
          go_wp2_with fail
          (with_reducible refine HD.out.mono ?_); rintro e w1 ⟨v, n, rfl, hb, hown, hdl, -⟩
          obtain ⟨va, vc, rfl⟩ := hown.dec.shape
          go_wp2
          go_ret2
          exact ⟨by rw [HR2.out]; rfl, hb⟩
        | true =>
          have HR2 := hid (show readRes (45 :: T) b = resOf (sgnInt true (numOf b T)) by rw [HR.out, hrest, hok, hneg]; rfl)
          rw [hok] at HD
          have HD := hid HD.out
          clear hok hrest hneg
          go_enter Tryd.func9, Tryd.ntmps9
          go_wp2_with fail
          (with_reducible refine HD.out.mono ?_); rintro e w1 ⟨v, n, rfl, hb, hown, hdl, hnear⟩
          have HC := hid (near_cut (neg := true) (hnear (by first | rfl | trivial))).res
          obtain ⟨va, vc, rfl⟩ := hown.dec.shape
          clear hnear
          have HN := hid (num_fn hown.dec (by omega) true)
          have HG := hid (sgnInt_neg true n)
          generalize (true && decide (0 < n)) = G at *
          go_wp2_with fail
          (with_reducible refine HN.out.mono ?_); rintro e w2 ⟨rfl, hb2⟩
          have hD : DNum w2 (.agg #[.bool G, .slice va (dlen 10 n) vc]) (sgnInt true n) := ⟨_, by rw [HG.out], by rw [sgnInt_abs]; exact hown.dec.below hb2⟩
          have HT := hid (told_fn hD (by rw [sgnInt_abs]; omega) (Nums.nil _) (fun x h => by cases h) (by decide))
          rw [toldRes_nil, HC.out] at HT
          have hsz := hb.size
          have hsz2 := hb2.size
          go_wp2_with fail
          (with_reducible refine HT.out.mono ?_); rintro e w3 ⟨rfl, hb3⟩
          go_wp2
          go_ret2
          exact ⟨by rw [HR2.out]; rfl, hb.trans ((hb2.mono hsz).trans (hb3.mono (by omega)))⟩
      · have m1 : ((45 : UInt8) == x) = false := by rw [beq_eq_false_iff_ne]; exact fun h => hx45 h.symm
        have n1 : (((x.toNat : Nat) : Int) == 45) = false := by
          rw [beq_eq_false_iff_ne]
          intro h
          exact hx45 (UInt8.toNat_inj.1 (show x.toNat = 45 by omega))
        have hrest : rRest (x :: T) = x :: T := by simp [rRest, List.isPrefixOf, m1]
        have hneg : rNeg (x :: T) = false := by simp [rNeg, List.isPrefixOf, m1]
        have h1 : (⟨(x :: T).toArray⟩ : ByteArray).size = T.length + 1 := by rw [Lib.size_mk]; simp
        have hx : ∀ h, (⟨(x :: T).toArray⟩ : ByteArray)[0]'h = x := fun h => rfl
        have hTl : T.length ≤ 999999 := by simpa using ha
        have hU : (x :: T).length ≤ 1000000 := by simp at ha ⊢; omega
        have HD := hid (digits_fn (x :: T) (by omega) b (by omega) (by omega) w)
        unfold DigP at HD
        cases hok : rOK b (x :: T) with
        | false =>
          have HR2 := hid (show readRes (x :: T) b = ([], 2) by rw [HR.out, hrest, hok]; rfl)
          rw [hok] at HD
          have HD := hid HD.out
          clear hok hrest hneg
          go_enter Tryd.func9, Tryd.ntmps9
          go_wp2_with fail
          (with_reducible refine HD.out.mono ?_); rintro e w1 ⟨v, n, rfl, hb, hown, hdl, -⟩
          obtain ⟨va, vc, rfl⟩ := hown.dec.shape
          go_wp2
          go_ret2
          exact ⟨by rw [HR2.out]; rfl, hb⟩
        | true =>
          have HR2 := hid (show readRes (x :: T) b = resOf (sgnInt false (numOf b (x :: T))) by rw [HR.out, hrest, hok, hneg]; rfl)
          rw [hok] at HD
          have HD := hid HD.out
          clear hok hrest hneg
          go_enter Tryd.func9, Tryd.ntmps9
          go_wp2_with fail
          (with_reducible refine HD.out.mono ?_); rintro e w1 ⟨v, n, rfl, hb, hown, hdl, hnear⟩
          have HC := hid (near_cut (neg := false) (hnear (by first | rfl | trivial))).res
          obtain ⟨va, vc, rfl⟩ := hown.dec.shape
          clear hnear
          have HN := hid (num_fn hown.dec (by omega) false)
          have HG := hid (sgnInt_neg false n)
          generalize (false && decide (0 < n)) = G at *
          go_wp2_with fail
          (with_reducible refine HN.out.mono ?_); rintro e w2 ⟨rfl, hb2⟩
          have hD : DNum w2 (.agg #[.bool G, .slice va (dlen 10 n) vc]) (sgnInt false n) := ⟨_, by rw [HG.out], by rw [sgnInt_abs]; exact hown.dec.below hb2⟩
          have HT := hid (told_fn hD (by rw [sgnInt_abs]; omega) (Nums.nil _) (fun x h => by cases h) (by decide))
          rw [toldRes_nil, HC.out] at HT
          have hsz := hb.size
          have hsz2 := hb2.size
          go_wp2_with fail
          (with_reducible refine HT.out.mono ?_); rintro e w3 ⟨rfl, hb3⟩
          go_wp2
          go_ret2
          exact ⟨by rw [HR2.out]; rfl, hb.trans ((hb2.mono hsz).trans (hb3.mono (by omega)))⟩
/-- Read of big -/
theorem resOf_read {w : World} {v : Value} {z : Int} (h : PNum w v z) : Calls Tryd.prog 22 #[v] w fun e w' => e = .returned (.tuple #[.string ⟨(resOf z).1.toArray⟩, .int .i64 (resOf z).2]) ∧ Below w.heap.size w w' := by
  obtain ⟨n, lg, h1, h2, h3, h4⟩ := h
  exact result_r ⟨n, _, lg, h1, fun h => ⟨h2 h, rfl⟩, fun h => of_decide_eq_true (h3.symm.trans h), by omega⟩
set_option maxRecDepth 100000 in
set_option maxHeartbeats 4000000 in
theorem read_big (a : List UInt8) (ha : a.length ≤ 1000000000) (B : Int) (w : World) :
    Calls Tryd.prog 8 #[.string ⟨a.toArray⟩, .int .i64 B] w fun e w' => e = .returned (.tuple #[.string ⟨(readRes a B).1.toArray⟩, .int .i64 (readRes a B).2]) ∧ Below w.heap.size w w' := by
  have hf := hid (far_fn B w)
  by_cases hrange : B < 2 ∨ 36 < B
  · have HR := hid (show readRes a B = ([], 7) by unfold readRes; rw [if_pos hrange])
    have ht : (decide (B < 2) || decide (36 < B)) = true := by rcases hrange with h | h <;> rw [decide_eq_true h] <;> simp
    rw [ht] at hf
    have hf := hid hf.out
    clear hrange ht
    go_enter Tryd.func8, Tryd.ntmps8
    go_wp2_with fail
    (with_reducible refine hf.out.mono ?_); rintro e w' ⟨rfl, rfl⟩
    go_wp2
    go_ret2
    exact ⟨by rw [HR.out]; rfl, Below.refl _ _⟩
  · have HR0 := hid (show readRes a B = if rOK B.toNat (rRest a) = true then resOf (sgnInt (rNeg a) (numOf B.toNat (rRest a))) else ([], 2) by unfold readRes; rw [if_neg hrange])
    have ht : (decide (B < 2) || decide (36 < B)) = false := by rw [decide_eq_false (show ¬ B < 2 by omega), decide_eq_false (show ¬ 36 < B by omega)]; rfl
    rw [ht] at hf
    have hf := hid hf.out
    obtain ⟨b, rfl⟩ := Int.eq_ofNat_of_zero_le (show 0 ≤ B by omega)
    have hb2 : 2 ≤ b := by omega
    have hb36 : b ≤ 36 := by omega
    have HR := hid (show readRes a b = if rOK b (rRest a) = true then resOf (sgnInt (rNeg a) (numOf b (rRest a))) else ([], 2) by rw [HR0.out]; rfl)
    clear HR0 hrange ht
    have hcut : Hid (Calls Tryd.prog 20 #[.string ⟨a.toArray⟩, .string ⟨#[45]⟩] w fun e w' => e = .returned (.tuple #[.string ⟨(rRest a).toArray⟩, .bool (rNeg a)]) ∧ w' = w) := by
      refine hid ((cutPrefix_fn a [45] ha (by simp) w).mono ?_)
      rintro e w' ⟨rfl, rfl⟩
      refine ⟨?_, rfl⟩
      unfold rRest rNeg
      cases h : ([45] : List UInt8).isPrefixOf a
      · rfl
      · rw [if_pos rfl, if_pos rfl]
        cases a with
        | nil => rfl
        | cons x T => rfl
    have hlr : (rRest a).length ≤ 1000000000 := by
      unfold rRest
      split
      · rw [List.length_tail]; omega
      · exact ha
    have HRD := hid (read_fn (rRest a) hlr b hb2 hb36 (rNeg a) w)
    unfold ReadP at HRD
    generalize rRest a = U at *
    generalize rNeg a = ng at *
    clear hlr ha
    cases hok : rOK b U with
    | false =>
      have HR2 := hid (show readRes a b = ([], 2) by rw [HR.out, hok]; rfl)
      rw [hok] at HRD
      have HRD := hid HRD.out
      clear hok
      go_enter Tryd.func8, Tryd.ntmps8
      go_wp2_with fail
      (with_reducible refine hf.out.mono ?_); rintro e w' ⟨rfl, rfl⟩
      go_wp2_with fail
      (with_reducible refine hcut.out.mono ?_); rintro e w' ⟨rfl, rfl⟩
      go_wp2_with fail
      (with_reducible refine HRD.out.mono ?_); rintro e w1 ⟨v, rfl, hb, hv, x1, x2, x3, g, h, rfl⟩
      have hsz := hb.size
      go_wp2
      go_ret2
      exact ⟨by rw [HR2.out]; rfl, hb.alloc hsz _⟩
    | true =>
      have HR2 := hid (show readRes a b = resOf (sgnInt ng (numOf b U)) by rw [HR.out, hok]; rfl)
      rw [hok] at HRD
      have HRD := hid HRD.out
      clear hok
      go_enter Tryd.func8, Tryd.ntmps8
      go_wp2_with fail
      (with_reducible refine hf.out.mono ?_); rintro e w' ⟨rfl, rfl⟩
      go_wp2_with fail
      (with_reducible refine hcut.out.mono ?_); rintro e w' ⟨rfl, rfl⟩
      go_wp2_with fail
      (with_reducible refine HRD.out.mono ?_); rintro e w1 ⟨v, rfl, hb, hv, x1, x2, x3, g, h, rfl⟩
      have hv' := (hv (by first | rfl | trivial)).num
      have kA := Blk.new w1 #[.slice x1 x2 x3, .bool g, .bool h] 35
      have gg : Below w1.heap.size w1 (w1.alloc (.cells #[.slice x1 x2 x3, .bool g, .bool h] 35)) := (Below.refl _ _).alloc (Nat.le_refl _) _
      have hvA := hv'.below gg
      have hb := hb.trans (gg.mono hb.size)
      obtain ⟨⟨r1, r2, r3⟩, r4, r5, r6⟩ := kA.three
      have HRES := hid (resOf_read hvA)
      clear hv hv' gg
      go_wp2_with fail
      (with_reducible refine HRES.out.mono ?_); rintro e w2 ⟨rfl, hb2'⟩
      go_wp2
      go_ret2
      exact ⟨by rw [HR2.out]; rfl, hb.trans (hb2'.mono hb.size)⟩
end Go.Proofs.YtkhgoeippamobaaDoor
/-
  BigBases: the walk.
-/
namespace Go.Proofs.YtkhgoeippamobaaDoor
open Go.RowKit
theorem read_digits (b : Nat) (hb2 : 2 ≤ b) (hb : b ≤ 36) (l : List UInt8) (h : ∀ c ∈ l, valOf c < b) (h0 : l ≠ []) : (readRes l b = resOf (numOf b l : Nat)) ∧ readRes (45 :: l) b = resOf (-((numOf b l : Nat) : Int)) := by
  have p1 := head_digit b hb 45 (by have : valOf 45 = 36 := by decide
                                    omega) l h
  have r1 : rRest l = l := by unfold rRest; rw [p1]; rfl
  have r2 : rRest (45 :: l) = l := by simp [rRest, List.isPrefixOf]
  have n1 : rNeg l = false := p1
  have n2 : rNeg (45 :: l) = true := by simp [rNeg, List.isPrefixOf]
  have ho := rOK_of b l h h0
  have hr : ¬ ((b : Int) < 2 ∨ 36 < (b : Int)) := by omega
  unfold readRes
  rw [if_neg hr, if_neg hr, Int.toNat_natCast, r1, r2, n1, n2, if_pos ho, if_pos ho]
  exact ⟨rfl, rfl⟩
theorem read_back (a : List UInt8) (B : Int) (h : (baseRes a B).2 = 0) : readRes (baseRes a B).1 B = (txt (pVal a), 0) ∧ canRes a = (txt (pVal a), 0) ∧ (baseRes a B).1.length ≤ 1000000 := by
  unfold baseRes at h ⊢
  by_cases hok : pOK a = true
  · rw [if_pos hok] at h ⊢
    by_cases hr : B < 2 ∨ 36 < B
    · rw [if_pos hr] at h; exact absurd h (by decide)
    · rw [if_neg hr] at h ⊢
      by_cases hb : big600 ≤ (pVal a).natAbs
      · rw [if_pos hb] at h; exact absurd h (by decide)
      · rw [if_neg hb] at h ⊢
        have hs := resOf_small (pVal a) (by omega)
        have hc : canRes a = (txt (pVal a), 0) := by rw [canRes_eq, if_pos hok, hs]
        obtain ⟨b, rfl⟩ := Int.eq_ofNat_of_zero_le (show 0 ≤ B by omega)
        have hb2 : 2 ≤ b := by omega
        have hb36 : b ≤ 36 := by omega
        rw [Int.toNat_natCast]
        have hlen : (numText b (pVal a).natAbs (decide (pVal a < 0))).length ≤ 1000000 := by
          have h1 := strOf_length b (pVal a).natAbs
          have h2 := dlen_bound b (pVal a).natAbs hb2
          have h3 := nlen_of_bits _ 2010 (bits_2010 (pVal a).natAbs (by omega))
          unfold numText
          split
          · simp
          · split
            · simp; omega
            · omega
        refine ⟨?_, hc, hlen⟩
        rw [← hs]
        show readRes (numText b (pVal a).natAbs (decide (pVal a < 0))) b = _
        unfold numText
        by_cases h0 : (pVal a).natAbs = 0
        · rw [if_pos h0]
          have hz : pVal a = 0 := by omega
          rw [hz]
          have := (read_digits b hb2 hb36 [48] (by
            intro c hc
            simp at hc
            subst hc
            have : valOf 48 = 0 := by decide
            omega) (by simp)).1
          rw [this]
          have : numOf b [48] = 0 := by
            show 0 * b + valOf 48 = 0
            rw [Nat.zero_mul]; decide
          rw [this]; rfl
        · rw [if_neg h0]
          have hd := strOf_digits b (pVal a).natAbs hb2 hb36
          have hne : strOf b (pVal a).natAbs ≠ [] := by
            intro he
            have h1 := strOf_length b (pVal a).natAbs
            rw [he] at h1
            have h2 := dlen_zero_iff b (pVal a).natAbs hb2
            simp at h1
            omega
          have hr := read_digits b hb2 hb36 _ hd hne
          rw [numOf_strOf b _ hb2 hb36] at hr
          by_cases hn : pVal a < 0
          · rw [decide_eq_true hn, if_pos rfl, hr.2]
            congr 1; omega
          · rw [decide_eq_false hn, if_neg (by decide), hr.1]
            congr 1; omega
  · rw [if_neg hok] at h; exact absurd h (by decide)
set_option maxRecDepth 100000 in
set_option maxHeartbeats 8000000 in
theorem bigBases_fn (a : List UInt8) (B : Int) (w : World) (la : a.length ≤ 9223372036854775807) :
    Calls Tryd.prog 3 #[.string ⟨a.toArray⟩, .int .i64 B] w fun e w' => e = .returned (.bool true) ∧ Below w.heap.size w w' := by
  have AW := fun w => hid (awake_fn w)
  have hS := Blk.new w #[.string ⟨a.toArray⟩] 9
  have hb0 : Below w.heap.size w (w.alloc (.cells #[.string ⟨a.toArray⟩] 9)) := (Below.refl _ _).alloc (Nat.le_refl _) _
  have HLC := hid (long_any (v := .slice (some ⟨w.heap.size, 0, none⟩) 1 1) 200 (by decide) (Strs.one hS) (by simp) (fun l hl' => by
      simp only [List.mem_cons, List.mem_nil_iff, or_false] at hl'
      rcases hl' with rfl
      assumption))
  clear hS
  rw [longB_one] at HLC
  by_cases hlong : 200 < a.length
  · rw [decide_eq_true hlong] at HLC
    have HLC : Hid (Calls Tryd.prog 4 #[.int .i64 200, .slice (some ⟨w.heap.size, 0, none⟩) 1 1] (w.alloc (.cells #[.string ⟨a.toArray⟩] 9)) _) := HLC
    clear hlong
    go_enter Tryd.func3, Tryd.ntmps3
    go_wp2_with fail
    (with_reducible refine HLC.out.mono ?_); rintro e w0 ⟨rfl, rfl⟩
    go_wp2_with fail
    (with_reducible refine (AW _).out.mono ?_); rintro e w1 ⟨rfl, g1⟩
    have hb := hb0.trans (g1.mono hb0.size)
    clear g1
    go_wp2
    go_ret
    exact ⟨rfl, hb⟩
  · rw [decide_eq_false hlong] at HLC
    have HLC : Hid (Calls Tryd.prog 4 #[.int .i64 200, .slice (some ⟨w.heap.size, 0, none⟩) 1 1] (w.alloc (.cells #[.string ⟨a.toArray⟩] 9)) _) := HLC
    have hb := hb0
    clear hb0
    have B1 := fun w => hid (base_fn a (by omega) B w)
    have B2 := fun w => hid (baseR_fn a (by omega) B w)
    have R1 := fun w => hid (read_big a (by omega) B w)
    have R2 := fun w => hid (readR_fn a (by omega) B w)
    have C1 := fun w => hid (can_fn a (by omega) w)
    by_cases hz : (baseRes a B).2 = 0
    · obtain ⟨hrb, hca, hlen⟩ := read_back a B hz
      have R3 := fun w => hid (read_big (baseRes a B).1 (by omega) B w)
      rw [hz] at B1 B2
      rw [hrb] at R3
      rw [hca] at C1
      clear hz hrb hca hlen hlong
      generalize (baseRes a B).1 = x0 at *
      generalize (readRes a B).1 = x1 at *
      generalize (readRes a B).2 = x2 at *
      generalize txt (pVal a) = x3 at *
      go_enter Tryd.func3, Tryd.ntmps3
      go_wp2_with fail
      (with_reducible refine HLC.out.mono ?_); rintro e w0 ⟨rfl, rfl⟩
      go_wp2_with fail
      (with_reducible refine (B1 _).out.mono ?_); rintro e w1 ⟨rfl, gg⟩
      have hb := hb.trans (gg.mono hb.size)
      clear gg
      go_wp2_with fail
      (with_reducible refine (B2 _).out.mono ?_); rintro e w2 ⟨rfl, gg⟩
      have hb := hb.trans (gg.mono hb.size)
      clear gg
      go_wp2_with fail
      (with_reducible refine (R1 _).out.mono ?_); rintro e w3 ⟨rfl, gg⟩
      have hb := hb.trans (gg.mono hb.size)
      clear gg
      go_wp2_with fail
      (with_reducible refine (R2 _).out.mono ?_); rintro e w4 ⟨rfl, gg⟩
      have hb := hb.trans (gg.mono hb.size)
      clear gg
      go_wp2_with fail
      (with_reducible refine (R3 _).out.mono ?_); rintro e w5 ⟨rfl, gg⟩
      have hb := hb.trans (gg.mono hb.size)
      clear gg
      go_wp2_with fail
      (with_reducible refine (C1 _).out.mono ?_); rintro e w6 ⟨rfl, gg⟩
      have hb := hb.trans (gg.mono hb.size)
      clear gg
      go_wp2_with fail
      (with_reducible refine (AW _).out.mono ?_); rintro e w7 ⟨rfl, gg⟩
      have hb := hb.trans (gg.mono hb.size)
      clear gg
      go_wp2
      go_ret
      exact ⟨rfl, hb⟩
    · have hzb : ((baseRes a B).2 == 0) = false := by rw [beq_eq_false_iff_ne]; exact hz
      clear hlong hz
      generalize (baseRes a B).1 = x0 at *
      generalize (baseRes a B).2 = x4 at *
      generalize (readRes a B).1 = x1 at *
      generalize (readRes a B).2 = x2 at *
      go_enter Tryd.func3, Tryd.ntmps3
      go_wp2_with fail
      (with_reducible refine HLC.out.mono ?_); rintro e w0 ⟨rfl, rfl⟩
      go_wp2_with fail
      (with_reducible refine (B1 _).out.mono ?_); rintro e w1 ⟨rfl, gg⟩
      have hb := hb.trans (gg.mono hb.size)
      clear gg
      go_wp2_with fail
      (with_reducible refine (B2 _).out.mono ?_); rintro e w2 ⟨rfl, gg⟩
      have hb := hb.trans (gg.mono hb.size)
      clear gg
      go_wp2_with fail
      (with_reducible refine (R1 _).out.mono ?_); rintro e w3 ⟨rfl, gg⟩
      have hb := hb.trans (gg.mono hb.size)
      clear gg
      go_wp2_with fail
      (with_reducible refine (R2 _).out.mono ?_); rintro e w4 ⟨rfl, gg⟩
      have hb := hb.trans (gg.mono hb.size)
      clear gg
      go_wp2_with fail
      (with_reducible refine (AW _).out.mono ?_); rintro e w7 ⟨rfl, gg⟩
      have hb := hb.trans (gg.mono hb.size)
      clear gg
      go_wp2
      go_ret
      exact ⟨rfl, hb⟩
end Go.Proofs.YtkhgoeippamobaaDoor
/-
  BigBases: the row and its card. Condition: the listed package-level variables hold what the row lists (the card ties them to the text).
-/
namespace Go.Proofs.YtkhgoeippamobaaDoor.bigBases
open Go.ChangeMaps Go.ChangeShapes Go.WideShapes Go.ChangeAt Go.RowKit
theorem own : ownKnob Tryd.prog.godebug = none := by kernel_rfl
theorem ok_true {P : Program} {W' : World} {f : Func} {t : TypeId} (hr : f.resultTypes = #[t]) (ht : P.underlying t = some .bool) :
    ∀ (j : Nat) (t' : TypeId) (r : Value), f.resultTypes[j]? = some t' → ((Value.bool true).resultList f.resultTypes.size)[j]? = some r → Value.okWide P W' .any 0 t' r := ok_one hr rfl (okWide_bool_mk ht true)
section
variable {H : Type} {enc : TypeId × Value → H}
set_option maxRecDepth 100000 in
/-- the row's last step: no place was read, no variable is asked, what lay below is as it was -/
theorem post_below {f : Func} {s : ChangeSpec} {W W' : World} {args : Array Value} {v : Value} {ds gs : List (DataW H)}
    (hW : DataW.Whole enc Tryd.prog f.params.toList s.vars false W args.toList ds gs [])
    (hres : ∀ (b : Nat) (sp : Nat → Bool) (hd : Bool), DataW.TrodAll enc Tryd.prog W' b sp hd f.resultTypes.toList (v.resultList f.resultTypes.size) (s.fn H (ds ++ gs)).results [])
    (hargs : ∀ sp : Nat → Bool, DataW.TrodAll enc Tryd.prog W' 0 sp true f.params.toList args.toList (s.fn H (ds ++ gs)).args [])
    (hvars : ∀ sp : Nat → Bool, DataW.TrodVars enc Tryd.prog W' sp s.vars (s.fn H (ds ++ gs)).vars []) (hb : Below W.heap.size W W')
    (hok : ∀ (j : Nat) (t : TypeId) (r : Value), f.resultTypes[j]? = some t → (v.resultList f.resultTypes.size)[j]? = some r → Value.okWide Tryd.prog W' .any 0 t r) :
    s.post enc Tryd.prog f false true false false W args v W' := by
  refine ⟨ds, gs, [], [], [], [], hW, hres _ _ _, hargs _, hvars _, World.keptBut_mono (fun p hp => ⟨hp, .inr (.inr hp)⟩) (hb.frame (· ∈ ([] : List MemPlace))), fun _ => ?_⟩
  refine ⟨hok, _, _, ([] ++ []) ++ [], ⟨[] ++ [], [], trodAll_append (hargs _) (hres _ _ _), hvars _, rfl, ?_, ?_⟩, ?_⟩
  · intro b off hp
    simp at hp
  · intro h
    cases h
  · intro p hp _
    simp at hp
end
theorem contract (H : Type) (enc : TypeId × Value → H) (W : World) (base : Nat) (args : Array Value) (ds gs : List (DataW H)) (before : List MemPlace)
    (hval : ∀ (j : Nat) t v, Tryd.f3.params[j]? = some t → args[j]? = some v → Value.okWide Tryd.prog W .any base t v)
    (hW : DataW.Whole enc Tryd.prog Tryd.f3.params.toList Rows.bigBasesSpec.vars false W args.toList ds gs before) :
    Calls Tryd.prog 3 args W fun e W' => ∃ v, e = .returned v ∧ Rows.bigBasesSpec.post enc Tryd.prog Tryd.f3 false true false false W args v W' := by
  have hW' := hW
  obtain ⟨p, q, hA0, hV, rfl, hfz, hnd⟩ := hW
  have hA : DataW.TrodAll enc Tryd.prog W 0 (fun _ => true) true Tryd.f3.params.toList args.toList ds p := hA0
  rw [Tryd.params3] at hA hval
  obtain ⟨v0, vs0, d0, ds0, p0, q0, hargs, rfl, rfl, h0, r0⟩ := trodAll_cons hA
  obtain ⟨v1, vs1, d1, ds1, p1, q1, rfl, rfl, rfl, h1, r1⟩ := trodAll_cons r0
  obtain ⟨rfl, rfl, rfl⟩ := trodAll_nil r1
  obtain rfl : args = #[v0, v1] := by cases args; simp_all
  obtain ⟨rfl, rfl⟩ := trodVars_none hV
  obtain ⟨s0, rfl, rfl, rfl, m0⟩ := open_string Tryd.underlying9 (by with_reducible exact hval 0 9 v0 (by simp) (by simp)) h0
  obtain ⟨s1, rfl, rfl, rfl, m1⟩ := open_int Tryd.underlying3 (by with_reducible exact hval 1 3 v1 (by simp) (by simp)) h1
  clear hA0
  simp only [List.append_nil] at hW'
  have e0 : s0 = ⟨s0.data.toList.toArray⟩ := by cases s0; simp
  have q0 : s0.data.toList.length ≤ 9223372036854775807 := by
    have h1 : s0.data.toList.length = s0.size := by rw [Array.length_toList]; rfl
    have h2 := m0
    unfold maxLen at h2
    omega
  have walk := bigBases_fn s0.data.toList s1 W q0
  rw [← e0] at walk
  refine walk.mono fun e W' ⟨he, hg⟩ => ?_
  subst he
  exact ⟨_, rfl, post_below hW' (fun _ _ _ => trodAll_cons_mk (shut_bool Tryd.underlying4 _) trodAll_mk0) (fun _ => trodAll_cons_mk (shut_string Tryd.underlying9 m0) (trodAll_cons_mk (shut_int Tryd.underlying3 m1) trodAll_mk0)) (fun _ => rfl) hg (@ok_true Tryd.prog W' Tryd.f3 4 (by kernel_rfl) Tryd.underlying4)⟩
theorem reads (os : Os) {H : Type} (enc : TypeId × Value → H) : ∃ places, DataW.whole enc Tryd.prog ((World.laidAll Tryd.prog os Rows.bigBasesRow.laid).forCall (fun _ _ => 0) ⟨#[], #[.string .empty, .int .i64 0], []⟩).memory Tryd.f3.params.toList Rows.bigBasesSpec.vars false (#[.string .empty, .int .i64 0] : Array Value).toList 8 = some ([.lit (.string []), .lit (.int .i64 0)], [], places) :=
  ⟨[], by kernel_rfl⟩
set_option maxRecDepth 100000 in
theorem lifted (os : Os) (started : os.Started) (H : Type) (enc : TypeId × Value → H) (F : Stop.Interp) :
    ReturnsInHanded {} Tryd.checked os 3 .any ((OpenSpec.ofChange Rows.bigBasesSpec).preRow enc Tryd.prog Tryd.f3 Rows.bigBasesRow.domain false Rows.bigBasesRow.laid) (((OpenSpec.ofChange Rows.bigBasesSpec).at F).post enc Tryd.prog Tryd.f3 false true false false) := by
  obtain ⟨places, hx⟩ := reads os enc
  have hl : laidMetH Tryd.prog Rows.bigBasesRow.laid ((World.laidAll Tryd.prog os Rows.bigBasesRow.laid).forCall (fun _ _ => 0) ⟨#[], #[.string .empty, .int .i64 0], []⟩).memory := by
    rw [MakeChecks.laidMetH_plain _ _ _ (by kernel_rfl)]
    exact laidMet_laidAll _ (by kernel_rfl) (by kernel_rfl)
  refine returnsInHanded_of_row (C := Tryd.checked) (s := (OpenSpec.ofChange Rows.bigBasesSpec)) own started (by kernel_rfl) Tryd.func3
    (witness_row_at (enc := enc) (C := Tryd.checked) false (World.laidAll Tryd.prog os Rows.bigBasesRow.laid) #[.string .empty, .int .i64 0] (World.laidAll_os _ _ _) (by kernel_rfl) (by kernel_rfl) (by kernel_rfl)
      (OpenSpec.preRow_of_cond 8 hx (by kernel_rfl) (fun k hk => by cases hk) (by kernel_rfl) hl)) ?_
  intro W base args ds gs before hval hW _ _ _ _ _ _
  exact contract H enc W base args ds gs before hval hW
theorem said : Rows.BigBasesSaid :=
  OpenClaim.holds_of_cond 3 Tryd.f3 rfl rfl rfl rfl rfl rfl rfl ⟨rfl, rfl, rfl, rfl, rfl⟩ rfl rfl rfl rfl rfl (by kernel_rfl) Tryd.func3 (by kernel_rfl)
    (of_decide_eq_true (by kernel_rfl)) (by unfold Func.isWrapper; first | (rw [if_pos (by decide +kernel)]; kernel_rfl) | (rw [if_neg (by decide +kernel)]; exact ⟨rfl, rfl⟩))
    (fun os started H enc _ F => by rw [OpenClaim.pre_eq_preRow]; exact lifted os started H enc F)
theorem plain (f : FuncId) (fn : Func) (hf : Tryd.pinned.checked.prog.funcNamed "threadbare/threadbarelaw03.BigBases" = some f) (hfn : Tryd.pinned.checked.prog.funcs[f]? = some fn) :
    false = Tryd.pinned.checked.prog.looks [] ∧ ∀ (j : Nat) t, fn.params[j]? = some t → Tryd.pinned.checked.prog.wantsStandIn t = false := by
  obtain rfl : f = 3 := Option.some.inj ((show Tryd.prog.funcNamed "threadbare/threadbarelaw03.BigBases" = some 3 by kernel_rfl).symm.trans hf) |>.symm
  obtain rfl : fn = Tryd.f3 := (Option.some.inj (Tryd.func3.symm.trans hfn)).symm
  refine ⟨by kernel_rfl, fun j t ht => ?_⟩
  rw [Tryd.params3] at ht
  have ht := Array.mem_of_getElem? ht
  simp at ht
  rcases ht with rfl | rfl
  · exact (show Tryd.prog.wantsStandIn 9 = false by kernel_rfl)
  · exact (show Tryd.prog.wantsStandIn 3 = false by kernel_rfl)
theorem card : Rows.BigBasesCardSaid :=
  Claim7.holds_tied_plain_at .later [] _ _ _ _ said (fun _ h => by cases h) (by kernel_rfl) (fun _ h => by cases h) bigBases_row_tie rfl ⟨rfl, rfl⟩ (by kernel_rfl) rfl plain (by kernel_rfl)
end Go.Proofs.YtkhgoeippamobaaDoor.bigBases
