/-
  Part K7 of the proofs of this seat: contracts of functions and plain facts, merged from 1 texts.
-/
import Derived.Test.YtabhkoklcjhlpaaGreatDoorK0
import Derived.Test.YtabhkoklcjhlpaaGreatDoorK1
import Derived.Test.YtabhkoklcjhlpaaGreatDoorK2
import Derived.Test.YtabhkoklcjhlpaaGreatDoorK3
import Derived.Test.YtabhkoklcjhlpaaGreatDoorK4
import Derived.Test.YtabhkoklcjhlpaaGreatDoorK5
import Derived.Test.YtabhkoklcjhlpaaGreatDoorK6
/-
  The law ValueAsked (P5.4, P5.5). Condition: the library's variable internal/bytealg.MaxLen holds some int; the texts are not too many.
-/
namespace Go.Proofs.YtabhkoklcjhlpaaGreatDoor.Pz
open Go.RowKit
theorem asked_plain (face : Int) (s : Str) : ∃ e f, askAll face .text s = (e, f) ∧ askAll face f s = (e, f) ∧ (e = 0 → f.n = face) ∧ f.small := by
  unfold askAll
  by_cases h0 : face = 0
  · subst h0
    exact ⟨0, .text, rfl, rfl, fun _ => rfl, trivial⟩
  simp only [if_neg h0]
  by_cases h1 : face = 1
  · subst h1
    simp only [if_true]
    have hl : listAns .text s = if (splitE s).2.2 = 0 then ((splitE s).1, (0 : Int), Fc.list (splitE s).1) else ([], (splitE s).2.2, Fc.text) := rfl
    by_cases he : (splitE s).2.2 = 0
    · rw [if_pos he] at hl
      refine ⟨0, .list (splitE s).1, by rw [hl], rfl, fun _ => rfl, ?_⟩
      have := splitE_out s
      show (splitE s).1.length ≤ 1000000
      omega
    · rw [if_neg he] at hl
      exact ⟨(splitE s).2.2, .text, by rw [hl], by rw [hl], fun h => absurd h he, trivial⟩
  simp only [if_neg h1]
  by_cases h2 : face = 2
  · subst h2
    simp only [if_true]
    have hl : numAns .text s = if (canRes s).2 = 0 then ((canRes s).1, (0 : Int), Fc.num (canRes s).1) else ([], (canRes s).2, Fc.text) := rfl
    by_cases he : (canRes s).2 = 0
    · rw [if_pos he] at hl
      exact ⟨0, .num (canRes s).1, by rw [hl], rfl, fun _ => rfl, trivial⟩
    · rw [if_neg he] at hl
      exact ⟨(canRes s).2, .text, by rw [hl], by rw [hl], fun h => absurd h he, trivial⟩
  simp only [if_neg h2]
  by_cases h3 : face = 3
  · subst h3
    simp only [if_true]
    have hl : pairsAns .text s = if (pairsE s).2 = 0 then ((pairsE s).1, (0 : Int), Fc.dict (pairsE s).1) else ([], (pairsE s).2, Fc.text) := rfl
    by_cases he : (pairsE s).2 = 0
    · rw [if_pos he] at hl
      refine ⟨0, .dict (pairsE s).1, by rw [hl], rfl, fun _ => rfl, ?_⟩
      have h4 := splitE_out s
      have h5 := bookOf_len (splitE s).1 [] []
      show (pairsE s).1.length ≤ 1000000
      unfold pairsE
      split
      · have := flatP_zip (bookOf [] [] (splitE s).1).1 (bookOf [] [] (splitE s).1).2
        simp at h5
        dsimp only
        omega
      · simp
    · rw [if_neg he] at hl
      exact ⟨(pairsE s).2, .text, by rw [hl], by rw [hl], fun h => absurd h he, trivial⟩
  simp only [if_neg h3]
  exact ⟨7, .text, rfl, rfl, (fun h => absurd h (by decide)), trivial⟩
theorem StAt.base {B st : Nat} {w : World} {v : Value} {ps : List Nat} (h : StAt B st w v ps) : ∀ g, v.ownBlock = some g → B ≤ g := ownsRow_base h.row
theorem pickS_at (l : List Str) (i : Nat) (h : i < l.length) : pickS l (i : Int) = (l[i], 0) := by
  unfold pickS
  rw [if_pos (by omega), Int.toNat_natCast, List.getElem?_eq_getElem h]
theorem pickS_end (l : List Str) : pickS l (l.length : Int) = ([], 7) := by
  unfold pickS
  rw [if_pos (by omega), Int.toNat_natCast, List.getElem?_eq_none (Nat.le_refl _)]
theorem add0_fn {B st : Nat} {w : World} {v : Value} (h : StAt B st w v []) (t : Str) (hB : B ≤ w.heap.size) :
    Calls Tryz.prog 11 #[.pointer (some ⟨st, 0, none⟩), .string ⟨t.toArray⟩] w fun e w' => e = .returned (.int .i64 0) ∧ ∃ v' vb sb, StAt B st w' v' [vb] ∧ ValAt vb sb w' .nilIface t true 1 .text ∧ w.heap.size ≤ vb ∧ w.heap.size ≤ sb ∧ Only (st :: v.ownBlock.toList) w w' :=
  storeAdd_fn h t hB (by simp)
theorem make1_fn {B st : Nat} {w : World} {v lv : Value} {p : Nat} {l : List Str} (h : StAt B st w v [p]) (hv : StrsAt w lv l) (hml : ML w) (hok : joinOk l) (hB : B ≤ w.heap.size) :
    Calls Tryz.prog 15 #[.pointer (some ⟨st, 0, none⟩), lv] w fun e w' => e = .returned (.tuple #[.int .i64 1, .int .i64 0]) ∧ ∃ v' vb sb fv, StAt B st w' v' [p, vb] ∧ ValAt vb sb w' fv (quotedL l) false 1 (.list l) ∧ w.heap.size ≤ vb ∧ w.heap.size ≤ sb ∧ Only (st :: v.ownBlock.toList) w w' :=
  storeMake_fn h hv hml hok hB (by simp)
theorem StAt.low {B st B0 : Nat} {w w' : World} {v : Value} {ps : List Nat} (h : StAt B st w v ps) (hB : B0 ≤ B) (hst : B0 ≤ st) (ho : Only (st :: v.ownBlock.toList) w w') (hw : B0 ≤ w.heap.size) : Below B0 w w' :=
  ho.low hw fun k hk => by
    simp only [List.mem_cons, Option.mem_toList] at hk
    rcases hk with rfl | hk
    · exact hst
    · exact Nat.le_trans hB (h.base k hk)
theorem elemAns_list (l : List Str) (t : Str) (i : Int) : elemAns (.list l) t i = pickS l i := rfl
set_option maxRecDepth 100000 in
set_option maxHeartbeats 4000000 in
theorem valueAsked_fn (s : Str) (l : List Str) (face : Int) (lv : Value) (w : World) (hml : ML w) (hv : StrsAt w lv l) (hb : s.length + 1 + sumS l ≤ 10000000) :
    Calls Tryz.prog 3 #[.string ⟨s.toArray⟩, lv, .int .i64 face] w fun e w' => e = .returned (.bool true) ∧ Below w.heap.size w w' := by
  have HV := hid hv
  have HM := hid hml
  obtain ⟨a, cap, rfl, hcap, hcell⟩ := hv
  obtain ⟨n, hn⟩ : ∃ n, n = l.length := ⟨_, rfl⟩
  have HN := hid hn
  rw [← hn] at HV hcap ⊢
  obtain ⟨w1, hw1⟩ : ∃ w1, w1 = w.alloc (.cells #[.int .i64 0, .int .i64 0, .int .i64 0, .string ⟨s.toArray⟩, .string ⟨#[]⟩, .slice a n cap] 25) := ⟨_, rfl⟩
  have hb1 : Below w.heap.size w w1 := by rw [hw1]; exact belowA _ _
  have hg1 : w1.heap[w.heap.size]? = some (.cells #[.int .i64 0, .int .i64 0, .int .i64 0, .string ⟨s.toArray⟩, .string ⟨#[]⟩, .slice a n cap] 25 (0, 0)) := by rw [hw1]; exact heap_alloc_new _ _
  have hL := hid (light1_fn hg1 (HV.out.below hb1) hb)
  have HW1 := hid hw1
  have HB1 := hid hb1
  have hcell2 := fun i (hi : i < l.length) => hcell i hi
  have HC := hid hcell2
  clear hml hcell hcell2 hw1 hb1 hg1 hn
  have AW := fun u (h : Below w.heap.size w u) => hid (awake_fn u (HM.out.below h))
  by_cases hlt : s.length + 1 + sumS l ≤ 3000
  · rw [decide_eq_true hlt] at hL
    obtain ⟨e1, f1, hp1, hp2, hp3, hp4⟩ := asked_plain face s
    have hok := joinOk_light (l := l) (by omega)
    have hs1 : s.length ≤ 100000 := by omega
    have hn1 : n ≤ 1000000 := by have := sumS_len l; have := HN.out; omega
    have HP2 := hid hp2
    have HP3 := hid hp3
    have HP4 := hid hp4
    have HP1 := hid hp1
    have HOK := hid hok
    clear hlt hb hp1 hp2 hp3 hp4 hok
    go_enter Tryz.func3, Tryz.ntmps3
    go_wp2_with fail
    rw [← HW1.out]
    (with_reducible refine hL.out.mono ?_); rintro e w2 ⟨rfl, hb2⟩
    have HB2 := hid (HB1.out.trans (hb2.mono HB1.out.size))
    have HNS := hid (newStore_fn w2)
    clear hb2 hL
    go_wp2_with fail
    (with_reducible refine HNS.out.mono ?_); rintro e w3 ⟨rfl, hst3, hb3⟩
    have hsz2 := HB2.out.size
    have HB3 := hid (HB2.out.trans (hb3.mono hsz2))
    have HAD := hid (add0_fn hst3 s hb3.size)
    obtain ⟨st, hst0⟩ : ∃ st, st = w2.heap.size := ⟨_, rfl⟩
    have hsz3 := hb3.size
    rw [← hst0] at HAD hst3 hsz2 hsz3
    have HST3 := hid hst3
    clear hb3 hst3
    go_wp2_with fail
    rw [← hst0]
    clear hst0
    (with_reducible refine HAD.out.mono ?_); rintro e w4 ⟨rfl, v4, vb, sb, hst4, hv4, hg1, hg2, ho4⟩
    have HB4 := hid (HB3.out.trans (HST3.out.low (B0 := w.heap.size) (by omega) (by omega) ho4 (by omega)))
    have hvb : w.heap.size ≤ vb := by omega
    have hsb : w.heap.size ≤ sb := by omega
    have hg0 : gotAns [vb] 0 = some vb := rfl
    have hll : ∀ (u u' : World), Below w.heap.size w u → Only [vb, sb] u u' → Below w.heap.size w u' := fun u u' hu ho => hu.trans (ho.low hu.size (by simp; omega))
    have HLL := hid hll
    have HAK := hid (storeAsk_fn hst4 0 hg0 hv4 (HM.out.below HB4.out) hs1 trivial face)
    rw [HP1.out] at HAK
    clear hst4 hv4 ho4 hll HAD HNS
    go_wp2_with fail
    (with_reducible refine HAK.out.mono ?_); rintro e w5 ⟨fv5, td5, rfl, hst5, hv5, ho5, ht5⟩
    have htd : td5 = true := by simpa using ht5
    subst htd
    have HF5 := hid (storeFace_fn hst5 0 hg0 hv5)
    have HB5 := hid (HLL.out _ _ HB4.out ho5)
    have HST5 := hid hst5
    have HV5 := hid hv5
    clear hst5 hv5 ho5 ht5 HAK
    go_wp2_with fail
    (with_reducible refine HF5.out.mono ?_); rintro e w5' ⟨rfl, hw5⟩
    subst hw5
    have HAK := hid (storeAsk_fn HST5.out 0 hg0 HV5.out (HM.out.below HB5.out) hs1 HP4.out face)
    rw [HP2.out] at HAK
    clear HF5
    go_wp2_with fail
    (with_reducible refine HAK.out.mono ?_); rintro e w6 ⟨fv6, td6, rfl, hst6, hv6, ho6, ht6⟩
    have htd : td6 = true := by simpa using ht6
    subst htd
    have HF6 := hid (storeFace_fn hst6 0 hg0 hv6)
    have HB6 := hid (HLL.out _ _ HB5.out ho6)
    have HST6 := hid hst6
    have HV6 := hid hv6
    clear hst6 hv6 ho6 ht6 HAK
    go_wp2_with fail
    (with_reducible refine HF6.out.mono ?_); rintro e w6' ⟨rfl, hw6⟩
    subst hw6
    have HTX := hid (storeText_fn HST6.out 0 hg0 HV6.out (HM.out.below HB6.out))
    clear HF6
    go_wp2_with fail
    (with_reducible refine HTX.out.mono ?_); rintro e w7 ⟨rfl, hst7, hv7, ho7⟩
    have HB7 := hid (HLL.out _ _ HB6.out ho7)
    have hst_w7 : st ≤ w7.heap.size := Nat.le_of_lt (Array.getElem?_eq_some_iff.1 hst7.blk).1
    have HMK := hid (make1_fn hst7 (HV.out.below HB7.out) (HM.out.below HB7.out) HOK.out hst_w7)
    have HST7 := hid hst7
    clear hst7 hv7 ho7 HTX
    have hp3 := HP3.out
    generalize f1.n = m1 at *
    by_cases he : e1 = 0
    · have hm : m1 = face := hp3 he
      subst he
      subst hm
      clear hp3
      go_wp2_with fail
      (with_reducible refine HMK.out.mono ?_); rintro e w8 ⟨rfl, v8, vb2, sb2, fv8, hst8, hv8, hg8, hg8', ho8⟩
      have hl0 := HN.out
      have HST8 := hid hst8
      have HV8 := hid hv8
      have HB8 := hid (HB7.out.trans (HST7.out.low (B0 := w.heap.size) (by omega) (by omega) ho8 HB7.out.size))
      have hv2b : w.heap.size ≤ vb2 := by have := HB7.out.size; omega
      have hs2b : w.heap.size ≤ sb2 := by have := HB7.out.size; omega
      have hg9 : gotAns [vb, vb2] 1 = some vb2 := rfl
      have hll2 : ∀ (u u' : World), Below w.heap.size w u → Only [vb2, sb2] u u' → Below w.heap.size w u' := fun u u' hu ho => hu.trans (ho.low hu.size (by simp; omega))
      have HLL2 := hid hll2
      have hq : (quotedL l).length ≤ 100000 := by have := HOK.out.2.2; omega
      have hsm : (Fc.list l).small := by have := HOK.out.1; show l.length ≤ 1000000; omega
      have HEL := fun (u : World) (fv : Value) (td : Bool) (i : Int) (h1 : StAt st st u v8 [vb, vb2]) (h2 : ValAt vb2 sb2 u fv (quotedL l) td 1 (.list l)) (h3 : Below w.heap.size w u) => hid (storeElement_fn h1 1 hg9 h2 (HM.out.below h3) hq hsm i)
      obtain ⟨Q, hQ⟩ : ∃ Q, Q = quotedL l := ⟨_, rfl⟩
      rw [← hQ] at HEL HV8
      clear hst8 hv8 ho8 hll2 hq hsm hQ HMK hl0
      go_wp2
      go_loopg [103] n (fun k iv wr => ∃ (i : Nat) (fv : Value) (td : Bool), iv = .int .i64 (i : Nat) ∧ i ≤ n ∧ StAt st st wr v8 [vb, vb2] ∧ ValAt vb2 sb2 wr fv Q td 1 (.list l) ∧ Below w.heap.size w wr ∧ k = n - i)
      case atStart => exact ⟨0, _, _, rfl, Nat.zero_le _, HST8.out, HV8.out, HB8.out, by simp⟩
      case round =>
        obtain ⟨i, fv, td, rfl, hi, hst, hvv, hbb, rfl⟩ := hrel
        rcases Nat.lt_or_ge i n with hlt | hge
        · have hlt' : i < l.length := by rw [← HN.out]; exact hlt
          obtain ⟨p, rfl, hpb, hcw⟩ := HC.out i hlt'
          have he9 := HEL wr fv td i hst hvv hbb
          have hpk := pickS_at l i hlt'
          obtain ⟨x, hx⟩ : ∃ x, x = l[i] := ⟨_, rfl⟩
          rw [← hx] at hcw hpk
          rw [elemAns_list, hpk] at he9
          have HBB := hid hbb
          have HCW := hid hcw
          clear hst hvv hbb hcw hpk hx
          go_wp2_with fail
          (with_reducible refine he9.out.mono ?_); rintro e wr2 ⟨fv2, td2, rfl, hst2, hvv2, ho2, _⟩
          have hbb2 := HLL2.out _ _ HBB.out ho2
          have hcw2 : wr2.cell? (p.add i) = some (.string ⟨x.toArray⟩) := by rw [hbb2.cell (p := p.add i) (by rw [add_block]; exact hpb)]; exact HCW.out
          have HST2 := hid hst2
          have HVV2 := hid hvv2
          have HBB2 := hid hbb2
          clear hst2 hvv2 ho2 hbb2 he9
          by_cases h0 : i = 0
          · subst h0
            replace hcw2 : wr2.cell? p = some (.string ⟨x.toArray⟩) := hcw2
            go_wp2
            go_roundg (n - (0 + 1))
            case measure => omega
            case rel => exact ⟨0 + 1, _, _, by go_num, by omega, HST2.out, HVV2.out, HBB2.out, rfl⟩
          · go_wp2
            go_roundg (n - (i + 1))
            case measure => omega
            case rel => exact ⟨i + 1, _, _, by go_num, by omega, HST2.out, HVV2.out, HBB2.out, rfl⟩
        · obtain rfl : i = n := by omega
          have he9 := HEL wr fv td i hst hvv hbb
          rw [elemAns_list, show (i : Int) = (l.length : Int) by rw [← HN.out], pickS_end, ← HN.out] at he9
          have HBB := hid hbb
          clear hst hvv hbb
          go_wp2_with fail
          (with_reducible refine he9.out.mono ?_); rintro e wr2 ⟨fv2, td2, rfl, _, _, ho2, _⟩
          have hbb2 := HLL2.out _ _ HBB.out ho2
          have haw := AW _ hbb2
          have HBB2 := hid hbb2
          clear ho2 hbb2 he9
          go_wp2_with fail
          (with_reducible refine haw.out.mono ?_); rintro e wr3 ⟨rfl, hb3⟩
          have HB9 := hid (HBB2.out.trans (hb3.mono HBB2.out.size))
          clear hb3
          go_wp2
          go_ret
          exact ⟨rfl, HB9.out⟩
    · have hne : (e1 == 0) = false := by rw [beq_eq_false_iff_ne]; exact he
      clear hp3 he
      have hun : undef = .tuple #[] := rfl
      go_wp2_with fail
      (with_reducible refine HMK.out.mono ?_); rintro e w8 ⟨rfl, v8, vb2, sb2, fv8, hst8, hv8, hg8, hg8', ho8⟩
      clear hun
      have hl0 := HN.out
      have HST8 := hid hst8
      have HV8 := hid hv8
      have HB8 := hid (HB7.out.trans (HST7.out.low (B0 := w.heap.size) (by omega) (by omega) ho8 HB7.out.size))
      have hv2b : w.heap.size ≤ vb2 := by have := HB7.out.size; omega
      have hs2b : w.heap.size ≤ sb2 := by have := HB7.out.size; omega
      have hg9 : gotAns [vb, vb2] 1 = some vb2 := rfl
      have hll2 : ∀ (u u' : World), Below w.heap.size w u → Only [vb2, sb2] u u' → Below w.heap.size w u' := fun u u' hu ho => hu.trans (ho.low hu.size (by simp; omega))
      have HLL2 := hid hll2
      have hq : (quotedL l).length ≤ 100000 := by have := HOK.out.2.2; omega
      have hsm : (Fc.list l).small := by have := HOK.out.1; show l.length ≤ 1000000; omega
      have HEL := fun (u : World) (fv : Value) (td : Bool) (i : Int) (h1 : StAt st st u v8 [vb, vb2]) (h2 : ValAt vb2 sb2 u fv (quotedL l) td 1 (.list l)) (h3 : Below w.heap.size w u) => hid (storeElement_fn h1 1 hg9 h2 (HM.out.below h3) hq hsm i)
      obtain ⟨Q, hQ⟩ : ∃ Q, Q = quotedL l := ⟨_, rfl⟩
      rw [← hQ] at HEL HV8
      clear hst8 hv8 ho8 hll2 hq hsm hQ HMK hl0
      go_wp2
      go_loopg [103] n (fun k iv wr => ∃ (i : Nat) (fv : Value) (td : Bool), iv = .int .i64 (i : Nat) ∧ i ≤ n ∧ StAt st st wr v8 [vb, vb2] ∧ ValAt vb2 sb2 wr fv Q td 1 (.list l) ∧ Below w.heap.size w wr ∧ k = n - i)
      case atStart => exact ⟨0, _, _, rfl, Nat.zero_le _, HST8.out, HV8.out, HB8.out, by simp⟩
      case round =>
        obtain ⟨i, fv, td, rfl, hi, hst, hvv, hbb, rfl⟩ := hrel
        rcases Nat.lt_or_ge i n with hlt | hge
        · have hlt' : i < l.length := by rw [← HN.out]; exact hlt
          obtain ⟨p, rfl, hpb, hcw⟩ := HC.out i hlt'
          have he9 := HEL wr fv td i hst hvv hbb
          have hpk := pickS_at l i hlt'
          obtain ⟨x, hx⟩ : ∃ x, x = l[i] := ⟨_, rfl⟩
          rw [← hx] at hcw hpk
          rw [elemAns_list, hpk] at he9
          have HBB := hid hbb
          have HCW := hid hcw
          clear hst hvv hbb hcw hpk hx
          go_wp2_with fail
          (with_reducible refine he9.out.mono ?_); rintro e wr2 ⟨fv2, td2, rfl, hst2, hvv2, ho2, _⟩
          have hbb2 := HLL2.out _ _ HBB.out ho2
          have hcw2 : wr2.cell? (p.add i) = some (.string ⟨x.toArray⟩) := by rw [hbb2.cell (p := p.add i) (by rw [add_block]; exact hpb)]; exact HCW.out
          have HST2 := hid hst2
          have HVV2 := hid hvv2
          have HBB2 := hid hbb2
          clear hst2 hvv2 ho2 hbb2 he9
          by_cases h0 : i = 0
          · subst h0
            replace hcw2 : wr2.cell? p = some (.string ⟨x.toArray⟩) := hcw2
            go_wp2
            go_roundg (n - (0 + 1))
            case measure => omega
            case rel => exact ⟨0 + 1, _, _, by go_num, by omega, HST2.out, HVV2.out, HBB2.out, rfl⟩
          · go_wp2
            go_roundg (n - (i + 1))
            case measure => omega
            case rel => exact ⟨i + 1, _, _, by go_num, by omega, HST2.out, HVV2.out, HBB2.out, rfl⟩
        · obtain rfl : i = n := by omega
          have he9 := HEL wr fv td i hst hvv hbb
          rw [elemAns_list, show (i : Int) = (l.length : Int) by rw [← HN.out], pickS_end, ← HN.out] at he9
          have HBB := hid hbb
          clear hst hvv hbb
          go_wp2_with fail
          (with_reducible refine he9.out.mono ?_); rintro e wr2 ⟨fv2, td2, rfl, _, _, ho2, _⟩
          have hbb2 := HLL2.out _ _ HBB.out ho2
          have haw := AW _ hbb2
          have HBB2 := hid hbb2
          clear ho2 hbb2 he9
          go_wp2_with fail
          (with_reducible refine haw.out.mono ?_); rintro e wr3 ⟨rfl, hb3⟩
          have HB9 := hid (HBB2.out.trans (hb3.mono HBB2.out.size))
          clear hb3
          go_wp2
          go_ret
          exact ⟨rfl, HB9.out⟩
  · rw [decide_eq_false hlt] at hL
    clear hlt hb
    go_enter Tryz.func3, Tryz.ntmps3
    go_wp2_with fail
    rw [← HW1.out]
    (with_reducible refine hL.out.mono ?_); rintro e w2 ⟨rfl, hb2⟩
    have hbb := HB1.out.trans (hb2.mono HB1.out.size)
    have haw := AW _ hbb
    have HBB := hid hbb
    clear hb2 hbb hL
    go_wp2_with fail
    (with_reducible refine haw.out.mono ?_); rintro e w3 ⟨rfl, hb3⟩
    have HB9 := hid (HBB.out.trans (hb3.mono HBB.out.size))
    clear hb3
    go_wp2
    go_ret
    exact ⟨rfl, HB9.out⟩
end Go.Proofs.YtabhkoklcjhlpaaGreatDoor.Pz
