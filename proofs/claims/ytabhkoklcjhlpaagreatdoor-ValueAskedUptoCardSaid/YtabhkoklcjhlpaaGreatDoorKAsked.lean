/-
  ValueAskedCard: the law's card and what it alone needs, merged from 2 texts. Conditions: the row's own.
-/
import Derived.Test.YtabhkoklcjhlpaaGreatDoorCards
import Derived.Test.YtabhkoklcjhlpaaGreatDoorTie
import Derived.Deep.DeepHandedRow
import Derived.ProofKit
import Derived.OpenShut
import Derived.Lay
import Derived.MakeChecks
import Derived.ChangeMaps5
import Derived.SliceStrings
import Derived.Carry
import Derived.Shelf.Vars
import Derived.Test.YtabhkoklcjhlpaaGreatDoorK0
import Derived.Test.YtabhkoklcjhlpaaGreatDoorK1
import Derived.Test.YtabhkoklcjhlpaaGreatDoorK2
import Derived.Test.YtabhkoklcjhlpaaGreatDoorK3
import Derived.Test.YtabhkoklcjhlpaaGreatDoorK4
import Derived.Test.YtabhkoklcjhlpaaGreatDoorK5
import Derived.Test.YtabhkoklcjhlpaaGreatDoorK6
/-
  The law ValueAsked (P5.4, P5.5). Condition: the library's variable internal/bytealg.MaxLen holds some int; the texts are not too many.
-/
namespace Go.Proofs.YtabhkoklcjhlpaaGreatDoor.Pz
open Go.RowKit
theorem asked_plain (face : Int) (s : Str) : ∃ e f, askAll face .text s = (e, f) ∧ askAll face f s = (e, f) ∧ (e = 0 → f.n = face) ∧ f.small := by
  unfold askAll
  by_cases h0 : face = 0
  · subst h0
    exact ⟨0, .text, rfl, rfl, fun _ => rfl, trivial⟩
  simp only [if_neg h0]
  by_cases h1 : face = 1
  · subst h1
    simp only [if_true]
    have hl : listAns .text s = if (splitE s).2.2 = 0 then ((splitE s).1, (0 : Int), Fc.list (splitE s).1) else ([], (splitE s).2.2, Fc.text) := rfl
    by_cases he : (splitE s).2.2 = 0
    · rw [if_pos he] at hl
      refine ⟨0, .list (splitE s).1, by rw [hl], rfl, fun _ => rfl, ?_⟩
      have := splitE_out s
      show (splitE s).1.length ≤ 1000000
      omega
    · rw [if_neg he] at hl
      exact ⟨(splitE s).2.2, .text, by rw [hl], by rw [hl], fun h => absurd h he, trivial⟩
  simp only [if_neg h1]
  by_cases h2 : face = 2
  · subst h2
    simp only [if_true]
    have hl : numAns .text s = if (canRes s).2 = 0 then ((canRes s).1, (0 : Int), Fc.num (canRes s).1) else ([], (canRes s).2, Fc.text) := rfl
    by_cases he : (canRes s).2 = 0
    · rw [if_pos he] at hl
      exact ⟨0, .num (canRes s).1, by rw [hl], rfl, fun _ => rfl, trivial⟩
    · rw [if_neg he] at hl
      exact ⟨(canRes s).2, .text, by rw [hl], by rw [hl], fun h => absurd h he, trivial⟩
  simp only [if_neg h2]
  by_cases h3 : face = 3
  · subst h3
    simp only [if_true]
    have hl : pairsAns .text s = if (pairsE s).2 = 0 then ((pairsE s).1, (0 : Int), Fc.dict (pairsE s).1) else ([], (pairsE s).2, Fc.text) := rfl
    by_cases he : (pairsE s).2 = 0
    · rw [if_pos he] at hl
      refine ⟨0, .dict (pairsE s).1, by rw [hl], rfl, fun _ => rfl, ?_⟩
      have h4 := splitE_out s
      have h5 := bookOf_len (splitE s).1 [] []
      show (pairsE s).1.length ≤ 1000000
      unfold pairsE
      split
      · have := flatP_zip (bookOf [] [] (splitE s).1).1 (bookOf [] [] (splitE s).1).2
        simp at h5
        dsimp only
        omega
      · simp
    · rw [if_neg he] at hl
      exact ⟨(pairsE s).2, .text, by rw [hl], by rw [hl], fun h => absurd h he, trivial⟩
  simp only [if_neg h3]
  exact ⟨7, .text, rfl, rfl, (fun h => absurd h (by decide)), trivial⟩
theorem StAt.base {B st : Nat} {w : World} {v : Value} {ps : List Nat} (h : StAt B st w v ps) : ∀ g, v.ownBlock = some g → B ≤ g := ownsRow_base h.row
theorem pickS_at (l : List Str) (i : Nat) (h : i < l.length) : pickS l (i : Int) = (l[i], 0) := by
  unfold pickS
  rw [if_pos (by omega), Int.toNat_natCast, List.getElem?_eq_getElem h]
theorem pickS_end (l : List Str) : pickS l (l.length : Int) = ([], 7) := by
  unfold pickS
  rw [if_pos (by omega), Int.toNat_natCast, List.getElem?_eq_none (Nat.le_refl _)]
theorem add0_fn {B st : Nat} {w : World} {v : Value} (h : StAt B st w v []) (t : Str) (hB : B ≤ w.heap.size) :
    Calls Tryz.prog 11 #[.pointer (some ⟨st, 0, none⟩), .string ⟨t.toArray⟩] w fun e w' => e = .returned (.int .i64 0) ∧ ∃ v' vb sb, StAt B st w' v' [vb] ∧ ValAt vb sb w' .nilIface t true 1 .text ∧ w.heap.size ≤ vb ∧ w.heap.size ≤ sb ∧ Only (st :: v.ownBlock.toList) w w' :=
  storeAdd_fn h t hB (by simp)
theorem make1_fn {B st : Nat} {w : World} {v lv : Value} {p : Nat} {l : List Str} (h : StAt B st w v [p]) (hv : StrsAt w lv l) (hml : ML w) (hok : joinOk l) (hB : B ≤ w.heap.size) :
    Calls Tryz.prog 15 #[.pointer (some ⟨st, 0, none⟩), lv] w fun e w' => e = .returned (.tuple #[.int .i64 1, .int .i64 0]) ∧ ∃ v' vb sb fv, StAt B st w' v' [p, vb] ∧ ValAt vb sb w' fv (quotedL l) false 1 (.list l) ∧ w.heap.size ≤ vb ∧ w.heap.size ≤ sb ∧ Only (st :: v.ownBlock.toList) w w' :=
  storeMake_fn h hv hml hok hB (by simp)
theorem StAt.low {B st B0 : Nat} {w w' : World} {v : Value} {ps : List Nat} (h : StAt B st w v ps) (hB : B0 ≤ B) (hst : B0 ≤ st) (ho : Only (st :: v.ownBlock.toList) w w') (hw : B0 ≤ w.heap.size) : Below B0 w w' :=
  ho.low hw fun k hk => by
    simp only [List.mem_cons, Option.mem_toList] at hk
    rcases hk with rfl | hk
    · exact hst
    · exact Nat.le_trans hB (h.base k hk)
theorem elemAns_list (l : List Str) (t : Str) (i : Int) : elemAns (.list l) t i = pickS l i := rfl
set_option maxRecDepth 100000 in
set_option maxHeartbeats 4000000 in
theorem valueAsked_fn (s : Str) (l : List Str) (face : Int) (lv : Value) (w : World) (hml : ML w) (hv : StrsAt w lv l) (hb : s.length + 1 + sumS l ≤ 10000000) :
    Calls Tryz.prog 3 #[.string ⟨s.toArray⟩, lv, .int .i64 face] w fun e w' => e = .returned (.bool true) ∧ Below w.heap.size w w' := by
  have HV := hid hv
  have HM := hid hml
  obtain ⟨a, cap, rfl, hcap, hcell⟩ := hv
  obtain ⟨n, hn⟩ : ∃ n, n = l.length := ⟨_, rfl⟩
  have HN := hid hn
  rw [← hn] at HV hcap ⊢
  obtain ⟨w1, hw1⟩ : ∃ w1, w1 = w.alloc (.cells #[.int .i64 0, .int .i64 0, .int .i64 0, .string ⟨s.toArray⟩, .string ⟨#[]⟩, .slice a n cap] 25) := ⟨_, rfl⟩
  have hb1 : Below w.heap.size w w1 := by rw [hw1]; exact belowA _ _
  have hg1 : w1.heap[w.heap.size]? = some (.cells #[.int .i64 0, .int .i64 0, .int .i64 0, .string ⟨s.toArray⟩, .string ⟨#[]⟩, .slice a n cap] 25 (0, 0)) := by rw [hw1]; exact heap_alloc_new _ _
  have hL := hid (light1_fn hg1 (HV.out.below hb1) hb)
  have HW1 := hid hw1
  have HB1 := hid hb1
  have hcell2 := fun i (hi : i < l.length) => hcell i hi
  have HC := hid hcell2
  clear hml hcell hcell2 hw1 hb1 hg1 hn
  have AW := fun u (h : Below w.heap.size w u) => hid (awake_fn u (HM.out.below h))
  by_cases hlt : s.length + 1 + sumS l ≤ 3000
  · rw [decide_eq_true hlt] at hL
    obtain ⟨e1, f1, hp1, hp2, hp3, hp4⟩ := asked_plain face s
    have hok := joinOk_light (l := l) (by omega)
    have hs1 : s.length ≤ 100000 := by omega
    have hn1 : n ≤ 1000000 := by have := sumS_len l; have := HN.out; omega
    have HP2 := hid hp2
    have HP3 := hid hp3
    have HP4 := hid hp4
    have HP1 := hid hp1
    have HOK := hid hok
    clear hlt hb hp1 hp2 hp3 hp4 hok
    go_enter Tryz.func3, Tryz.ntmps3
    go_wp2_with fail
    rw [← HW1.out]
    (with_reducible refine hL.out.mono ?_); rintro e w2 ⟨rfl, hb2⟩
    have HB2 := hid (HB1.out.trans (hb2.mono HB1.out.size))
    have HNS := hid (newStore_fn w2)
    clear hb2 hL
    go_wp2_with fail
    (with_reducible refine HNS.out.mono ?_); rintro e w3 ⟨rfl, hst3, hb3⟩
    have hsz2 := HB2.out.size
    have HB3 := hid (HB2.out.trans (hb3.mono hsz2))
    have HAD := hid (add0_fn hst3 s hb3.size)
    obtain ⟨st, hst0⟩ : ∃ st, st = w2.heap.size := ⟨_, rfl⟩
    have hsz3 := hb3.size
    rw [← hst0] at HAD hst3 hsz2 hsz3
    have HST3 := hid hst3
    clear hb3 hst3
    go_wp2_with fail
    rw [← hst0]
    clear hst0
    (with_reducible refine HAD.out.mono ?_); rintro e w4 ⟨rfl, v4, vb, sb, hst4, hv4, hg1, hg2, ho4⟩
    have HB4 := hid (HB3.out.trans (HST3.out.low (B0 := w.heap.size) (by omega) (by omega) ho4 (by omega)))
    have hvb : w.heap.size ≤ vb := by omega
    have hsb : w.heap.size ≤ sb := by omega
    have hg0 : gotAns [vb] 0 = some vb := rfl
    have hll : ∀ (u u' : World), Below w.heap.size w u → Only [vb, sb] u u' → Below w.heap.size w u' := fun u u' hu ho => hu.trans (ho.low hu.size (by simp; omega))
    have HLL := hid hll
    have HAK := hid (storeAsk_fn hst4 0 hg0 hv4 (HM.out.below HB4.out) hs1 trivial face)
    rw [HP1.out] at HAK
    clear hst4 hv4 ho4 hll HAD HNS
    go_wp2_with fail
    (with_reducible refine HAK.out.mono ?_); rintro e w5 ⟨fv5, td5, rfl, hst5, hv5, ho5, ht5⟩
    have htd : td5 = true := by simpa using ht5
    subst htd
    have HF5 := hid (storeFace_fn hst5 0 hg0 hv5)
    have HB5 := hid (HLL.out _ _ HB4.out ho5)
    have HST5 := hid hst5
    have HV5 := hid hv5
    clear hst5 hv5 ho5 ht5 HAK
    go_wp2_with fail
    (with_reducible refine HF5.out.mono ?_); rintro e w5' ⟨rfl, hw5⟩
    subst hw5
    have HAK := hid (storeAsk_fn HST5.out 0 hg0 HV5.out (HM.out.below HB5.out) hs1 HP4.out face)
    rw [HP2.out] at HAK
    clear HF5
    go_wp2_with fail
    (with_reducible refine HAK.out.mono ?_); rintro e w6 ⟨fv6, td6, rfl, hst6, hv6, ho6, ht6⟩
    have htd : td6 = true := by simpa using ht6
    subst htd
    have HF6 := hid (storeFace_fn hst6 0 hg0 hv6)
    have HB6 := hid (HLL.out _ _ HB5.out ho6)
    have HST6 := hid hst6
    have HV6 := hid hv6
    clear hst6 hv6 ho6 ht6 HAK
    go_wp2_with fail
    (with_reducible refine HF6.out.mono ?_); rintro e w6' ⟨rfl, hw6⟩
    subst hw6
    have HTX := hid (storeText_fn HST6.out 0 hg0 HV6.out (HM.out.below HB6.out))
    clear HF6
    go_wp2_with fail
    (with_reducible refine HTX.out.mono ?_); rintro e w7 ⟨rfl, hst7, hv7, ho7⟩
    have HB7 := hid (HLL.out _ _ HB6.out ho7)
    have hst_w7 : st ≤ w7.heap.size := Nat.le_of_lt (Array.getElem?_eq_some_iff.1 hst7.blk).1
    have HMK := hid (make1_fn hst7 (HV.out.below HB7.out) (HM.out.below HB7.out) HOK.out hst_w7)
    have HST7 := hid hst7
    clear hst7 hv7 ho7 HTX
    have hp3 := HP3.out
    generalize f1.n = m1 at *
    by_cases he : e1 = 0
    · have hm : m1 = face := hp3 he
      subst he
      subst hm
      clear hp3
      go_wp2_with fail
      (with_reducible refine HMK.out.mono ?_); rintro e w8 ⟨rfl, v8, vb2, sb2, fv8, hst8, hv8, hg8, hg8', ho8⟩
      have hl0 := HN.out
      have HST8 := hid hst8
      have HV8 := hid hv8
      have HB8 := hid (HB7.out.trans (HST7.out.low (B0 := w.heap.size) (by omega) (by omega) ho8 HB7.out.size))
      have hv2b : w.heap.size ≤ vb2 := by have := HB7.out.size; omega
      have hs2b : w.heap.size ≤ sb2 := by have := HB7.out.size; omega
      have hg9 : gotAns [vb, vb2] 1 = some vb2 := rfl
      have hll2 : ∀ (u u' : World), Below w.heap.size w u → Only [vb2, sb2] u u' → Below w.heap.size w u' := fun u u' hu ho => hu.trans (ho.low hu.size (by simp; omega))
      have HLL2 := hid hll2
      have hq : (quotedL l).length ≤ 100000 := by have := HOK.out.2.2; omega
      have hsm : (Fc.list l).small := by have := HOK.out.1; show l.length ≤ 1000000; omega
      have HEL := fun (u : World) (fv : Value) (td : Bool) (i : Int) (h1 : StAt st st u v8 [vb, vb2]) (h2 : ValAt vb2 sb2 u fv (quotedL l) td 1 (.list l)) (h3 : Below w.heap.size w u) => hid (storeElement_fn h1 1 hg9 h2 (HM.out.below h3) hq hsm i)
      obtain ⟨Q, hQ⟩ : ∃ Q, Q = quotedL l := ⟨_, rfl⟩
      rw [← hQ] at HEL HV8
      clear hst8 hv8 ho8 hll2 hq hsm hQ HMK hl0
      go_wp2
      go_loopg [103] n (fun k iv wr => ∃ (i : Nat) (fv : Value) (td : Bool), iv = .int .i64 (i : Nat) ∧ i ≤ n ∧ StAt st st wr v8 [vb, vb2] ∧ ValAt vb2 sb2 wr fv Q td 1 (.list l) ∧ Below w.heap.size w wr ∧ k = n - i)
      case atStart => exact ⟨0, _, _, rfl, Nat.zero_le _, HST8.out, HV8.out, HB8.out, by simp⟩
      case round =>
        obtain ⟨i, fv, td, rfl, hi, hst, hvv, hbb, rfl⟩ := hrel
        rcases Nat.lt_or_ge i n with hlt | hge
        · have hlt' : i < l.length := by rw [← HN.out]; exact hlt
          obtain ⟨p, rfl, hpb, hcw⟩ := HC.out i hlt'
          have he9 := HEL wr fv td i hst hvv hbb
          have hpk := pickS_at l i hlt'
          obtain ⟨x, hx⟩ : ∃ x, x = l[i] := ⟨_, rfl⟩
          rw [← hx] at hcw hpk
          rw [elemAns_list, hpk] at he9
          have HBB := hid hbb
          have HCW := hid hcw
          clear hst hvv hbb hcw hpk hx
          go_wp2_with fail
          (with_reducible refine he9.out.mono ?_); rintro e wr2 ⟨fv2, td2, rfl, hst2, hvv2, ho2, _⟩
          have hbb2 := HLL2.out _ _ HBB.out ho2
          have hcw2 : wr2.cell? (p.add i) = some (.string ⟨x.toArray⟩) := by rw [hbb2.cell (p := p.add i) (by rw [add_block]; exact hpb)]; exact HCW.out
          have HST2 := hid hst2
          have HVV2 := hid hvv2
          have HBB2 := hid hbb2
          clear hst2 hvv2 ho2 hbb2 he9
          by_cases h0 : i = 0
          · subst h0
            replace hcw2 : wr2.cell? p = some (.string ⟨x.toArray⟩) := hcw2
            go_wp2
            go_roundg (n - (0 + 1))
            case measure => omega
            case rel => exact ⟨0 + 1, _, _, by go_num, by omega, HST2.out, HVV2.out, HBB2.out, rfl⟩
          · go_wp2
            go_roundg (n - (i + 1))
            case measure => omega
            case rel => exact ⟨i + 1, _, _, by go_num, by omega, HST2.out, HVV2.out, HBB2.out, rfl⟩
        · obtain rfl : i = n := by omega
          have he9 := HEL wr fv td i hst hvv hbb
          rw [elemAns_list, show (i : Int) = (l.length : Int) by rw [← HN.out], pickS_end, ← HN.out] at he9
          have HBB := hid hbb
          clear hst hvv hbb
          go_wp2_with fail
          (with_reducible refine he9.out.mono ?_); rintro e wr2 ⟨fv2, td2, rfl, _, _, ho2, _⟩
          have hbb2 := HLL2.out _ _ HBB.out ho2
          have haw := AW _ hbb2
          have HBB2 := hid hbb2
          clear ho2 hbb2 he9
          go_wp2_with fail
          (with_reducible refine haw.out.mono ?_); rintro e wr3 ⟨rfl, hb3⟩
          have HB9 := hid (HBB2.out.trans (hb3.mono HBB2.out.size))
          clear hb3
          go_wp2
          go_ret
          exact ⟨rfl, HB9.out⟩
    · have hne : (e1 == 0) = false := by rw [beq_eq_false_iff_ne]; exact he
      clear hp3 he
      have hun : undef = .tuple #[] := rfl
      go_wp2_with fail
      (with_reducible refine HMK.out.mono ?_); rintro e w8 ⟨rfl, v8, vb2, sb2, fv8, hst8, hv8, hg8, hg8', ho8⟩
      clear hun
      have hl0 := HN.out
      have HST8 := hid hst8
      have HV8 := hid hv8
      have HB8 := hid (HB7.out.trans (HST7.out.low (B0 := w.heap.size) (by omega) (by omega) ho8 HB7.out.size))
      have hv2b : w.heap.size ≤ vb2 := by have := HB7.out.size; omega
      have hs2b : w.heap.size ≤ sb2 := by have := HB7.out.size; omega
      have hg9 : gotAns [vb, vb2] 1 = some vb2 := rfl
      have hll2 : ∀ (u u' : World), Below w.heap.size w u → Only [vb2, sb2] u u' → Below w.heap.size w u' := fun u u' hu ho => hu.trans (ho.low hu.size (by simp; omega))
      have HLL2 := hid hll2
      have hq : (quotedL l).length ≤ 100000 := by have := HOK.out.2.2; omega
      have hsm : (Fc.list l).small := by have := HOK.out.1; show l.length ≤ 1000000; omega
      have HEL := fun (u : World) (fv : Value) (td : Bool) (i : Int) (h1 : StAt st st u v8 [vb, vb2]) (h2 : ValAt vb2 sb2 u fv (quotedL l) td 1 (.list l)) (h3 : Below w.heap.size w u) => hid (storeElement_fn h1 1 hg9 h2 (HM.out.below h3) hq hsm i)
      obtain ⟨Q, hQ⟩ : ∃ Q, Q = quotedL l := ⟨_, rfl⟩
      rw [← hQ] at HEL HV8
      clear hst8 hv8 ho8 hll2 hq hsm hQ HMK hl0
      go_wp2
      go_loopg [103] n (fun k iv wr => ∃ (i : Nat) (fv : Value) (td : Bool), iv = .int .i64 (i : Nat) ∧ i ≤ n ∧ StAt st st wr v8 [vb, vb2] ∧ ValAt vb2 sb2 wr fv Q td 1 (.list l) ∧ Below w.heap.size w wr ∧ k = n - i)
      case atStart => exact ⟨0, _, _, rfl, Nat.zero_le _, HST8.out, HV8.out, HB8.out, by simp⟩
      case round =>
        obtain ⟨i, fv, td, rfl, hi, hst, hvv, hbb, rfl⟩ := hrel
        rcases Nat.lt_or_ge i n with hlt | hge
        · have hlt' : i < l.length := by rw [← HN.out]; exact hlt
          obtain ⟨p, rfl, hpb, hcw⟩ := HC.out i hlt'
          have he9 := HEL wr fv td i hst hvv hbb
          have hpk := pickS_at l i hlt'
          obtain ⟨x, hx⟩ : ∃ x, x = l[i] := ⟨_, rfl⟩
          rw [← hx] at hcw hpk
          rw [elemAns_list, hpk] at he9
          have HBB := hid hbb
          have HCW := hid hcw
          clear hst hvv hbb hcw hpk hx
          go_wp2_with fail
          (with_reducible refine he9.out.mono ?_); rintro e wr2 ⟨fv2, td2, rfl, hst2, hvv2, ho2, _⟩
          have hbb2 := HLL2.out _ _ HBB.out ho2
          have hcw2 : wr2.cell? (p.add i) = some (.string ⟨x.toArray⟩) := by rw [hbb2.cell (p := p.add i) (by rw [add_block]; exact hpb)]; exact HCW.out
          have HST2 := hid hst2
          have HVV2 := hid hvv2
          have HBB2 := hid hbb2
          clear hst2 hvv2 ho2 hbb2 he9
          by_cases h0 : i = 0
          · subst h0
            replace hcw2 : wr2.cell? p = some (.string ⟨x.toArray⟩) := hcw2
            go_wp2
            go_roundg (n - (0 + 1))
            case measure => omega
            case rel => exact ⟨0 + 1, _, _, by go_num, by omega, HST2.out, HVV2.out, HBB2.out, rfl⟩
          · go_wp2
            go_roundg (n - (i + 1))
            case measure => omega
            case rel => exact ⟨i + 1, _, _, by go_num, by omega, HST2.out, HVV2.out, HBB2.out, rfl⟩
        · obtain rfl : i = n := by omega
          have he9 := HEL wr fv td i hst hvv hbb
          rw [elemAns_list, show (i : Int) = (l.length : Int) by rw [← HN.out], pickS_end, ← HN.out] at he9
          have HBB := hid hbb
          clear hst hvv hbb
          go_wp2_with fail
          (with_reducible refine he9.out.mono ?_); rintro e wr2 ⟨fv2, td2, rfl, _, _, ho2, _⟩
          have hbb2 := HLL2.out _ _ HBB.out ho2
          have haw := AW _ hbb2
          have HBB2 := hid hbb2
          clear ho2 hbb2 he9
          go_wp2_with fail
          (with_reducible refine haw.out.mono ?_); rintro e wr3 ⟨rfl, hb3⟩
          have HB9 := hid (HBB2.out.trans (hb3.mono HBB2.out.size))
          clear hb3
          go_wp2
          go_ret
          exact ⟨rfl, HB9.out⟩
  · rw [decide_eq_false hlt] at hL
    clear hlt hb
    go_enter Tryz.func3, Tryz.ntmps3
    go_wp2_with fail
    rw [← HW1.out]
    (with_reducible refine hL.out.mono ?_); rintro e w2 ⟨rfl, hb2⟩
    have hbb := HB1.out.trans (hb2.mono HB1.out.size)
    have haw := AW _ hbb
    have HBB := hid hbb
    clear hb2 hbb hL
    go_wp2_with fail
    (with_reducible refine haw.out.mono ?_); rintro e w3 ⟨rfl, hb3⟩
    have HB9 := hid (HBB.out.trans (hb3.mono HBB.out.size))
    clear hb3
    go_wp2
    go_ret
    exact ⟨rfl, HB9.out⟩
end Go.Proofs.YtabhkoklcjhlpaaGreatDoor.Pz
/-
  ValueAsked: the row and its card (the second form: arguments of bulk at most 1048576). Condition: the listed package-level variables hold what the row lists (the card ties them to the text).
-/
namespace Go.Proofs.YtabhkoklcjhlpaaGreatDoor.valueAsked
open Go.ChangeMaps Go.ChangeShapes Go.WideShapes Go.ChangeAt Go.RowKit
theorem own : ownKnob Tryz.prog.godebug = none := by kernel_rfl
theorem ok_true {P : Program} {W' : World} {f : Func} {t : TypeId} (hr : f.resultTypes = #[t]) (ht : P.underlying t = some .bool) :
    ∀ (j : Nat) (t' : TypeId) (r : Value), f.resultTypes[j]? = some t' → ((Value.bool true).resultList f.resultTypes.size)[j]? = some r → Value.okWide P W' .any 0 t' r := ok_one hr rfl (okWide_bool_mk ht true)
section
variable {H : Type} {enc : TypeId × Value → H}
/-- the row's last step: the arguments' places read as they did, no variable is asked, what lay below is as it was -/
theorem post_rows {f : Func} {s : ChangeSpec} {W W' : World} {args : Array Value} {v : Value} {ds gs : List (DataW H)} {before pa : List MemPlace}
    (hW : DataW.Whole enc Tryz.prog f.params.toList s.vars false W args.toList ds gs before)
    (hres : ∀ (b : Nat) (sp : Nat → Bool) (hd : Bool), DataW.TrodAll enc Tryz.prog W' b sp hd f.resultTypes.toList (v.resultList f.resultTypes.size) (s.fn H (ds ++ gs)).results [])
    (hargs : DataW.TrodAll enc Tryz.prog W' 0 (fun b => decide (b < W.heap.size)) true f.params.toList args.toList (s.fn H (ds ++ gs)).args pa)
    (hvars : ∀ sp : Nat → Bool, DataW.TrodVars enc Tryz.prog W' sp s.vars (s.fn H (ds ++ gs)).vars []) (hb : Below W.heap.size W W') :
    s.post enc Tryz.prog f false true false false W args v W' :=
  ⟨ds, gs, before, [], pa, [], hW, hres _ _ _, hargs, hvars _, hb.frame _, fun h => by cases h⟩
theorem laidOut : laidOutB Tryz.prog = true := by kernel_rfl
theorem getD_data (ss : List ByteArray) (n i : Nat) (h : i < ((ss.take n).map (fun x : ByteArray => x.data.toList)).length) : (.string (ss.getD i ByteArray.empty) : Value) = .string ⟨(((ss.take n).map (fun x : ByteArray => x.data.toList))[i]).toArray⟩ := by
  simp only [List.length_map, List.length_take] at h
  have h1 : i < ss.length := by omega
  rw [List.getElem_map, List.getElem_take, List.getD_eq_getElem?_getD, List.getElem?_eq_getElem h1]
  cases ss[i]
  simp
theorem bulk_strs (ss : List ByteArray) : Rows.uptoBulkAll (strs (H := H) ss) = Pz.sumS (ss.map (·.data.toList)) := by
  induction ss with
  | nil => rfl
  | cons a ss ih =>
    show a.data.toList.length + 1 + Rows.uptoBulkAll (strs (H := H) ss) = a.data.toList.length + 1 + Pz.sumS (ss.map (·.data.toList))
    rw [ih]
end
theorem contract (H : Type) (enc : TypeId × Value → H) (W : World) (base : Nat) (args : Array Value) (ds gs : List (DataW H)) (before : List MemPlace)
    (hval : ∀ (j : Nat) t v, Tryz.f3.params[j]? = some t → args[j]? = some v → Value.okWide Tryz.prog W .any base t v)
    (hW : DataW.Whole enc Tryz.prog Tryz.f3.params.toList Rows.valueAskedSpec.vars false W args.toList ds gs before) (hk : Rows.uptoSmall H (ds ++ gs) = true) (hml : Pz.ML W) :
    Calls Tryz.prog 3 args W fun e W' => ∃ v, e = .returned v ∧ Rows.valueAskedSpec.post enc Tryz.prog Tryz.f3 false true false false W args v W' := by
  have hW' := hW
  obtain ⟨p, q, hA0, hV, rfl, hfz, hnd⟩ := hW
  have hA : DataW.TrodAll enc Tryz.prog W 0 (fun _ => true) true Tryz.f3.params.toList args.toList ds p := hA0
  rw [Tryz.params3] at hA hval
  obtain ⟨v0, vs0, d0, ds0, p0, q0, hargs, rfl, rfl, h0, r0⟩ := trodAll_cons hA
  obtain ⟨v1, vs1, d1, ds1, p1, q1, rfl, rfl, rfl, h1, r1⟩ := trodAll_cons r0
  obtain ⟨v2, vs2, d2, ds2, p2, q2, rfl, rfl, rfl, h2, r2⟩ := trodAll_cons r1
  obtain ⟨rfl, rfl, rfl⟩ := trodAll_nil r2
  obtain rfl : args = #[v0, v1, v2] := by cases args; simp_all
  obtain ⟨rfl, rfl⟩ := trodVars_none hV
  obtain ⟨s0, rfl, rfl, rfl, m0⟩ := open_string Tryz.underlying9 (by with_reducible exact hval 0 9 v0 (by simp) (by simp)) h0
  obtain ⟨a1, n1, c1, rfl⟩ := okWide_slice Tryz.underlying22 (by with_reducible exact hval 1 22 v1 (by simp) (by simp))
  have h1k := h1
  obtain ⟨fuel, hf⟩ := h1
  obtain ⟨s2, rfl, rfl, rfl, m2⟩ := open_int Tryz.underlying3 (by with_reducible exact hval 2 3 v2 (by simp) (by simp)) h2
  clear hA0
  simp only [List.append_nil, List.nil_append] at hW' hk
  have hlt : ∀ x ∈ p1, x.block < W.heap.size := fun x hx => by simpa using hW'.lt x (by simp [hx])
  have e0 : s0 = ⟨s0.data.toList.toArray⟩ := by cases s0; simp
  have fin : ∀ l : List Pz.Str, Pz.StrsAt W (.slice a1 n1 c1) l → s0.data.toList.length + 1 + Pz.sumS l ≤ 2000000 →
      Calls Tryz.prog 3 #[.string s0, .slice a1 n1 c1, .int .i64 s2] W fun e W' => ∃ v, e = .returned v ∧ Rows.valueAskedSpec.post enc Tryz.prog Tryz.f3 false true false false W #[.string s0, .slice a1 n1 c1, .int .i64 s2] v W' := by
    intro l hl hb
    have walk := Pz.valueAsked_fn s0.data.toList l s2 _ W hml hl (by omega)
    rw [← e0] at walk
    refine walk.mono fun e W' ⟨he, hg⟩ => ?_
    subst he
    exact ⟨_, rfl, post_rows hW' (fun _ _ _ => trodAll_cons_mk (shut_bool Tryz.underlying4 _) trodAll_mk0) (trodAll_cons_mk (shut_string Tryz.underlying9 m0) (trodAll_cons_mk (Below.trod laidOut (by kernel_rfl) (of_decide_eq_true (by kernel_rfl)) h1k hg hlt) (trodAll_cons_mk (shut_int Tryz.underlying3 m2) (trodAll_mk0)))) (fun _ => rfl) hg⟩
  have hb := of_decide_eq_true hk
  rcases open_strings Tryz.underlying22 Tryz.underlying9 (by kernel_rfl) hf with ⟨hcs, hx⟩ | ⟨a, len', cap', ss, hcs, _, hl, hm, hz, hx, hcell, hws⟩
  · simp [Value.cells] at hcs
    obtain ⟨rfl, rfl, rfl⟩ := hcs
    simp only [Prod.mk.injEq] at hx
    obtain ⟨rfl, rfl⟩ := hx
    simp only [Rows.uptoBulkAll, Rows.uptoBulk] at hb
    exact fin [] ⟨none, 0, rfl, Nat.le_refl _, fun i hi => absurd hi (by simp)⟩ (by simp only [Pz.sumS]; omega)
  · simp [Value.cells] at hcs
    obtain ⟨rfl, rfl, rfl⟩ := hcs
    simp only [Prod.mk.injEq] at hx
    obtain ⟨rfl, rfl⟩ := hx
    simp only [if_true] at hz
    have hln : ((ss.take n1).map (·.data.toList)).length = n1 := by rw [List.length_map, List.length_take]; omega
    refine fin ((ss.take n1).map (·.data.toList)) ⟨some a, c1, by rw [hln], by rw [hln]; exact hl, fun i hi => ⟨a, rfl, ?_, ?_⟩⟩ ?_
    · obtain ⟨b, off, spot⟩ := a
      rw [hln] at hi
      have hc0 := hcell 0 (by omega)
      have hspot : spot = none := by simpa [Addr.add] using World.cell?_spot hc0
      subst hspot
      exact hlt (.cell b off) (MemPlace.mem_row.2 ⟨0, by omega, by simp⟩)
    · rw [hcell i (by rw [hln] at hi; omega), getD_data ss n1 i hi]
    · simp only [Rows.uptoBulkAll, Rows.uptoBulk] at hb
      rw [bulk_strs, bulk_strs] at hb
      omega
theorem reads (os : Os) {H : Type} (enc : TypeId × Value → H) : ∃ places, DataW.whole enc Tryz.prog ((World.laidAll Tryz.prog os Rows.valueAskedUptoRow.laid).forCall (fun _ _ => 0) ⟨#[], #[.string .empty, .slice none 0 0, .int .i64 0], []⟩).memory Tryz.f3.params.toList Rows.valueAskedSpec.vars false (#[.string .empty, .slice none 0 0, .int .i64 0] : Array Value).toList 8 = some ([.lit (.string []), .nil, .lit (.int .i64 0)], [], places) :=
  ⟨[], by kernel_rfl⟩
set_option maxRecDepth 100000 in
theorem lifted (os : Os) (started : os.Started) (H : Type) (enc : TypeId × Value → H) (F : Stop.Interp) :
    ReturnsInHanded {} Tryz.checked os 3 .any ((Rows.OpenSpec.upto Rows.valueAskedSpec).preRow enc Tryz.prog Tryz.f3 Rows.valueAskedUptoRow.domain false Rows.valueAskedUptoRow.laid) (((Rows.OpenSpec.upto Rows.valueAskedSpec).at F).post enc Tryz.prog Tryz.f3 false true false false) := by
  obtain ⟨places, hx⟩ := reads os enc
  have hl : laidMetH Tryz.prog Rows.valueAskedUptoRow.laid ((World.laidAll Tryz.prog os Rows.valueAskedUptoRow.laid).forCall (fun _ _ => 0) ⟨#[], #[.string .empty, .slice none 0 0, .int .i64 0], []⟩).memory := by
    rw [MakeChecks.laidMetH_plain _ _ _ (by kernel_rfl)]
    exact laidMet_laidAll _ (by kernel_rfl) (by kernel_rfl)
  refine returnsInHanded_of_row (C := Tryz.checked) (s := (Rows.OpenSpec.upto Rows.valueAskedSpec)) own started (by kernel_rfl) Tryz.func3
    (witness_row_at (enc := enc) (C := Tryz.checked) false (World.laidAll Tryz.prog os Rows.valueAskedUptoRow.laid) #[.string .empty, .slice none 0 0, .int .i64 0] (World.laidAll_os _ _ _) (by kernel_rfl) (by kernel_rfl) (by kernel_rfl)
      (OpenSpec.preRow_of_cond 8 hx (by kernel_rfl) (fun k hk => by cases hk; kernel_rfl) (by kernel_rfl) hl)) ?_
  intro W base args ds gs before hval hW _ hcond _ _ hsh _
  exact contract H enc W base args ds gs before hval hW (hcond _ rfl) (cell_of_shapedOpen_int (t := 3) (zero := #[.int .i64 0]) hsh (of_decide_eq_true (by kernel_rfl)) (by kernel_rfl) rfl (by kernel_rfl) (by kernel_rfl) Tryz.underlying3)
theorem said : Rows.ValueAskedUptoSaid :=
  OpenClaim.holds_of_cond 3 Tryz.f3 rfl rfl rfl rfl rfl rfl rfl ⟨rfl, rfl, rfl, rfl, rfl⟩ rfl rfl rfl rfl rfl (by kernel_rfl) Tryz.func3 (by kernel_rfl)
    (of_decide_eq_true (by kernel_rfl)) (by unfold Func.isWrapper; first | (rw [if_pos (by decide +kernel)]; kernel_rfl) | (rw [if_neg (by decide +kernel)]; exact ⟨rfl, rfl⟩))
    (fun os started H enc _ F => by rw [OpenClaim.pre_eq_preRow]; exact lifted os started H enc F)
theorem plain (f : FuncId) (fn : Func) (hf : Tryz.pinned.checked.prog.funcNamed "threadbare/threadbarelaw05.ValueAsked" = some f) (hfn : Tryz.pinned.checked.prog.funcs[f]? = some fn) :
    true = Tryz.pinned.checked.prog.looks [] ∧ ∀ (j : Nat) t, fn.params[j]? = some t → Tryz.pinned.checked.prog.wantsStandIn t = false := by
  obtain rfl : f = 3 := Option.some.inj ((show Tryz.prog.funcNamed "threadbare/threadbarelaw05.ValueAsked" = some 3 by kernel_rfl).symm.trans hf) |>.symm
  obtain rfl : fn = Tryz.f3 := (Option.some.inj (Tryz.func3.symm.trans hfn)).symm
  refine ⟨by kernel_rfl, fun j t ht => ?_⟩
  rw [Tryz.params3] at ht
  have ht := Array.mem_of_getElem? ht
  simp at ht
  rcases ht with rfl | rfl | rfl
  · exact (show Tryz.prog.wantsStandIn 9 = false by kernel_rfl)
  · exact (show Tryz.prog.wantsStandIn 22 = false by kernel_rfl)
  · exact (show Tryz.prog.wantsStandIn 3 = false by kernel_rfl)
theorem card : Rows.ValueAskedUptoCardSaid :=
  Claim7.holds_tied_plain_at .later [] _ _ _ _ said (fun _ h => by cases h) (by kernel_rfl) (fun _ h => by cases h) valueAskedUpto_row_tie rfl ⟨rfl, rfl⟩ (by kernel_rfl) rfl plain (by kernel_rfl)
end Go.Proofs.YtabhkoklcjhlpaaGreatDoor.valueAsked
