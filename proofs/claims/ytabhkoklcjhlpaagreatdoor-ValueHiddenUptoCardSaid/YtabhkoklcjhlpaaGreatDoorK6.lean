/-
  Part K6 of the proofs of this seat: contracts of functions and plain facts, merged from 1 texts.
-/
import Derived.Test.YtabhkoklcjhlpaaGreatDoorK0
import Derived.Test.YtabhkoklcjhlpaaGreatDoorK1
import Derived.Test.YtabhkoklcjhlpaaGreatDoorK2
import Derived.Test.YtabhkoklcjhlpaaGreatDoorK3
import Derived.Test.YtabhkoklcjhlpaaGreatDoorK4
import Derived.Test.YtabhkoklcjhlpaaGreatDoorK5
/-
  The laws on values: light of one act, awake.
-/
namespace Go.Proofs.YtabhkoklcjhlpaaGreatDoor.Pz
open Go.RowKit
def sumS : List Str → Nat
  | [] => 0
  | a :: l => a.length + 1 + sumS l
theorem sumS_mem : ∀ (l : List Str) (s : Str), s ∈ l → s.length + 1 ≤ sumS l
  | [], _, h => by cases h
  | a :: l, s, h => by
    rw [sumS]
    rcases List.mem_cons.1 h with rfl | h
    · omega
    · have := sumS_mem l s h
      omega
theorem sumS_len : ∀ (l : List Str), l.length ≤ sumS l
  | [] => Nat.le_refl _
  | a :: l => by
    have := sumS_len l
    rw [sumS, List.length_cons]
    omega
theorem sumS_drop (l : List Str) (i : Nat) (h : i < l.length) : sumS (l.drop i) = l[i].length + 1 + sumS (l.drop (i + 1)) := by
  rw [List.drop_eq_getElem_cons h, sumS]
theorem sumS_quoted : ∀ (l : List Str), (quotedL l).length ≤ 2 * sumS l + l.length
  | [] => Nat.zero_le _
  | [s] => by
    have := quote_len s
    show (quote s).length ≤ 2 * (s.length + 1 + 0) + 1
    omega
  | s :: s' :: l => by
    have h1 := quote_len s
    have h2 := sumS_quoted (s' :: l)
    rw [quotedL_two, sumS]
    simp only [List.length_append, List.length_cons] at h2 ⊢
    omega
theorem joinOk_light {l : List Str} (h : sumS l ≤ 3000) : joinOk l := by
  have h1 := sumS_len l
  have h2 := sumS_quoted l
  exact ⟨by omega, fun s hs => by have := sumS_mem l s hs; omega, by omega⟩
theorem split12 : splitE [49, 32, 50] = ([[49], [50]], 0, 0) := by
  have e1 : elemE [49, 32, 50] = some ([49], [32, 50]) := by
    show some (bareE [49, 32, 50]) = _
    rw [bareE_cons, if_neg (by decide), if_neg (by decide), bareE_cons, if_pos (by decide)]
    rfl
  have e2 : elemE [50] = some ([50], []) := by
    show some (bareE [50]) = _
    rw [bareE_cons, if_neg (by decide), if_neg (by decide), bareE]
    rfl
  have e3 : listE [50] = .inr [[50]] := by
    rw [listE_cons (by decide), e2]
    dsimp only
    rw [if_pos (by decide), listE]
  have e4 : listE [49, 32, 50] = .inr [[49], [50]] := by
    rw [listE_cons (by decide), e1]
    dsimp only
    rw [if_pos (by decide), listE_white (by decide), e3]
  unfold splitE
  rw [e4]
  rfl
theorem can12 : canRes [49, 32, 50] = ([], 2) := by
  unfold canRes oneRes
  rw [if_neg (by decide)]
set_option maxRecDepth 100000 in
set_option maxHeartbeats 1000000 in
theorem awake_fn (w : World) (hml : ML w) : Calls Tryz.prog 9 #[] w fun e w' => e = .returned (.bool true) ∧ Below w.heap.size w w' := by
  have HN := hid (new_fn [49, 32, 50] w)
  have HM := hid hml
  clear hml
  go_enter Tryz.func9, Tryz.ntmps9
  go_wp2_with fail
  (with_reducible refine HN.out.mono ?_); rintro e w1 ⟨vb, sb, rfl, h1, h2, hv, hb⟩
  have hm1 := HM.out.below hb
  have hl := listV_fn hv hm1 (by decide) trivial
  have ha : listAns .text [49, 32, 50] = ([[49], [50]], 0, .list [[49], [50]]) := by
    show (if (splitE [49, 32, 50]).2.2 = 0 then ((splitE [49, 32, 50]).1, (0 : Int), Fc.list (splitE [49, 32, 50]).1) else ([], (splitE [49, 32, 50]).2.2, Fc.text)) = _
    rw [split12]
    rfl
  rw [ha] at hl
  have HL := hid hl
  have HB := hid hb
  have HM1 := hid hm1
  have HON := hid (hv.only hm1)
  clear hv hb hm1 hl ha
  go_wp2_with fail
  (with_reducible refine HL.out.mono ?_); rintro e w2 ⟨u, fv2, td2, rfl, hr2, ho2, hv2, ht2⟩
  obtain ⟨a, c, rfl⟩ := hr2.shape
  have htd : td2 = true := by simpa using ht2
  subst htd
  have hm2 : ML w2 := HM1.out.only ho2 (by simpa using HON.out)
  have hn := numV_fn hv2 hm2 (by decide)
  have ha : numAns (.list [[49], [50]]) [49, 32, 50] = ([], 2, .list [[49], [50]]) := by
    show (if (canRes [49, 32, 50]).2 = 0 then ((canRes [49, 32, 50]).1, (0 : Int), Fc.num (canRes [49, 32, 50]).1) else ([], (canRes [49, 32, 50]).2, Fc.list [[49], [50]])) = _
    rw [can12]
    rfl
  rw [ha] at hn
  have HNU := hid hn
  have HO2 := hid ho2
  have HM2 := hid hm2
  clear hr2 ho2 hv2 ht2 hm2 hn ha
  go_wp2_with fail
  (with_reducible refine HNU.out.mono ?_); rintro e w3 ⟨fv3, td3, rfl, ho3, hv3, ht3⟩
  have htd : td3 = true := by simpa using ht3
  subst htd
  have hm3 : ML w3 := HM2.out.only ho3 (by simpa using HON.out)
  have HT := hid (text_fn hv3 hm3)
  have HO3 := hid (HO2.out.trans ho3)
  clear ho3 hv3 ht3 hm3
  go_wp2_with fail
  (with_reducible refine HT.out.mono ?_); rintro e w4 ⟨rfl, ho4, hv4⟩
  have HF := hid (face_fn hv4)
  have HO4 := hid (HO3.out.trans (ho4.more (C := [vb, sb]) (by simp)))
  clear ho4 hv4
  go_wp2_with fail
  (with_reducible refine HF.out.mono ?_); rintro e w5 ⟨rfl, rfl⟩
  unfold Fc.n
  dsimp only
  go_wp2
  go_ret
  exact ⟨rfl, HB.out.trans (HO4.out.low HB.out.size (by simp; omega))⟩
set_option maxRecDepth 100000 in
set_option maxHeartbeats 1000000 in
theorem light1_fn {w : World} {g : Nat} {s : Str} {l : List Str} {lv : Value} (hg : w.heap[g]? = some (.cells #[.int .i64 0, .int .i64 0, .int .i64 0, .string ⟨s.toArray⟩, .string ⟨#[]⟩, lv] 25 (0, 0))) (hv : StrsAt w lv l) (hb : s.length + 1 + sumS l ≤ 10000000) :
    Calls Tryz.prog 8 #[.slice (some ⟨g, 0, none⟩) 1 1] w fun e w' => e = .returned (.bool (decide (s.length + 1 + sumS l ≤ 3000))) ∧ Below w.heap.size w w' := by
  have hv0 := hv
  obtain ⟨a, cap, rfl, hcap, hcell⟩ := hv
  obtain ⟨n, hn⟩ : ∃ n, n = l.length := ⟨_, rfl⟩
  rw [← hn] at hg hcap
  have c0 : w.cell? ⟨g, 0, none⟩ = some (.int .i64 0) := by rw [Lib.cell_of_heap hg]; rfl
  have c1 : w.cell? ⟨g, 1, none⟩ = some (.int .i64 0) := by rw [Lib.cell_of_heap hg]; rfl
  have c2 : w.cell? ⟨g, 2, none⟩ = some (.int .i64 0) := by rw [Lib.cell_of_heap hg]; rfl
  have c3 : w.cell? ⟨g, 3, none⟩ = some (.string ⟨s.toArray⟩) := by rw [Lib.cell_of_heap hg]; rfl
  have c4 : w.cell? ⟨g, 4, none⟩ = some (.string ⟨#[]⟩) := by rw [Lib.cell_of_heap hg]; rfl
  have c5 : w.cell? ⟨g, 5, none⟩ = some (.slice a n cap) := by rw [Lib.cell_of_heap hg]; rfl
  have hsz : (⟨s.toArray⟩ : ByteArray).size = s.length := Lib.size_mk _
  have hb1 := belowA w (.cells #[.int .i64 0, .int .i64 0, .int .i64 0, .string ⟨s.toArray⟩, .string ⟨#[]⟩, .slice a n cap] 25)
  have hnb : n ≤ 10000000 := by have := sumS_len l; omega
  obtain ⟨ans, hans⟩ : ∃ x, x = decide (s.length + 1 + sumS l ≤ 3000) := ⟨_, rfl⟩
  rw [← hans]
  have HANS := hid hans
  clear hans
  have HB1 := hid hb1
  have HV := hid hcell
  have HS := hid (sumS_drop l)
  have HN := hid hn
  clear hcell hv0 hg hb1 hn
  go_enter Tryz.func8, Tryz.ntmps8
  go_wp2
  refine wp_loop_rounds 2 ?_
  rw [rounds_succ]
  go_wp2
  obtain ⟨W, hW⟩ : ∃ W, W = w.alloc (.cells #[.int .i64 0, .int .i64 0, .int .i64 0, .string ⟨s.toArray⟩, .string ⟨#[]⟩, .slice a n cap] 25) := ⟨_, rfl⟩
  rw [← hW] at HB1 ⊢
  have h0 : s.length + 1 + sumS (l.drop 0) + 0 = s.length + 1 + sumS l := rfl
  have HH0 := hid h0
  clear hW h0 c0 c1 c2 c3 c4 c5
  go_loopg [3, 27] n (fun k mv iv wr => ∃ (m i : Nat), mv = .int .i64 (m : Nat) ∧ iv = .int .i64 (i : Nat) ∧ i ≤ n ∧ m + sumS (l.drop i) = s.length + 1 + sumS l ∧ wr = W ∧ k = n - i)
  case atStart => exact ⟨s.length + 1, 0, by go_num, rfl, Nat.zero_le _, rfl, rfl, by simp⟩
  case round =>
    obtain ⟨m, i, rfl, rfl, hi, hms, hw, rfl⟩ := hrel
    replace hw := hw.symm
    subst hw
    rcases Nat.lt_or_ge i n with hlt | hge
    · have hlt' : i < l.length := by rw [← HN.out]; exact hlt
      obtain ⟨p, rfl, hbb, hcw⟩ := HV.out i hlt'
      have hsd := HS.out i hlt'
      rw [hsd] at hms
      replace hcw : W.cell? (p.add i) = some (.string ⟨l[i].toArray⟩) := by rw [HB1.out.cell (p := p.add i) (by rw [add_block]; exact hbb)]; exact hcw
      generalize l[i] = x at hcw hms
      have hsz2 : (⟨x.toArray⟩ : ByteArray).size = x.length := Lib.size_mk _
      clear hsd
      by_cases h0 : i = 0
      · subst h0
        replace hcw : W.cell? p = some (.string ⟨x.toArray⟩) := hcw
        go_wp2
        go_roundg (n - (0 + 1))
        case measure => omega
        case rel => exact ⟨m + x.length + 1, 0 + 1, by go_num, by go_num, by omega, by omega, rfl, rfl⟩
      · go_wp2
        go_roundg (n - (i + 1))
        case measure => omega
        case rel => exact ⟨m + x.length + 1, i + 1, by go_num, by go_num, by omega, by omega, rfl, rfl⟩
    · obtain rfl : i = n := by omega
      have hm2 : m = s.length + 1 + sumS l := by
        have h1 : l.drop i = [] := List.drop_eq_nil_of_le (by rw [← HN.out]; exact Nat.le_refl _)
        rw [h1, sumS] at hms
        omega
      have HM2 := hid hm2
      have hmb : m ≤ 10000000 := by omega
      clear hms hm2
      go_wp2
      rw [rounds_succ]
      by_cases hbig : m ≤ 3000
      · have hbig' : (m : Int) ≤ 3000 := by omega
        obtain rfl : ans = true := by rw [HANS.out, ← HM2.out, decide_eq_true hbig]
        go_wp2
        go_ret
        exact ⟨rfl, HB1.out⟩
      · have hbig' : ¬ (m : Int) ≤ 3000 := by omega
        obtain rfl : ans = false := by rw [HANS.out, ← HM2.out, decide_eq_false hbig]
        go_wp2
        go_ret
        exact ⟨rfl, HB1.out⟩
end Go.Proofs.YtabhkoklcjhlpaaGreatDoor.Pz
