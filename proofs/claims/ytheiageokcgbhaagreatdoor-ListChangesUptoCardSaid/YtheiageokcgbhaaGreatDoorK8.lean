/-
  Part K8 of the proofs of this seat: contracts of functions and plain facts, merged from 8 texts.
-/
import Derived.Shelf.Spec.SlicesGrow
import Derived.Test.YtheiageokcgbhaaGreatDoorProg
import Derived.Ground.Names2Prog
import Derived.Shelf.Slices.ReverseS
import Derived.Shelf.Slices.Cells
import Derived.Shelf.LaysM
import Derived.Laws.IdiomCopy
import Derived.Deep.Upon
import Derived.Test.YtheiageokcgbhaaGreatDoorK0
import Derived.Test.YtheiageokcgbhaaGreatDoorK1
import Derived.Test.YtheiageokcgbhaaGreatDoorK2
import Derived.Test.YtheiageokcgbhaaGreatDoorK3
import Derived.Test.YtheiageokcgbhaaGreatDoorK4
import Derived.Test.YtheiageokcgbhaaGreatDoorK5
import Derived.Test.YtheiageokcgbhaaGreatDoorK6
import Derived.Test.YtheiageokcgbhaaGreatDoorK7
/-
  slices.Grow of the library, laid at this program in plain words.
-/
namespace Go.Proofs.YtheiageokcgbhaaGreatDoor.Pz
open Go.Shelf
def Tryz.growS_ren : Go.Shelf.Ren := ⟨fun | 4 => 129 | n => n, fun | 22 => 24 | 25 => 9 | n => n, fun n => n⟩
theorem Tryz.growS : Go.Proofs.Lays8.n4 Tryz.prog Tryz.growS_ren := {
  mixed := by kernel_rfl
  f4 := ⟨"slices.Grow[[]string,string]", of_decide_eq_true (by kernel_rfl), Tryz.func129.trans (congrArg some (by kernel_rfl))⟩
  t0 := Tryz.underlying0
  a0 := Tryz.isAgg0
  z0 := Tryz.sizeOf0
  v0 := Tryz.zeroValue0
  t3 := Tryz.underlying3
  a3 := Tryz.isAgg3
  z3 := Tryz.sizeOf3
  v3 := Tryz.zeroValue3
  t4 := Tryz.underlying4
  a4 := Tryz.isAgg4
  z4 := Tryz.sizeOf4
  v4 := Tryz.zeroValue4
  t9 := Tryz.underlying9
  a9 := Tryz.isAgg9
  z9 := Tryz.sizeOf9
  v9 := Tryz.zeroValue9
  t20 := Tryz.underlying20
  a20 := Tryz.isAgg20
  z20 := Tryz.sizeOf20
  v20 := Tryz.zeroValue20
  t22 := Tryz.underlying24
  a22 := Tryz.isAgg24
  z22 := Tryz.sizeOf24
  v22 := Tryz.zeroValue24 }
end Go.Proofs.YtheiageokcgbhaaGreatDoor.Pz
/-
  Rows put together: slices.Concat of the program, joined of the reference.
-/
namespace Go.Proofs.YtheiageokcgbhaaGreatDoor.Pz
open Go.RowKit
/-- some rows lie side by side at block g -/
def PartsAt (w : World) (g : Nat) (L : List (Value × List Str)) : Prop :=
  g < w.heap.size ∧ ∀ i (h : i < L.length), w.cell? ⟨g, i, none⟩ = some L[i].1 ∧ StrsAt w L[i].1 L[i].2 ∧ ∀ n c, L[i].1 = .slice none n c → c = 0
theorem PartsAt.below {w w' : World} {g : Nat} {L : List (Value × List Str)} (h : PartsAt w g L) (hb : Below w.heap.size w w') : PartsAt w' g L :=
  ⟨by have := hb.size; have := h.1; omega, fun i hi => ⟨by rw [hb.cell (p := ⟨g, i, none⟩) h.1]; exact (h.2 i hi).1, (h.2 i hi).2.1.below hb, (h.2 i hi).2.2⟩⟩
def flatL (L : List (Value × List Str)) : List Str := (L.map (·.2)).flatten
theorem flatL_take {L : List (Value × List Str)} {i : Nat} (h : i < L.length) : flatL (L.take (i + 1)) = flatL (L.take i) ++ L[i].2 := by
  unfold flatL
  rw [List.take_succ_eq_append_getElem h, List.map_append, List.flatten_append]
  simp only [List.map_cons, List.map_nil, List.flatten_cons, List.flatten_nil, List.append_nil]
theorem flatL_le (L : List (Value × List Str)) : ∀ i, (flatL (L.take i)).length ≤ (flatL L).length := by
  intro i
  have h : flatL L = flatL (L.take i) ++ flatL (L.drop i) := by
    unfold flatL
    rw [← List.flatten_append, ← List.map_append, List.take_append_drop]
  rw [h, List.length_append]
  omega
/-- an empty row with room -/
theorem grow_fn (n : Nat) (hn : n ≤ 1000000) (B : Nat) (w : World) (hB : B ≤ w.heap.size) : Calls Tryz.prog 129 #[.slice none 0 0, .int .i64 (n : Nat)] w fun e w' => Below w.heap.size w w' ∧ ∃ v, e = .returned v ∧ RowS B w' v [] := by
  by_cases h0 : n = 0
  · subst h0
    exact (Any8.slices_Grow_room Tryz.growS none 0 0 0 w (by omega) (by omega) (by omega) (by omega)).mono fun e w' ⟨h1, h2⟩ => ⟨by rw [h2]; exact Below.refl _ _, _, h1, RowS.nil _ _⟩
  · obtain ⟨i0, hi, hz0, hz1, hz2⟩ := info_parts Tryz.infoS
    refine (Any8.slices_Grow_grow Tryz.growS i0 (.string ⟨#[]⟩) hi hz0 (by rw [hz1]; omega) none 0 0 n [] w (by omega) (by omega) (by rw [hz2]; omega) (by omega) (by simp) (fun _ => rfl) (fun a h => by cases h)).mono ?_
    rintro e w' ⟨h1, h2⟩
    have hge := grownCap_ge w (0 + n) 0 9
    have hle := grownCap_le_maxLen w (0 + n) 0 9 (by unfold maxLen; omega)
    refine ⟨by rw [h2]; exact (Below.refl _ _).drew.alloc (Nat.le_refl _) _, _, h1, ?_⟩
    refine ⟨by simp [strCells], .inr ⟨w.heap.size, _, _, rfl, hB, by rw [h2]; exact heap_alloc_new w.drew _, Nat.zero_le _, hle, ?_, by simp [strCells]⟩⟩
    rw [Array.size_append, Array.size_append, size_zeroCells, size_zeroCells]
    simp only [List.size_toArray, List.length_nil, Value.cells]
    show 0 + (0 + n - 0) * 1 + (grownCap w (0 + n) 0 9 - (0 + n)) * 1 = grownCap w (0 + n) 0 9 * 1
    omega
set_option maxRecDepth 100000 in
set_option maxHeartbeats 2000000 in
theorem concatS_fn (L : List (Value × List Str)) (g : Nat) (w : World) (hL : PartsAt w g L) (hlen : L.length ≤ 1000) (htot : (flatL L).length ≤ 1000000) :
    Calls Tryz.prog 86 #[.slice (some ⟨g, 0, none⟩) L.length L.length] w fun e w' => Below w.heap.size w w' ∧ ∃ v, e = .returned v ∧ StrsAt w' v (flatL L) := by
  have HP := hid hL
  have HFT := hid (fun i (h : i < L.length) => flatL_take h)
  have HFL := hid (flatL_le L)
  have HALL := hid (show L.take L.length = L from List.take_length)
  obtain ⟨n, hn⟩ : ∃ n, n = L.length := ⟨_, rfl⟩
  have HN := hid hn
  rw [← hn] at hlen HALL ⊢
  clear hn hL
  go_enter Tryz.func86, Tryz.ntmps86
  go_wp2_with fail
  go_loopg [3, 11] n (fun k sv iv wr => ∃ i : Nat, sv = .int .i64 ((flatL (L.take i)).length : Nat) ∧ iv = .int .i64 (i : Nat) ∧ i ≤ n ∧ wr = w ∧ k = n - i)
  case atStart => exact ⟨0, by rfl, rfl, Nat.zero_le _, rfl, by simp⟩
  case round =>
    obtain ⟨i, rfl, rfl, hi, hw, rfl⟩ := hrel
    replace hw := hw.symm
    subst hw
    rcases Nat.lt_or_ge i n with hlt | hge
    · have hlt' : i < L.length := by rw [← HN.out]; exact hlt
      obtain ⟨hc, hs, _⟩ := HP.out.2 i hlt'
      have hft := HFT.out i hlt'
      have hfl := HFL.out (i + 1)
      obtain ⟨a, c, he, _⟩ := hs
      rw [he] at hc
      have hnx : (flatL (L.take (i + 1))).length = (flatL (L.take i)).length + L[i].2.length := by rw [hft, List.length_append]
      generalize L[i].2.length = m at hc hnx
      generalize (flatL (L.take i)).length = t at hnx
      generalize htt : (flatL (L.take (i + 1))).length = t2 at hnx hfl
      have HTT := hid htt
      have hz0 : i = 0 → w.cell? ⟨g, 0, none⟩ = some (.slice a m c) := by
        intro h0
        subst h0
        exact hc
      have hnn : ¬ ((t : Int) + (m : Int) < 0) := by omega
      have htb : t + m ≤ 1000000 := by omega
      have HNX := hid hnx
      clear hft he htt hnx
      by_cases h0 : i = 0
      · subst h0
        replace hc := hz0 rfl
        clear hz0
        go_wp2
        go_roundg (n - (0 + 1))
        case measure => omega
        case rel => exact ⟨0 + 1, by rw [HTT.out, HNX.out]; go_num, by go_num, by omega, rfl, rfl⟩
      · clear hz0
        go_wp2
        go_roundg (n - (i + 1))
        case measure => omega
        case rel => exact ⟨i + 1, by rw [HTT.out, HNX.out]; go_num, by go_num, by omega, rfl, rfl⟩
    · obtain rfl : i = n := by omega
      rw [HALL.out]
      have HG := hid (grow_fn (flatL L).length (by omega) w.heap.size w (Nat.le_refl _))
      go_wp2_with fail
      (with_reducible refine HG.out.mono ?_); rintro e w1 ⟨hb1, v1, rfl, hr1⟩
      have HB1 := hid hb1
      have HR1 := hid hr1
      clear hb1 hr1
      go_wp2_with fail
      go_loopg [6, 27] i (fun k ov iv wr => ∃ j : Nat, iv = .int .i64 (j : Nat) ∧ j ≤ i ∧ RowS w.heap.size wr ov (flatL (L.take j)) ∧ Below w.heap.size w wr ∧ k = i - j)
      case atStart => exact ⟨0, rfl, Nat.zero_le _, by rw [List.take_zero]; exact HR1.out, HB1.out, by simp⟩
      case round =>
        obtain ⟨j, rfl, hj, hrow, hbl, rfl⟩ := hrel
        have hsw := hbl.size
        rcases Nat.lt_or_ge j i with hlt | hge
        · have hlt' : j < L.length := by rw [← HN.out]; exact hlt
          obtain ⟨hc, hs, hnil⟩ := (HP.out.below hbl).2 j hlt'
          have hft := HFT.out j hlt'
          have hfl := HFL.out (j + 1)
          generalize L[j] = vl at hc hs hnil hft
          obtain ⟨v, l⟩ := vl
          dsimp only at hc hs hnil hft
          have hz0 : j = 0 → wr.cell? ⟨g, 0, none⟩ = some v := by
            intro h0
            subst h0
            exact hc
          have hln : (flatL (L.take j)).length + l.length ≤ 10000000 := by
            have := congrArg List.length hft
            rw [List.length_append] at this
            omega
          have HS := hid hs
          obtain ⟨av, cv, rfl, _⟩ := hs
          have HFT2 := hid hft
          have HNIL := hid hnil
          have HROW := hid hrow
          obtain ⟨ao, co, rfl⟩ := hrow.shape
          clear hrow hft hnil
          by_cases h0 : j = 0
          · subst h0
            replace hc := hz0 rfl
            clear hz0
            go_wp2_with (at_builtin; go_loud (refine app_any (w := wr) rfl (.tmp 31) (.tmp 32) rfl w.heap.size _ _ _ l rfl HROW.out rfl HS.out HNIL.out hsw hln ?_))
            intro v2 w2 hr2 hg2 hv2
            have HB2 := hid (hbl.grown hg2 hsw fun k hk => (HROW.out.lt k hk).2)
            have HR2 := hid hr2
            clear hr2 hg2 hv2
            go_wp2
            go_roundg (i - (0 + 1))
            case measure => omega
            case rel => exact ⟨0 + 1, by go_num, by omega, by rw [HFT2.out]; exact HR2.out, HB2.out, rfl⟩
          · clear hz0
            go_wp2_with (at_builtin; go_loud (refine app_any (w := wr) rfl (.tmp 31) (.tmp 32) rfl w.heap.size _ _ _ l rfl HROW.out rfl HS.out HNIL.out hsw hln ?_))
            intro v2 w2 hr2 hg2 hv2
            have HB2 := hid (hbl.grown hg2 hsw fun k hk => (HROW.out.lt k hk).2)
            have HR2 := hid hr2
            clear hr2 hg2 hv2
            go_wp2
            go_roundg (i - (j + 1))
            case measure => omega
            case rel => exact ⟨j + 1, by go_num, by omega, by rw [HFT2.out]; exact HR2.out, HB2.out, rfl⟩
        · obtain rfl : j = i := by omega
          rw [HALL.out] at hrow
          have HST := hid hrow.strs
          clear hrow
          go_wp2
          go_ret
          exact ⟨hbl, _, rfl, HST.out⟩
set_option maxRecDepth 100000 in
set_option maxHeartbeats 2000000 in
theorem joined_fn (L : List (Value × List Str)) (g : Nat) (w : World) (hL : PartsAt w g L) (hlen : L.length ≤ 1000) (htot : (flatL L).length ≤ 1000000) (hel : ∀ x ∈ flatL L, x.length ≤ 1000000) :
    Calls Tryz.prog 87 #[.slice (some ⟨g, 0, none⟩) L.length L.length] w fun e w' => e = .returned (.tuple #[.string ⟨(joinRes (flatL L)).1.toArray⟩, .int .i64 (joinRes (flatL L)).2]) ∧ Below w.heap.size w w' := by
  have HP := hid hL
  have HFT := hid (fun i (h : i < L.length) => flatL_take h)
  have HFL := hid (flatL_le L)
  have HALL := hid (show L.take L.length = L from List.take_length)
  have HJ := hid (fun v u (h : StrsAt u v (flatL L)) => joinRA_fn (flatL L) v u h hel (by omega))
  generalize joinRes (flatL L) = jr at HJ ⊢
  obtain ⟨j1, j2⟩ := jr
  dsimp only at HJ ⊢
  obtain ⟨n, hn⟩ : ∃ n, n = L.length := ⟨_, rfl⟩
  have HN := hid hn
  rw [← hn] at hlen HALL ⊢
  clear hn hL hel
  go_enter Tryz.func87, Tryz.ntmps87
  go_wp2_with fail
  go_loopg [4, 9] n (fun k ov iv wr => ∃ j : Nat, iv = .int .i64 (j : Nat) ∧ j ≤ n ∧ RowS w.heap.size wr ov (flatL (L.take j)) ∧ Below w.heap.size w wr ∧ k = n - j)
  case atStart => exact ⟨0, rfl, Nat.zero_le _, by rw [List.take_zero]; exact RowS.nil _ _, Below.refl _ _, by simp⟩
  case round =>
    obtain ⟨j, rfl, hj, hrow, hbl, rfl⟩ := hrel
    have hsw := hbl.size
    rcases Nat.lt_or_ge j n with hlt | hge
    · have hlt' : j < L.length := by rw [← HN.out]; exact hlt
      obtain ⟨hc, hs, hnil⟩ := (HP.out.below hbl).2 j hlt'
      have hft := HFT.out j hlt'
      have hfl := HFL.out (j + 1)
      generalize L[j] = vl at hc hs hnil hft
      obtain ⟨v, l⟩ := vl
      dsimp only at hc hs hnil hft
      have hz0 : j = 0 → wr.cell? ⟨g, 0, none⟩ = some v := by
        intro h0
        subst h0
        exact hc
      have hln : (flatL (L.take j)).length + l.length ≤ 10000000 := by
        have := congrArg List.length hft
        rw [List.length_append] at this
        omega
      have HS := hid hs
      obtain ⟨av, cv, rfl, _⟩ := hs
      have HFT2 := hid hft
      have HNIL := hid hnil
      have HROW := hid hrow
      obtain ⟨ao, co, rfl⟩ := hrow.shape
      clear hrow hft hnil
      by_cases h0 : j = 0
      · subst h0
        replace hc := hz0 rfl
        clear hz0
        go_wp2_with (at_builtin; go_loud (refine app_any (w := wr) rfl (.tmp 13) (.tmp 14) rfl w.heap.size _ _ _ l rfl HROW.out rfl HS.out HNIL.out hsw hln ?_))
        intro v2 w2 hr2 hg2 hv2
        have HB2 := hid (hbl.grown hg2 hsw fun k hk => (HROW.out.lt k hk).2)
        have HR2 := hid hr2
        clear hr2 hg2 hv2
        go_wp2
        go_roundg (n - (0 + 1))
        case measure => omega
        case rel => exact ⟨0 + 1, by go_num, by omega, by rw [HFT2.out]; exact HR2.out, HB2.out, rfl⟩
      · clear hz0
        go_wp2_with (at_builtin; go_loud (refine app_any (w := wr) rfl (.tmp 13) (.tmp 14) rfl w.heap.size _ _ _ l rfl HROW.out rfl HS.out HNIL.out hsw hln ?_))
        intro v2 w2 hr2 hg2 hv2
        have HB2 := hid (hbl.grown hg2 hsw fun k hk => (HROW.out.lt k hk).2)
        have HR2 := hid hr2
        clear hr2 hg2 hv2
        go_wp2
        go_roundg (n - (j + 1))
        case measure => omega
        case rel => exact ⟨j + 1, by go_num, by omega, by rw [HFT2.out]; exact HR2.out, HB2.out, rfl⟩
    · obtain rfl : j = n := by omega
      rw [HALL.out] at hrow
      have hj := HJ.out _ wr hrow.strs
      obtain ⟨ao, co, rfl⟩ := hrow.shape
      have HJ2 := hid hj
      clear hrow hj
      go_wp2_with fail
      (with_reducible refine HJ2.out.mono ?_); rintro e w1 ⟨rfl, hb1⟩
      have HB1 := hid (hbl.trans (hb1.mono hsw))
      clear hb1
      go_wp2
      go_ret2
      exact ⟨rfl, HB1.out⟩
end Go.Proofs.YtheiageokcgbhaaGreatDoor.Pz
/-
  The closures of list.Replace and list.Insert.
-/
namespace Go.Proofs.YtheiageokcgbhaaGreatDoor.Pz
open Go.RowKit
theorem strs_take {w : World} {g n c : Nat} {l : List Str} (h : StrsAt w (.slice (some ⟨g, 0, none⟩) n c) l) {i : Nat} (hi : i ≤ n) : StrsAt w (.slice (some ⟨g, 0, none⟩) i c) (l.take i) := by
  have := strs_cut h (Nat.zero_le i) hi
  simpa using this
theorem strs_drop {w : World} {g n c : Nat} {l : List Str} (h : StrsAt w (.slice (some ⟨g, 0, none⟩) n c) l) {i : Nat} (hi : i ≤ n) : StrsAt w (.slice (if c = i then some ⟨g, 0, none⟩ else some ⟨g, i, none⟩) (n - i) (c - i)) (l.drop i) := by
  have hn : n = l.length ∧ n ≤ c := by
    obtain ⟨a, cap, e, hc, _⟩ := h
    simp only [Value.slice.injEq] at e
    omega
  by_cases hc : c = i
  · subst hc
    have h0 : n - c = 0 := by omega
    rw [if_pos rfl, h0, List.drop_eq_nil_of_le (by omega)]
    exact strs_none
  · rw [if_neg hc]
    have := strs_cut h hi (Nat.le_refl n)
    rw [hn.1, List.take_length, ← hn.1] at this
    exact this
theorem parts_three (u : World) (v0 v1 v2 : Value) (l0 l1 l2 : List Str) (h0 : StrsAt u v0 l0) (h1 : StrsAt u v1 l1) (h2 : StrsAt u v2 l2) (n0 : ∀ n c, v0 = .slice none n c → c = 0) (n1 : ∀ n c, v1 = .slice none n c → c = 0) (n2 : ∀ n c, v2 = .slice none n c → c = 0) :
    PartsAt (u.alloc (.cells #[v0, v1, v2] 24)) u.heap.size [(v0, l0), (v1, l1), (v2, l2)] := by
  have hg : (u.alloc (.cells #[v0, v1, v2] 24)).heap[u.heap.size]? = some (.cells #[v0, v1, v2] 24 (0, 0)) := heap_alloc_new _ _
  have hb := belowA u (.cells #[v0, v1, v2] 24)
  refine ⟨(Array.getElem?_eq_some_iff.1 hg).1, fun i hi => ?_⟩
  rw [Lib.cell_of_heap hg]
  match i, hi with
  | 0, _ => exact ⟨rfl, h0.below hb, n0⟩
  | 1, _ => exact ⟨rfl, h1.below hb, n1⟩
  | 2, _ => exact ⟨rfl, h2.below hb, n2⟩
theorem flat_three (v0 v1 v2 : Value) (l0 l1 l2 : List Str) : flatL [(v0, l0), (v1, l1), (v2, l2)] = l0 ++ (l1 ++ l2) := by simp [flatL]
theorem parts3_concat (u : World) (v0 v1 v2 : Value) (l0 l1 l2 : List Str) (h0 : StrsAt u v0 l0) (h1 : StrsAt u v1 l1) (h2 : StrsAt u v2 l2) (n0 : ∀ n c, v0 = .slice none n c → c = 0) (n1 : ∀ n c, v1 = .slice none n c → c = 0) (n2 : ∀ n c, v2 = .slice none n c → c = 0) (hb : l0.length + (l1.length + l2.length) ≤ 1000000) :
    Calls Tryz.prog 86 #[.slice (some ⟨u.heap.size, 0, none⟩) 3 3] (u.alloc (.cells #[v0, v1, v2] 24)) fun e w' => Below u.heap.size u w' ∧ ∃ v, e = .returned v ∧ StrsAt w' v (l0 ++ (l1 ++ l2)) := by
  have h := concatS_fn [(v0, l0), (v1, l1), (v2, l2)] u.heap.size _ (parts_three u v0 v1 v2 l0 l1 l2 h0 h1 h2 n0 n1 n2) (by simp) (by rw [flat_three]; simpa using hb)
  rw [flat_three] at h
  have ha := belowA u (.cells #[v0, v1, v2] 24)
  exact h.mono fun e w' ⟨k1, k2⟩ => ⟨ha.trans (k1.mono ha.size), k2⟩
theorem parts3_joined (u : World) (v0 v1 v2 : Value) (l0 l1 l2 : List Str) (h0 : StrsAt u v0 l0) (h1 : StrsAt u v1 l1) (h2 : StrsAt u v2 l2) (n0 : ∀ n c, v0 = .slice none n c → c = 0) (n1 : ∀ n c, v1 = .slice none n c → c = 0) (n2 : ∀ n c, v2 = .slice none n c → c = 0) (hb : l0.length + (l1.length + l2.length) ≤ 1000000) (hx : ∀ x ∈ l0 ++ (l1 ++ l2), x.length ≤ 1000000) :
    Calls Tryz.prog 87 #[.slice (some ⟨u.heap.size, 0, none⟩) 3 3] (u.alloc (.cells #[v0, v1, v2] 24)) fun e w' => e = .returned (.tuple #[.string ⟨(joinRes (l0 ++ (l1 ++ l2))).1.toArray⟩, .int .i64 (joinRes (l0 ++ (l1 ++ l2))).2]) ∧ Below u.heap.size u w' := by
  have h := joined_fn [(v0, l0), (v1, l1), (v2, l2)] u.heap.size _ (parts_three u v0 v1 v2 l0 l1 l2 h0 h1 h2 n0 n1 n2) (by simp) (by rw [flat_three]; simpa using hb) (by rw [flat_three]; exact hx)
  rw [flat_three] at h
  have ha := belowA u (.cells #[v0, v1, v2] 24)
  exact h.mono fun e w' ⟨k1, k2⟩ => ⟨k1, ha.trans (k2.mono ha.size)⟩
theorem row_cap {B : Nat} {w : World} {v : Value} {l : List Str} (hr : RowS B w v l) : (∃ g c, v = .slice (some ⟨g, 0, none⟩) l.length c ∧ l.length ≤ c) ∨ (v = .slice none 0 0 ∧ l = []) := by
  rcases hr.2 with ⟨e, h0⟩ | ⟨g, cap, cur, e, _, _, hc, _⟩
  · exact .inr ⟨e, List.eq_nil_of_length_eq_zero h0⟩
  · exact .inl ⟨_, _, e, hc⟩
theorem nil_if {P : Prop} [Decidable P] {x y : Addr} {n c : Nat} : ∀ n' c', (Value.slice (if P then some x else some y) n c) = .slice none n' c' → c' = 0 := by
  intro n' c' e
  split at e <;> simp at e
theorem nil_some {x : Addr} {n c : Nat} : ∀ n' c', (Value.slice (some x) n c) = .slice none n' c' → c' = 0 := by
  intro n' c' e
  simp at e
theorem nil_none : ∀ n' c', (Value.slice none 0 0) = .slice none n' c' → c' = 0 := by
  intro n' c' e
  simp only [Value.slice.injEq, true_and] at e
  exact e.2.symm
/-- the cuts of a row, and another one between them -/
def midL (l wl : List Str) (i j : Nat) : List Str := l.take i ++ (wl ++ l.drop j)
theorem midL_len (l wl : List Str) (i j : Nat) : (midL l wl i j).length ≤ l.length + (wl.length + l.length) := by
  unfold midL
  simp only [List.length_append, List.length_take, List.length_drop]
  omega
set_option maxRecDepth 100000 in
set_option maxHeartbeats 2000000 in
theorem cut_replace {b1 b2 b3 : Nat} (B : Nat) (f t : Str) (l wl : List Str) (v wv : Value) (w : World) (hr : RowS B w v l) (hBw : B ≤ w.heap.size) (hl : l.length ≤ 10000) (hf : f.length ≤ 1000000) (ht : t.length ≤ 1000000) (hwl : wl.length ≤ 100000)
    (h1 : w.cell? ⟨b1, 0, none⟩ = some (.string ⟨f.toArray⟩)) (h2 : w.cell? ⟨b2, 0, none⟩ = some (.string ⟨t.toArray⟩)) (h3 : w.cell? ⟨b3, 0, none⟩ = some wv) (hwv : StrsAt w wv wl) (hnil : ∀ n c, wv = .slice none n c → c = 0) :
    Calls Tryz.prog 85 #[v, .pointer (some ⟨b1, 0, none⟩), .pointer (some ⟨b2, 0, none⟩), .pointer (some ⟨b3, 0, none⟩)] w fun e w' => Below B w w' ∧ ∃ v', e = .returned (.tuple #[v', .int .i64 (if okE l.length f t then 0 else 2)]) ∧ ((if okE l.length f t then (0 : Int) else 2) = 0 → StrsAt w' v' (midL l wl (loE l.length f) (hiE l.length f t))) := by
  have hmx : Tryz.prog.follows .mixedOrders = true := by kernel_rfl
  have hwv0 := hwv
  obtain ⟨aw, cw, rfl, _, _⟩ := hwv
  replace hwv := hwv0
  clear hwv0
  have hcap := row_cap hr
  have HB := hid (between_fn l.length f t (by omega) hf ht w)
  have hlo := lo_hi l.length f t
  have hhi := hiE_le l.length f t
  have hst := hr.strs
  unfold midL
  generalize loE l.length f = lo at HB hlo ⊢
  generalize hiE l.length f t = hi at HB hlo hhi ⊢
  have hBD : Below B w w.drew := (Below.refl _ _).drew
  have HBD := hid (show Below w.heap.size w w.drew from (Below.refl _ _).drew)
  have HBX := hid (show w.drew.cell? ⟨b3, 0, none⟩ = some (.slice aw wl.length cw) from h3)
  have hbw : B ≤ w.drew.heap.size := hBw
  rcases hcap with ⟨g, c, rfl, hc⟩ | ⟨rfl, rfl⟩
  · have HCC := hid (fun (u : World) (h : Below w.heap.size w u) => parts3_concat u _ (.slice aw wl.length cw) _ (l.take lo) wl (l.drop hi) (strs_take (hst.below h) (Nat.le_trans hlo hhi)) (hwv.below h) (strs_drop (hst.below h) hhi) nil_some hnil nil_if (by rw [List.length_take, List.length_drop]; omega))
    generalize (l.take lo ++ (wl ++ l.drop hi)) = lr at HCC ⊢
    obtain ⟨n, hn⟩ : ∃ n, n = l.length := ⟨_, rfl⟩
    rw [← hn] at HB HCC hc hhi ⊢
    clear hr hl hst hwv hn hnil
    cases hok : okE n f t with
    | false =>
      rw [hok] at HB
      clear hok
      go_enter Tryz.func85, Tryz.ntmps85
      go_wp2_with fail
      (with_reducible refine HB.out.mono ?_); rintro e w1 ⟨rfl, hw⟩; subst w1
      go_wp2
      go_ret2
      first | exact ⟨Below.refl _ _, _, rfl⟩ | exact ⟨Below.refl _ _, _, rfl, fun h => absurd h (by decide)⟩
    | true =>
      rw [hok] at HB
      clear hok
      go_enter Tryz.func85, Tryz.ntmps85
      go_wp2_with fail
      (with_reducible refine HB.out.mono ?_); rintro e w1 ⟨rfl, hw⟩; subst w1
      have S0 : Hid ((fun u : World => u.cell? ⟨b3, 0, none⟩ = some (.slice aw wl.length cw)) w.drew) := hid HBX.out
      go_wp2
      refine U_begin (late := fun k => decide (7 ≤ k)) (S := fun u : World => u.cell? ⟨b3, 0, none⟩ = some (.slice aw wl.length cw)) hmx ?_
      refine U_take3 8 (i := 0) (v := .slice (some ⟨g, 0, none⟩) n c) rfl (by kernel_rfl) (by kernel_rfl) (by kernel_rfl) (by kernel_rfl) (by kernel_rfl) (fun _ _ _ h => h) (.inl ⟨rfl, fun u hu => (by go_simp)⟩) S0.out ?_
      refine U_take3 8 (i := 1) (v := .int .i64 (lo : Nat)) rfl (by kernel_rfl) (by kernel_rfl) (by kernel_rfl) (by kernel_rfl) (by kernel_rfl) (fun _ _ _ h => h) (.inl ⟨rfl, fun u hu => (by go_simp)⟩) S0.out ?_
      refine U_take3 8 (i := 2) (v := .slice (some ⟨g, 0, none⟩) lo c) rfl (by kernel_rfl) (by kernel_rfl) (by kernel_rfl) (by kernel_rfl) (by kernel_rfl) (fun _ _ _ h => h) (.inl ⟨rfl, fun u hu => (by go_simp; try omega)⟩) S0.out ?_
      refine U_take3 8 (i := 3) (v := .slice aw wl.length cw) rfl (by kernel_rfl) (by kernel_rfl) (by kernel_rfl) (by kernel_rfl) (by kernel_rfl) (fun _ _ _ h => h) (.inl ⟨rfl, fun u hu => (by have h1 := hu; go_simp)⟩) S0.out ?_
      refine U_take3 8 (i := 4) (v := .slice (some ⟨g, 0, none⟩) n c) rfl (by kernel_rfl) (by kernel_rfl) (by kernel_rfl) (by kernel_rfl) (by kernel_rfl) (fun _ _ _ h => h) (.inl ⟨rfl, fun u hu => (by go_simp)⟩) S0.out ?_
      refine U_take3 8 (i := 5) (v := .int .i64 (hi : Nat)) rfl (by kernel_rfl) (by kernel_rfl) (by kernel_rfl) (by kernel_rfl) (by kernel_rfl) (fun _ _ _ h => h) (.inl ⟨rfl, fun u hu => (by go_simp)⟩) S0.out ?_
      refine U_take3 8 (i := 6) (v := .slice (if c = hi then some ⟨g, 0, none⟩ else some ⟨g, hi, none⟩) (n - hi) (c - hi)) rfl (by kernel_rfl) (by kernel_rfl) (by kernel_rfl) (by kernel_rfl) (by kernel_rfl) (fun _ _ _ h => h) (.inl ⟨rfl, fun u hu => (by go_simp; try omega)⟩) S0.out ?_
      refine U_step (j := 7) (by kernel_rfl) rfl (fun K hK => ?_)
      go_simp
      refine hK.out _ _ (.inl rfl) ?_
      clear hK K
      refine U_step (j := 8) (by kernel_rfl) rfl (fun K hK => ?_)
      go_simp
      refine (HCC.out w.drew HBD.out).mono ?_
      rintro e w3 ⟨hb3, v3, rfl, hs3⟩
      have HB3 := hid (hBD.trans (hb3.mono hbw))
      have HS3 := hid hs3
      refine hK.out _ _ (.inl rfl) ?_
      clear hK K hb3 hs3
      refine U_step (j := 9) (by kernel_rfl) rfl (fun K hK => ?_)
      go_simp
      refine hK.out _ _ (.inl rfl) ?_
      clear hK K
      refine U_step (j := 10) (by kernel_rfl) rfl (fun K hK => ?_)
      go_simp
      refine hK.out _ _ (.inl rfl) ?_
      clear hK K
      refine U_done (by kernel_rfl) ?_ _
      clear S0
      go_wp2
      all_goals go_ret2
      all_goals first | exact ⟨HB3.out, _, rfl, HS3.out⟩ | exact ⟨HB3.out, _, rfl, fun _ => HS3.out⟩
  · have hhi0 : hi = 0 := by simpa using hhi
    subst hhi0
    have hlo0 : lo = 0 := by omega
    subst hlo0
    have HCC := hid (fun (u : World) (h : Below w.heap.size w u) => parts3_concat u (.slice none 0 0) (.slice aw wl.length cw) (.slice none 0 0) [] wl [] strs_none (hwv.below h) strs_none nil_none hnil nil_none (by simp; omega))
    show Calls Tryz.prog 85 #[.slice none 0 0, .pointer (some ⟨b1, 0, none⟩), .pointer (some ⟨b2, 0, none⟩), .pointer (some ⟨b3, 0, none⟩)] w fun e w' => Below B w w' ∧ ∃ v', e = .returned (.tuple #[v', .int .i64 (if okE 0 f t then 0 else 2)]) ∧ ((if okE 0 f t then (0 : Int) else 2) = 0 → StrsAt w' v' ([] ++ (wl ++ [])))
    have HB0 := HB.out
    simp only [Int.natCast_zero, List.length_nil] at HB0
    generalize ([] ++ (wl ++ [])) = lr at HCC ⊢
    clear hr hl hst hwv hnil HB
    cases hok : okE 0 f t with
    | false =>
      rw [hok] at HB0
      have HB := hid HB0
      clear hok HB0
      go_enter Tryz.func85, Tryz.ntmps85
      go_wp2_with fail
      (with_reducible refine HB.out.mono ?_); rintro e w1 ⟨rfl, hw⟩; subst w1
      go_wp2
      go_ret2
      first | exact ⟨Below.refl _ _, _, rfl⟩ | exact ⟨Below.refl _ _, _, rfl, fun h => absurd h (by decide)⟩
    | true =>
      rw [hok] at HB0
      have HB := hid HB0
      clear hok HB0
      go_enter Tryz.func85, Tryz.ntmps85
      go_wp2_with fail
      (with_reducible refine HB.out.mono ?_); rintro e w1 ⟨rfl, hw⟩; subst w1
      have S0 : Hid ((fun u : World => u.cell? ⟨b3, 0, none⟩ = some (.slice aw wl.length cw)) w.drew) := hid HBX.out
      go_wp2
      refine U_begin (late := fun k => decide (7 ≤ k)) (S := fun u : World => u.cell? ⟨b3, 0, none⟩ = some (.slice aw wl.length cw)) hmx ?_
      refine U_take3 8 (i := 0) (v := .slice none 0 0) rfl (by kernel_rfl) (by kernel_rfl) (by kernel_rfl) (by kernel_rfl) (by kernel_rfl) (fun _ _ _ h => h) (.inl ⟨rfl, fun u hu => (by go_simp)⟩) S0.out ?_
      refine U_take3 8 (i := 1) (v := .int .i64 0) rfl (by kernel_rfl) (by kernel_rfl) (by kernel_rfl) (by kernel_rfl) (by kernel_rfl) (fun _ _ _ h => h) (.inl ⟨rfl, fun u hu => (by go_simp)⟩) S0.out ?_
      refine U_take3 8 (i := 2) (v := .slice none 0 0) rfl (by kernel_rfl) (by kernel_rfl) (by kernel_rfl) (by kernel_rfl) (by kernel_rfl) (fun _ _ _ h => h) (.inl ⟨rfl, fun u hu => (by go_simp)⟩) S0.out ?_
      refine U_take3 8 (i := 3) (v := .slice aw wl.length cw) rfl (by kernel_rfl) (by kernel_rfl) (by kernel_rfl) (by kernel_rfl) (by kernel_rfl) (fun _ _ _ h => h) (.inl ⟨rfl, fun u hu => (by have h1 := hu; go_simp)⟩) S0.out ?_
      refine U_take3 8 (i := 4) (v := .slice none 0 0) rfl (by kernel_rfl) (by kernel_rfl) (by kernel_rfl) (by kernel_rfl) (by kernel_rfl) (fun _ _ _ h => h) (.inl ⟨rfl, fun u hu => (by go_simp)⟩) S0.out ?_
      refine U_take3 8 (i := 5) (v := .int .i64 0) rfl (by kernel_rfl) (by kernel_rfl) (by kernel_rfl) (by kernel_rfl) (by kernel_rfl) (fun _ _ _ h => h) (.inl ⟨rfl, fun u hu => (by go_simp)⟩) S0.out ?_
      refine U_take3 8 (i := 6) (v := .slice none 0 0) rfl (by kernel_rfl) (by kernel_rfl) (by kernel_rfl) (by kernel_rfl) (by kernel_rfl) (fun _ _ _ h => h) (.inl ⟨rfl, fun u hu => (by go_simp)⟩) S0.out ?_
      refine U_step (j := 7) (by kernel_rfl) rfl (fun K hK => ?_)
      go_simp
      refine hK.out _ _ (.inl rfl) ?_
      clear hK K
      refine U_step (j := 8) (by kernel_rfl) rfl (fun K hK => ?_)
      go_simp
      refine (HCC.out w.drew HBD.out).mono ?_
      rintro e w3 ⟨hb3, v3, rfl, hs3⟩
      have HB3 := hid (hBD.trans (hb3.mono hbw))
      have HS3 := hid hs3
      refine hK.out _ _ (.inl rfl) ?_
      clear hK K hb3 hs3
      refine U_step (j := 9) (by kernel_rfl) rfl (fun K hK => ?_)
      go_simp
      refine hK.out _ _ (.inl rfl) ?_
      clear hK K
      refine U_step (j := 10) (by kernel_rfl) rfl (fun K hK => ?_)
      go_simp
      refine hK.out _ _ (.inl rfl) ?_
      clear hK K
      refine U_done (by kernel_rfl) ?_ _
      clear S0
      go_wp2
      all_goals go_ret2
      all_goals first | exact ⟨HB3.out, _, rfl, HS3.out⟩ | exact ⟨HB3.out, _, rfl, fun _ => HS3.out⟩
/-- the place before which rows are put -/
def insE (n : Nat) (a : Str) : Nat := (min (max (plZ (placeE a ((n + 1 : Nat) : Int))) 0) (n : Int)).toNat
theorem insE_le (n : Nat) (a : Str) : insE n a ≤ n := by unfold insE; omega
set_option maxRecDepth 100000 in
set_option maxHeartbeats 2000000 in
theorem cut_insert {b1 b3 : Nat} (B : Nat) (f : Str) (l wl : List Str) (v wv : Value) (w : World) (hr : RowS B w v l) (hBw : B ≤ w.heap.size) (hl : l.length ≤ 10000) (hf : f.length ≤ 1000000) (hwl : wl.length ≤ 100000)
    (h1 : w.cell? ⟨b1, 0, none⟩ = some (.string ⟨f.toArray⟩)) (h3 : w.cell? ⟨b3, 0, none⟩ = some wv) (hwv : StrsAt w wv wl) (hnil : ∀ n c, wv = .slice none n c → c = 0) :
    Calls Tryz.prog 88 #[v, .pointer (some ⟨b1, 0, none⟩), .pointer (some ⟨b3, 0, none⟩)] w fun e w' => Below B w w' ∧ ∃ v', e = .returned (.tuple #[v', .int .i64 (plE (placeE f ((l.length + 1 : Nat) : Int)))]) ∧ (plE (placeE f ((l.length + 1 : Nat) : Int)) = 0 → StrsAt w' v' (midL l wl (insE l.length f) (insE l.length f))) := by
  have hmx : Tryz.prog.follows .mixedOrders = true := by kernel_rfl
  have hwv0 := hwv
  obtain ⟨aw, cw, rfl, _, _⟩ := hwv
  replace hwv := hwv0
  clear hwv0
  have hcap := row_cap hr
  have HB := hid (place_fn f (l.length + 1) hf (by omega) w)
  rw [plAns_eq] at HB
  have hzb : -2000000000 ≤ plZ (placeE f ((l.length + 1 : Nat) : Int)) ∧ plZ (placeE f ((l.length + 1 : Nat) : Int)) ≤ 2000000000 := by
    cases h : placeE f ((l.length + 1 : Nat) : Int) with
    | none => exact ⟨by decide, by decide⟩
    | some z => exact placeE_le h (by omega)
  have hlo := insE_le l.length f
  have hmn : min (max (plZ (placeE f ((l.length + 1 : Nat) : Int))) 0) (l.length : Int) = (insE l.length f : Nat) := by unfold insE; omega
  have he2 : plE (placeE f ((l.length + 1 : Nat) : Int)) = 0 ∨ plE (placeE f ((l.length + 1 : Nat) : Int)) = 2 := by cases placeE f ((l.length + 1 : Nat) : Int) <;> simp [plE]
  have hst := hr.strs
  unfold midL
  generalize plZ (placeE f ((l.length + 1 : Nat) : Int)) = z at HB hmn hzb
  generalize plE (placeE f ((l.length + 1 : Nat) : Int)) = er at HB he2 ⊢
  generalize insE l.length f = lo at hmn hlo ⊢
  have hBD : Below B w w.drew := (Below.refl _ _).drew
  have HBD := hid (show Below w.heap.size w w.drew from (Below.refl _ _).drew)
  have HBX := hid (show w.drew.cell? ⟨b3, 0, none⟩ = some (.slice aw wl.length cw) from h3)
  have hbw : B ≤ w.drew.heap.size := hBw
  rcases hcap with ⟨g, c, rfl, hc⟩ | ⟨rfl, rfl⟩
  · have HCC := hid (fun (u : World) (h : Below w.heap.size w u) => parts3_concat u _ (.slice aw wl.length cw) _ (l.take lo) wl (l.drop lo) (strs_take (hst.below h) hlo) (hwv.below h) (strs_drop (hst.below h) hlo) nil_some hnil nil_if (by rw [List.length_take, List.length_drop]; omega))
    generalize (l.take lo ++ (wl ++ l.drop lo)) = lr at HCC ⊢
    obtain ⟨n, hn⟩ : ∃ n, n = l.length := ⟨_, rfl⟩
    have hn1 : n ≤ 10000 := by rw [hn]; exact hl
    rw [← hn] at HB HCC hc hlo hmn ⊢
    clear hr hst hwv hn hnil
    have hnb : n ≤ c := hc
    have HB1 := hid (show Calls Tryz.prog 78 #[.string ⟨f.toArray⟩, .int .i64 ((n : Int) + 1)] w fun e w' => e = .returned (.tuple #[.int .i64 z, .int .i64 er]) ∧ w' = w from HB.out)
    clear HB
    rcases he2 with rfl | rfl
    · go_enter Tryz.func88, Tryz.ntmps88
      go_wp2_with fail
      (with_reducible refine HB1.out.mono ?_); rintro e w1 ⟨rfl, hw⟩; subst w1
      have S0 : Hid ((fun u : World => u.cell? ⟨b3, 0, none⟩ = some (.slice aw wl.length cw)) w.drew) := hid HBX.out
      go_wp2
      refine U_begin (late := fun k => decide (7 ≤ k)) (S := fun u : World => u.cell? ⟨b3, 0, none⟩ = some (.slice aw wl.length cw)) hmx ?_
      refine U_take3 8 (i := 0) (v := .slice (some ⟨g, 0, none⟩) n c) rfl (by kernel_rfl) (by kernel_rfl) (by kernel_rfl) (by kernel_rfl) (by kernel_rfl) (fun _ _ _ h => h) (.inl ⟨rfl, fun u hu => (by go_simp)⟩) S0.out ?_
      refine U_take3 8 (i := 1) (v := .int .i64 (lo : Nat)) rfl (by kernel_rfl) (by kernel_rfl) (by kernel_rfl) (by kernel_rfl) (by kernel_rfl) (fun _ _ _ h => h) (.inl ⟨rfl, fun u hu => (by go_simp)⟩) S0.out ?_
      refine U_take3 8 (i := 2) (v := .slice (some ⟨g, 0, none⟩) lo c) rfl (by kernel_rfl) (by kernel_rfl) (by kernel_rfl) (by kernel_rfl) (by kernel_rfl) (fun _ _ _ h => h) (.inl ⟨rfl, fun u hu => (by go_simp; try omega)⟩) S0.out ?_
      refine U_take3 8 (i := 3) (v := .slice aw wl.length cw) rfl (by kernel_rfl) (by kernel_rfl) (by kernel_rfl) (by kernel_rfl) (by kernel_rfl) (fun _ _ _ h => h) (.inl ⟨rfl, fun u hu => (by have h1 := hu; go_simp)⟩) S0.out ?_
      refine U_take3 8 (i := 4) (v := .slice (some ⟨g, 0, none⟩) n c) rfl (by kernel_rfl) (by kernel_rfl) (by kernel_rfl) (by kernel_rfl) (by kernel_rfl) (fun _ _ _ h => h) (.inl ⟨rfl, fun u hu => (by go_simp)⟩) S0.out ?_
      refine U_take3 8 (i := 5) (v := .int .i64 (lo : Nat)) rfl (by kernel_rfl) (by kernel_rfl) (by kernel_rfl) (by kernel_rfl) (by kernel_rfl) (fun _ _ _ h => h) (.inl ⟨rfl, fun u hu => (by go_simp)⟩) S0.out ?_
      refine U_take3 8 (i := 6) (v := .slice (if c = lo then some ⟨g, 0, none⟩ else some ⟨g, lo, none⟩) (n - lo) (c - lo)) rfl (by kernel_rfl) (by kernel_rfl) (by kernel_rfl) (by kernel_rfl) (by kernel_rfl) (fun _ _ _ h => h) (.inl ⟨rfl, fun u hu => (by go_simp; try omega)⟩) S0.out ?_
      refine U_step (j := 7) (by kernel_rfl) rfl (fun K hK => ?_)
      go_simp
      refine hK.out _ _ (.inl rfl) ?_
      clear hK K
      refine U_step (j := 8) (by kernel_rfl) rfl (fun K hK => ?_)
      go_simp
      refine (HCC.out w.drew HBD.out).mono ?_
      rintro e w3 ⟨hb3, v3, rfl, hs3⟩
      have HB3 := hid (hBD.trans (hb3.mono hbw))
      have HS3 := hid hs3
      refine hK.out _ _ (.inl rfl) ?_
      clear hK K hb3 hs3
      refine U_step (j := 9) (by kernel_rfl) rfl (fun K hK => ?_)
      go_simp
      refine hK.out _ _ (.inl rfl) ?_
      clear hK K
      refine U_step (j := 10) (by kernel_rfl) rfl (fun K hK => ?_)
      go_simp
      refine hK.out _ _ (.inl rfl) ?_
      clear hK K
      refine U_done (by kernel_rfl) ?_ _
      clear S0
      go_wp2
      all_goals go_ret2
      all_goals first | exact ⟨HB3.out, _, rfl, HS3.out⟩ | exact ⟨HB3.out, _, rfl, fun _ => HS3.out⟩
    · go_enter Tryz.func88, Tryz.ntmps88
      go_wp2_with fail
      (with_reducible refine HB1.out.mono ?_); rintro e w1 ⟨rfl, hw⟩; subst w1
      go_wp2
      go_ret2
      first | exact ⟨Below.refl _ _, _, rfl⟩ | exact ⟨Below.refl _ _, _, rfl, fun h => absurd h (by decide)⟩
  · have hlo0 : lo = 0 := by simpa using hlo
    subst hlo0
    have HCC := hid (fun (u : World) (h : Below w.heap.size w u) => parts3_concat u (.slice none 0 0) (.slice aw wl.length cw) (.slice none 0 0) [] wl [] strs_none (hwv.below h) strs_none nil_none hnil nil_none (by simp; omega))
    show Calls Tryz.prog 88 #[.slice none 0 0, .pointer (some ⟨b1, 0, none⟩), .pointer (some ⟨b3, 0, none⟩)] w fun e w' => Below B w w' ∧ ∃ v', e = .returned (.tuple #[v', .int .i64 er]) ∧ (er = 0 → StrsAt w' v' ([] ++ (wl ++ [])))
    have HB1 := hid (show Calls Tryz.prog 78 #[.string ⟨f.toArray⟩, .int .i64 1] w fun e w' => e = .returned (.tuple #[.int .i64 z, .int .i64 er]) ∧ w' = w from HB.out)
    have hmn0 : min (max z 0) 0 = 0 := by omega
    generalize ([] ++ (wl ++ [])) = lr at HCC ⊢
    clear hr hst hwv hnil HB hmn
    rcases he2 with rfl | rfl
    · go_enter Tryz.func88, Tryz.ntmps88
      go_wp2_with fail
      (with_reducible refine HB1.out.mono ?_); rintro e w1 ⟨rfl, hw⟩; subst w1
      have S0 : Hid ((fun u : World => u.cell? ⟨b3, 0, none⟩ = some (.slice aw wl.length cw)) w.drew) := hid HBX.out
      go_wp2
      refine U_begin (late := fun k => decide (7 ≤ k)) (S := fun u : World => u.cell? ⟨b3, 0, none⟩ = some (.slice aw wl.length cw)) hmx ?_
      refine U_take3 8 (i := 0) (v := .slice none 0 0) rfl (by kernel_rfl) (by kernel_rfl) (by kernel_rfl) (by kernel_rfl) (by kernel_rfl) (fun _ _ _ h => h) (.inl ⟨rfl, fun u hu => (by go_simp)⟩) S0.out ?_
      refine U_take3 8 (i := 1) (v := .int .i64 0) rfl (by kernel_rfl) (by kernel_rfl) (by kernel_rfl) (by kernel_rfl) (by kernel_rfl) (fun _ _ _ h => h) (.inl ⟨rfl, fun u hu => (by go_simp)⟩) S0.out ?_
      refine U_take3 8 (i := 2) (v := .slice none 0 0) rfl (by kernel_rfl) (by kernel_rfl) (by kernel_rfl) (by kernel_rfl) (by kernel_rfl) (fun _ _ _ h => h) (.inl ⟨rfl, fun u hu => (by go_simp)⟩) S0.out ?_
      refine U_take3 8 (i := 3) (v := .slice aw wl.length cw) rfl (by kernel_rfl) (by kernel_rfl) (by kernel_rfl) (by kernel_rfl) (by kernel_rfl) (fun _ _ _ h => h) (.inl ⟨rfl, fun u hu => (by have h1 := hu; go_simp)⟩) S0.out ?_
      refine U_take3 8 (i := 4) (v := .slice none 0 0) rfl (by kernel_rfl) (by kernel_rfl) (by kernel_rfl) (by kernel_rfl) (by kernel_rfl) (fun _ _ _ h => h) (.inl ⟨rfl, fun u hu => (by go_simp)⟩) S0.out ?_
      refine U_take3 8 (i := 5) (v := .int .i64 0) rfl (by kernel_rfl) (by kernel_rfl) (by kernel_rfl) (by kernel_rfl) (by kernel_rfl) (fun _ _ _ h => h) (.inl ⟨rfl, fun u hu => (by go_simp)⟩) S0.out ?_
      refine U_take3 8 (i := 6) (v := .slice none 0 0) rfl (by kernel_rfl) (by kernel_rfl) (by kernel_rfl) (by kernel_rfl) (by kernel_rfl) (fun _ _ _ h => h) (.inl ⟨rfl, fun u hu => (by go_simp)⟩) S0.out ?_
      refine U_step (j := 7) (by kernel_rfl) rfl (fun K hK => ?_)
      go_simp
      refine hK.out _ _ (.inl rfl) ?_
      clear hK K
      refine U_step (j := 8) (by kernel_rfl) rfl (fun K hK => ?_)
      go_simp
      refine (HCC.out w.drew HBD.out).mono ?_
      rintro e w3 ⟨hb3, v3, rfl, hs3⟩
      have HB3 := hid (hBD.trans (hb3.mono hbw))
      have HS3 := hid hs3
      refine hK.out _ _ (.inl rfl) ?_
      clear hK K hb3 hs3
      refine U_step (j := 9) (by kernel_rfl) rfl (fun K hK => ?_)
      go_simp
      refine hK.out _ _ (.inl rfl) ?_
      clear hK K
      refine U_step (j := 10) (by kernel_rfl) rfl (fun K hK => ?_)
      go_simp
      refine hK.out _ _ (.inl rfl) ?_
      clear hK K
      refine U_done (by kernel_rfl) ?_ _
      clear S0
      go_wp2
      all_goals go_ret2
      all_goals first | exact ⟨HB3.out, _, rfl, HS3.out⟩ | exact ⟨HB3.out, _, rfl, fun _ => HS3.out⟩
    · go_enter Tryz.func88, Tryz.ntmps88
      go_wp2_with fail
      (with_reducible refine HB1.out.mono ?_); rintro e w1 ⟨rfl, hw⟩; subst w1
      go_wp2
      go_ret2
      first | exact ⟨Below.refl _ _, _, rfl⟩ | exact ⟨Below.refl _ _, _, rfl, fun h => absurd h (by decide)⟩
end Go.Proofs.YtheiageokcgbhaaGreatDoor.Pz
/-
  Contracts of the library, laid at this program by the kit's shelf tools.
-/
namespace Go.Proofs.YtheiageokcgbhaaGreatDoor.Pz
open Go.Shelf
def Tryz.laysNm217_ren : Go.Shelf.Ren := ⟨fun | 17 => 91 | n => n, fun | 24 => 24 | 9 => 9 | 3 => 3 | 4 => 4 | 0 => 0 | n => n, fun | n => n⟩
theorem Tryz.laysNm217 : Go.Proofs.Lays2.n17 Tryz.prog Tryz.laysNm217_ren := {
  mixed := by kernel_rfl
  f17 := Tryz.func91.trans (congrArg some (by kernel_rfl))
  t0 := Tryz.underlying0
  a0 := Tryz.isAgg0
  z0 := Tryz.sizeOf0
  v0 := Tryz.zeroValue0
  t3 := Tryz.underlying3
  a3 := Tryz.isAgg3
  z3 := Tryz.sizeOf3
  v3 := Tryz.zeroValue3
  t4 := Tryz.underlying4
  a4 := Tryz.isAgg4
  z4 := Tryz.sizeOf4
  v4 := Tryz.zeroValue4
  t9 := Tryz.underlying9
  a9 := Tryz.isAgg9
  z9 := Tryz.sizeOf9
  v9 := Tryz.zeroValue9
  t24 := Tryz.underlying24
  a24 := Tryz.isAgg24
  z24 := Tryz.sizeOf24
  v24 := Tryz.zeroValue24 }
open Go.RowKit Go.Lib Go.Sort in
theorem Tryz.slices_Reverse_string_cells (b off n c : Nat) (Sx : Nat → ByteArray) (w : World) (hbig : n ≤ 9223372036854775807) (hc : ∀ i, i < n → w.cell? ⟨b, off + i, none⟩ = some (.string (Sx i))) (hf : ∀ j, j < n → w.frozen? ⟨b, off + j, none⟩ = false) :
    Calls Tryz.prog 91 #[.slice (some ⟨b, off, none⟩) n c] w fun e w' => e = .returned (.tuple #[]) ∧ ∃ q, w' = (w.drewN q).setCells b off ((Lib.strsOf Sx n).reverse.map encStr) := Any.slices_Reverse_string_cells Tryz.laysNm217 b off n c Sx w hbig hc hf
open Go.RowKit Go.Lib Go.Sort in
theorem Tryz.slices_Reverse_string_empty (a : Option Addr) (cap : Nat) (w : World) :
    Calls Tryz.prog 91 #[.slice a 0 cap] w fun e w' => e = .returned (.tuple #[]) ∧ w' = w := Any.slices_Reverse_string_empty Tryz.laysNm217 a cap w
end Go.Proofs.YtheiageokcgbhaaGreatDoor.Pz
/-
  list.Replace, list.Insert, list.Reverse of the program.
-/
namespace Go.Proofs.YtheiageokcgbhaaGreatDoor.Pz
open Go.RowKit
def replaceE (s f t : Str) (wl : List Str) : Str × Int := chE s (midL (splitE s).1 wl (loE (splitE s).1.length f) (hiE (splitE s).1.length f t)) (if okE (splitE s).1.length f t then 0 else 2)
def insertE (s f : Str) (wl : List Str) : Str × Int := chE s (midL (splitE s).1 wl (insE (splitE s).1.length f) (insE (splitE s).1.length f)) (plE (placeE f (((splitE s).1.length + 1 : Nat) : Int)))
def reverseE (s : Str) : Str × Int := chE s (splitE s).1.reverse 0
/-- three cells of the call's own -/
theorem boxes3 (w : World) (x y z : Value) (t u v : TypeId) : ∃ W, W = ((w.alloc (.cells #[x] t)).alloc (.cells #[y] u)).alloc (.cells #[z] v) ∧ Below w.heap.size w W ∧ W.heap[w.heap.size]? = some (.cells #[x] t (0, 0)) ∧ W.heap[w.heap.size + 1]? = some (.cells #[y] u (0, 0)) ∧ W.heap[w.heap.size + 1 + 1]? = some (.cells #[z] v (0, 0)) ∧ w.heap.size + 3 = W.heap.size := by
  refine ⟨_, rfl, ?_, ?_, ?_, ?_, by simp⟩
  · exact ((belowA w _).trans ((belowA _ _).mono (by simp))).trans ((belowA _ _).mono (by simp; omega))
  · rw [Below.heap_alloc _ _ _ (by simp <;> omega), Below.heap_alloc _ _ _ (by simp)]; exact heap_alloc_new _ _
  · rw [Below.heap_alloc _ _ _ (by simp)]; simpa using heap_alloc_new (w.alloc (.cells #[x] t)) (.cells #[y] u)
  · simpa using heap_alloc_new ((w.alloc (.cells #[x] t)).alloc (.cells #[y] u)) (.cells #[z] v)
set_option maxRecDepth 100000 in
set_option maxHeartbeats 1000000 in
theorem replaceP_fn (s f t : Str) (wl : List Str) (wv : Value) (w : World) (hml : ML w) (hs : s.length ≤ 1000000) (hf : f.length ≤ 1000000) (ht : t.length ≤ 1000000) (hwv : StrsAt w wv wl) (hnil : ∀ n c, wv = .slice none n c → c = 0) (hwl : wl.length ≤ 100000) :
    Calls Tryz.prog 43 #[.string ⟨s.toArray⟩, .string ⟨f.toArray⟩, .string ⟨t.toArray⟩, wv] w fun e w' => e = .returned (.tuple #[.string ⟨(replaceE s f t wl).1.toArray⟩, .int .i64 (replaceE s f t wl).2]) ∧ Below w.heap.size w w' := by
  obtain ⟨W, hW, hbW, hg1, hg2, hg3, hsz⟩ := boxes3 w (.string ⟨f.toArray⟩) (.string ⟨t.toArray⟩) wv 9 9 24
  have eg : ∀ args w, (callFunc 85 args).run Tryz.prog w = .ok (.enter 85 args) w := enters_of Tryz.func85 (by kernel_rfl) rfl
  have hlen := (splitE_out s).2.1
  have HC := hid (changed3_fn 85 (.pointer (some ⟨w.heap.size, 0, none⟩)) (.pointer (some ⟨w.heap.size + 1, 0, none⟩)) (.pointer (some ⟨w.heap.size + 1 + 1, 0, none⟩)) eg s hs W (hml.below hbW) (midL (splitE s).1 wl (loE (splitE s).1.length f) (hiE (splitE s).1.length f t)) (if okE (splitE s).1.length f t then 0 else 2)
    (by have := midL_len (splitE s).1 wl (loE (splitE s).1.length f) (hiE (splitE s).1.length f t); omega) (fun _ u v hb hr => by
      have hc1 : u.cell? ⟨w.heap.size, 0, none⟩ = some (.string ⟨f.toArray⟩) := by rw [hb.cell (p := ⟨w.heap.size, 0, none⟩) (by show w.heap.size < _; omega), Lib.cell_of_heap hg1]; rfl
      have hc2 : u.cell? ⟨w.heap.size + 1, 0, none⟩ = some (.string ⟨t.toArray⟩) := by rw [hb.cell (p := ⟨w.heap.size + 1, 0, none⟩) (by show w.heap.size + 1 < _; omega), Lib.cell_of_heap hg2]; rfl
      have hc3 : u.cell? ⟨w.heap.size + 1 + 1, 0, none⟩ = some wv := by rw [hb.cell (p := ⟨w.heap.size + 1 + 1, 0, none⟩) (by show w.heap.size + 1 + 1 < _; omega), Lib.cell_of_heap hg3]; rfl
      exact (cut_replace W.heap.size f t _ wl v wv u hr hb.size hlen hf ht hwl hc1 hc2 hc3 (hwv.below (hbW.trans (hb.mono hbW.size))) hnil).mono fun e u' ⟨h1, h2⟩ => ⟨hb.trans h1, h2⟩))
  have HR := hid (show replaceE s f t wl = chE s (midL (splitE s).1 wl (loE (splitE s).1.length f) (hiE (splitE s).1.length f t)) (if okE (splitE s).1.length f t then 0 else 2) from rfl)
  rw [← HR.out] at HC
  generalize replaceE s f t wl = R at HC ⊢
  obtain ⟨r1, r2⟩ := R
  dsimp only at HC ⊢
  obtain ⟨aw, cw, rfl, _, _⟩ := hwv
  have HW := hid hW
  have HBW := hid hbW
  clear hg1 hg2 hg3 hW hbW hlen hml HR eg
  go_enter Tryz.func43, Tryz.ntmps43
  go_wp2_with fail
  rw [← HW.out]
  (with_reducible refine HC.out.mono ?_); rintro e w1 ⟨rfl, hb⟩
  have HB1 := hid (HBW.out.trans (hb.mono (by omega)))
  clear hb
  go_wp2
  go_ret2
  exact ⟨rfl, HB1.out⟩
set_option maxRecDepth 100000 in
set_option maxHeartbeats 1000000 in
theorem insertP_fn (s f : Str) (wl : List Str) (wv : Value) (w : World) (hml : ML w) (hs : s.length ≤ 1000000) (hf : f.length ≤ 1000000) (hwv : StrsAt w wv wl) (hnil : ∀ n c, wv = .slice none n c → c = 0) (hwl : wl.length ≤ 100000) :
    Calls Tryz.prog 45 #[.string ⟨s.toArray⟩, .string ⟨f.toArray⟩, wv] w fun e w' => e = .returned (.tuple #[.string ⟨(insertE s f wl).1.toArray⟩, .int .i64 (insertE s f wl).2]) ∧ Below w.heap.size w w' := by
  obtain ⟨W, hW, hbW, hg1, hg2, hsz⟩ := boxes2 w (.string ⟨f.toArray⟩) wv 9 24
  have eg : ∀ args w, (callFunc 88 args).run Tryz.prog w = .ok (.enter 88 args) w := enters_of Tryz.func88 (by kernel_rfl) rfl
  have hlen := (splitE_out s).2.1
  have HC := hid (changed2_fn 88 (.pointer (some ⟨w.heap.size, 0, none⟩)) (.pointer (some ⟨w.heap.size + 1, 0, none⟩)) eg s hs W (hml.below hbW) (midL (splitE s).1 wl (insE (splitE s).1.length f) (insE (splitE s).1.length f)) (plE (placeE f (((splitE s).1.length + 1 : Nat) : Int)))
    (by have := midL_len (splitE s).1 wl (insE (splitE s).1.length f) (insE (splitE s).1.length f); omega) (fun _ u v hb hr => by
      have hc1 : u.cell? ⟨w.heap.size, 0, none⟩ = some (.string ⟨f.toArray⟩) := by rw [hb.cell (p := ⟨w.heap.size, 0, none⟩) (by show w.heap.size < _; omega), Lib.cell_of_heap hg1]; rfl
      have hc2 : u.cell? ⟨w.heap.size + 1, 0, none⟩ = some wv := by rw [hb.cell (p := ⟨w.heap.size + 1, 0, none⟩) (by show w.heap.size + 1 < _; omega), Lib.cell_of_heap hg2]; rfl
      exact (cut_insert W.heap.size f _ wl v wv u hr hb.size hlen hf hwl hc1 hc2 (hwv.below (hbW.trans (hb.mono hbW.size))) hnil).mono fun e u' ⟨h1, h2⟩ => ⟨hb.trans h1, h2⟩))
  have HR := hid (show insertE s f wl = chE s (midL (splitE s).1 wl (insE (splitE s).1.length f) (insE (splitE s).1.length f)) (plE (placeE f (((splitE s).1.length + 1 : Nat) : Int))) from rfl)
  rw [← HR.out] at HC
  generalize insertE s f wl = R at HC ⊢
  obtain ⟨r1, r2⟩ := R
  dsimp only at HC ⊢
  obtain ⟨aw, cw, rfl, _, _⟩ := hwv
  have HW := hid hW
  have HBW := hid hbW
  clear hg1 hg2 hW hbW hlen hml HR eg
  go_enter Tryz.func45, Tryz.ntmps45
  go_wp2_with fail
  rw [← HW.out]
  (with_reducible refine HC.out.mono ?_); rintro e w1 ⟨rfl, hb⟩
  have HB1 := hid (HBW.out.trans (hb.mono (by omega)))
  clear hb
  go_wp2
  go_ret2
  exact ⟨rfl, HB1.out⟩
theorem tape_cells (g : Nat) : ∀ (vs : List Value) (o : Nat) (w : World), (w.setCells g o vs).tape = w.tape
  | [], _, _ => rfl
  | v :: r, o, w => by
    rw [World.setCells, tape_cells g r]
    rfl
theorem size_cells (g : Nat) : ∀ (vs : List Value) (o : Nat) (w : World), (w.setCells g o vs).heap.size = w.heap.size
  | [], _, _ => rfl
  | v :: r, o, w => by
    rw [World.setCells, size_cells g r]
    simp [World.setCell]
theorem below_setCells {B g : Nat} {w : World} (o : Nat) (vs : List Value) (hB : B ≤ w.heap.size) (hg : B ≤ g) : Below B w (w.setCells g o vs) :=
  ⟨World.os_setCells w g o vs, tape_cells g vs o w, World.output_setCells w g o vs, by rw [size_cells]; exact Nat.le_refl _, fun k hk => World.heap_setCells_other w g o vs (by omega) (by omega)⟩
theorem revS_fn (B : Nat) (l : List Str) (v : Value) (w : World) (hr : RowS B w v l) (hB : B ≤ w.heap.size) (hl : l.length ≤ 1000000) :
    Calls Tryz.prog 91 #[v] w fun e w' => e = .returned (.tuple #[]) ∧ Below B w w' ∧ StrsAt w' v l.reverse := by
  rcases row_cap hr with ⟨g, c, rfl, hc⟩ | ⟨rfl, rfl⟩
  · have hb := hr.lt g rfl
    refine (Tryz.slices_Reverse_string_cells g 0 l.length c (fun i => ⟨(l.getD i []).toArray⟩) w (by omega) (fun i hi => by rw [Nat.zero_add]; exact hr.getD hi) (fun j _ => by rw [Nat.zero_add]; exact hr.frozen j)).mono ?_
    rintro e w' ⟨h1, q, rfl⟩
    have hbd : Below B w (w.drewN q) := ⟨rfl, rfl, rfl, Nat.le_refl _, fun _ _ => rfl⟩
    have hso : Lib.strsOf (fun i => (⟨(l.getD i []).toArray⟩ : ByteArray)) l.length = l := by
      unfold Lib.strsOf
      apply List.ext_getElem
      · simp
      · intro i h1 h2
        simp [List.getD_eq_getElem?_getD, h2]
    rw [hso]
    refine ⟨h1, hbd.trans (below_setCells _ _ (by exact hB) hb.2), ?_⟩
    refine ⟨_, c, by rw [List.length_reverse], by rw [List.length_reverse]; exact hc, fun i hi => ⟨_, rfl, ?_, ?_⟩⟩
    · show g < ((w.drewN q).setCells g 0 _).heap.size
      rw [size_cells]
      exact hb.1
    · rw [add_none]
      rw [World.cell?_setCells_in g _ 0 (w.drewN q) (fun j hj => by
        rw [Nat.zero_add]
        show (w.cell? ⟨g, j, none⟩).isSome = true
        rw [hr.getD (by simpa using hj)]
        rfl) i (by simpa using hi)]
      simp [encStr]
  · exact (Tryz.slices_Reverse_string_empty none 0 w).mono fun e w' ⟨h1, h2⟩ => ⟨h1, by rw [h2]; exact Below.refl _ _, strs_none⟩
set_option maxRecDepth 100000 in
theorem reverse1_fn (B : Nat) (l : List Str) (v : Value) (w : World) (hr : RowS B w v l) (hB : B ≤ w.heap.size) (hl : l.length ≤ 1000000) :
    Calls Tryz.prog 90 #[v] w fun e w' => Below B w w' ∧ ∃ v', e = .returned (.tuple #[v', .int .i64 0]) ∧ ((0 : Int) = 0 → StrsAt w' v' l.reverse) := by
  have HC := hid (revS_fn B l v w hr hB hl)
  obtain ⟨a, c, rfl⟩ := hr.shape
  generalize l.length = n at HC ⊢
  clear hr hl
  go_enter Tryz.func90, Tryz.ntmps90
  go_wp2_with fail
  (with_reducible refine HC.out.mono ?_); rintro e w1 ⟨rfl, hb, hs⟩
  have HB := hid hb
  have HS := hid hs
  clear hb hs
  go_wp2
  go_ret2
  first | exact ⟨HB.out, _, rfl, HS.out⟩ | exact ⟨HB.out, _, rfl, fun _ => HS.out⟩
set_option maxRecDepth 100000 in
theorem reverseP_fn (s : Str) (w : World) (hml : ML w) (hs : s.length ≤ 1000000) :
    Calls Tryz.prog 47 #[.string ⟨s.toArray⟩] w fun e w' => e = .returned (.tuple #[.string ⟨(reverseE s).1.toArray⟩, .int .i64 (reverseE s).2]) ∧ Below w.heap.size w w' := by
  have eg : ∀ args w, (callFunc 90 args).run Tryz.prog w = .ok (.enter 90 args) w := enters_of Tryz.func90 (by kernel_rfl) rfl
  have hlen := (splitE_out s).2.1
  have HC := hid (changed0_fn 90 eg s hs w hml (splitE s).1.reverse 0 (by rw [List.length_reverse]; omega) (fun _ u v hb hr => (reverse1_fn _ _ v u hr hb.size (by omega)).mono fun e u' ⟨h1, h2⟩ => ⟨hb.trans h1, h2⟩))
  have HR := hid (show reverseE s = chE s (splitE s).1.reverse 0 from rfl)
  rw [← HR.out] at HC
  generalize reverseE s = R at HC ⊢
  obtain ⟨r1, r2⟩ := R
  dsimp only at HC ⊢
  clear hlen hml HR eg
  go_enter Tryz.func47, Tryz.ntmps47
  go_wp2_with fail
  (with_reducible refine HC.out.mono ?_); rintro e w1 ⟨rfl, hb⟩
  have HB1 := hid hb
  clear hb
  go_wp2
  go_ret2
  exact ⟨rfl, HB1.out⟩
end Go.Proofs.YtheiageokcgbhaaGreatDoor.Pz
/-
  The reference's bounds, Range, Reverse.
-/
namespace Go.Proofs.YtheiageokcgbhaaGreatDoor.Pz
open Go.RowKit
theorem results_tmp4 {fn : Func} {t u v x : Tmp} (h : fn.results = #[.tmp t, .tmp u, .tmp v, .tmp x]) (tmps : Array Value) (P : Program) (w : World) :
    (results fn tmps).run P w = .ok (.tuple #[tmps.getD t undef, tmps.getD u undef, tmps.getD v undef, tmps.getD x undef]) w := by
  simp [results, h]
set_option maxRecDepth 100000 in
set_option maxHeartbeats 1000000 in
theorem boundsBad_fn (s f t : Str) (E : Int) (hs : s.length ≤ 1000000) (hf : f.length ≤ 1000000) (hE : ((splitE s).2.2 ≠ 0 ∧ E = (splitE s).2.2) ∨ ((splitE s).2.2 = 0 ∧ placeE f ((splitE s).1.length : Nat) = none ∧ E = 2)) (w : World) :
    Calls Tryz.prog 84 #[.string ⟨s.toArray⟩, .string ⟨f.toArray⟩, .string ⟨t.toArray⟩] w fun e w' => e = .returned (.tuple #[.slice none 0 0, .int .i64 0, .int .i64 0, .int .i64 E]) ∧ Below w.heap.size w w' := by
  have HS := hid (splitR_fn s hs w)
  have hlen := (splitE_out s).2.1
  generalize splitE s = r at HS hlen hE
  obtain ⟨l, at0, er⟩ := r
  dsimp only at HS hlen hE
  rcases hE with ⟨h1, h2⟩ | ⟨h1, h2, h3⟩
  · subst h2
    have he : (E != 0) = true := by simpa using h1
    go_enter Tryz.func84, Tryz.ntmps84
    go_wp2_with fail
    (with_reducible refine HS.out.mono ?_); rintro e w1 ⟨hb, v, rfl, hr⟩
    have HB := hid hb
    clear hb hr
    go_wp2
    ((try simp only [Exit.inBlock, Exit.then]); refine bodyPost_ret (results_tmp4 rfl _ _ _) rfl ?_)
    exact ⟨rfl, HB.out⟩
  · subst h1
    subst h3
    obtain ⟨n, hn⟩ : ∃ n, n = l.length := ⟨_, rfl⟩
    have HN := hid hn
    rw [← hn] at hlen h2
    have HP := hid (fun u => placeRef_fn f n hf (by omega) u)
    rw [h2] at HP
    clear hn h2
    go_enter Tryz.func84, Tryz.ntmps84
    go_wp2_with fail
    (with_reducible refine HS.out.mono ?_); rintro e w1 ⟨hb, v, rfl, hr⟩
    obtain ⟨a1, c1, rfl⟩ := hr.shape
    rw [← HN.out]
    have HB := hid hb
    have h1 := HP.out w1
    simp only [plAns] at h1
    clear hb hr
    go_wp2_with fail
    (with_reducible refine h1.mono ?_); rintro e w2 ⟨rfl, hw⟩; subst w2
    go_wp2
    ((try simp only [Exit.inBlock, Exit.then]); refine bodyPost_ret (results_tmp4 rfl _ _ _) rfl ?_)
    exact ⟨rfl, HB.out⟩
set_option maxRecDepth 100000 in
set_option maxHeartbeats 1000000 in
theorem boundsOk_fn (s f t : Str) (hs : s.length ≤ 1000000) (hf : f.length ≤ 1000000) (ht : t.length ≤ 1000000) (h0 : (splitE s).2.2 = 0) (za : Int) (hza : placeE f ((splitE s).1.length : Nat) = some za) (w : World) :
    Calls Tryz.prog 84 #[.string ⟨s.toArray⟩, .string ⟨f.toArray⟩, .string ⟨t.toArray⟩] w fun e w' => Below w.heap.size w w' ∧ ∃ v, RowS w.heap.size w' v (splitE s).1 ∧ e = .returned (.tuple #[v, .int .i64 (max za 0), .int .i64 (min (plZ (placeE t ((splitE s).1.length : Nat))) (((splitE s).1.length : Nat) - 1)), .int .i64 (plE (placeE t ((splitE s).1.length : Nat)))]) := by
  have HS := hid (splitR_fn s hs w)
  have hlen := (splitE_out s).2.1
  generalize splitE s = r at HS hlen h0 hza ⊢
  obtain ⟨l, at0, er⟩ := r
  dsimp only at HS hlen h0 hza ⊢
  subst h0
  obtain ⟨n, hn⟩ : ∃ n, n = l.length := ⟨_, rfl⟩
  have HN := hid hn
  rw [← hn] at hlen hza ⊢
  have HP := hid (fun u => placeRef_fn f n hf (by omega) u)
  rw [hza] at HP
  have HT := hid (fun u => placeRef_fn t n ht (by omega) u)
  simp only [plAns_eq] at HT
  have htb : -2000000000 ≤ plZ (placeE t (n : Nat)) ∧ plZ (placeE t (n : Nat)) ≤ 2000000000 := by
    cases h : placeE t (n : Nat) with
    | none => exact ⟨by decide, by decide⟩
    | some z => exact placeE_le h (by omega)
  generalize plZ (placeE t (n : Nat)) = zb at HT htb ⊢
  generalize plE (placeE t (n : Nat)) = et at HT ⊢
  clear hn hza
  go_enter Tryz.func84, Tryz.ntmps84
  go_wp2_with fail
  (with_reducible refine HS.out.mono ?_); rintro e w1 ⟨hb, v, rfl, hr⟩
  have HR1 := hid hr
  obtain ⟨a1, c1, rfl⟩ := hr.shape
  rw [← HN.out] at HR1 ⊢
  have HB := hid hb
  have h1 := HP.out w1
  simp only [plAns] at h1
  clear hb hr
  go_wp2_with fail
  (with_reducible refine h1.mono ?_); rintro e w2 ⟨rfl, hw⟩; subst w2
  have h2 := HT.out w1
  go_wp2_with fail
  (with_reducible refine h2.mono ?_); rintro e w2 ⟨rfl, hw⟩; subst w2
  go_wp2
  ((try simp only [Exit.inBlock, Exit.then]); refine bodyPost_ret (results_tmp4 rfl _ _ _) rfl ?_)
  exact ⟨HB.out, _, HR1.out, rfl⟩
theorem rangeE_bad {s f t : Str} {E : Int} (hE : ((splitE s).2.2 ≠ 0 ∧ E = (splitE s).2.2) ∨ ((splitE s).2.2 = 0 ∧ placeE f ((splitE s).1.length : Nat) = none ∧ E = 2)) : rangeE s f t = ([], E) ∧ (E != 0) = true ∧ ∀ wl, replaceE s f t wl = ([], E) := by
  rcases hE with ⟨h1, h2⟩ | ⟨h1, h2, h3⟩
  · subst h2
    exact ⟨by rw [rangeE, chE, if_pos h1], by simpa using h1, fun wl => by rw [replaceE, chE, if_pos h1]⟩
  · subst h3
    have hok : okE (splitE s).1.length f t = false := by unfold okE; rw [h2]; rfl
    exact ⟨by rw [rangeE, hok, chE, if_neg (by rw [h1]; simp)]; rfl, by decide, fun wl => by rw [replaceE, hok, chE, if_neg (by rw [h1]; simp)]; rfl⟩
theorem bad_or (s f : Str) : (∃ E, ((splitE s).2.2 ≠ 0 ∧ E = (splitE s).2.2) ∨ ((splitE s).2.2 = 0 ∧ placeE f ((splitE s).1.length : Nat) = none ∧ E = 2)) ∨ ((splitE s).2.2 = 0 ∧ ∃ za, placeE f ((splitE s).1.length : Nat) = some za) := by
  by_cases h : (splitE s).2.2 = 0
  · cases hp : placeE f ((splitE s).1.length : Nat) with
    | none => exact .inl ⟨2, .inr ⟨h, rfl, rfl⟩⟩
    | some z => exact .inr ⟨h, z, rfl⟩
  · exact .inl ⟨_, .inl ⟨h, rfl⟩⟩
set_option maxRecDepth 100000 in
set_option maxHeartbeats 2000000 in
theorem rangeR_fn (s f t : Str) (hs : s.length ≤ 1000000) (hf : f.length ≤ 1000000) (ht : t.length ≤ 1000000) (w : World) :
    Calls Tryz.prog 42 #[.string ⟨s.toArray⟩, .string ⟨f.toArray⟩, .string ⟨t.toArray⟩] w fun e w' => e = .returned (.tuple #[.string ⟨(rangeE s f t).1.toArray⟩, .int .i64 (rangeE s f t).2]) ∧ Below w.heap.size w w' := by
  rcases bad_or s f with ⟨E, hE⟩ | ⟨h0, za, hza⟩
  · have HB := hid (boundsBad_fn s f t E hs hf hE w)
    obtain ⟨hr, hEb, _⟩ := rangeE_bad (t := t) hE
    rw [hr]
    clear hE hr
    go_enter Tryz.func42, Tryz.ntmps42
    go_wp2_with fail
    (with_reducible refine HB.out.mono ?_); rintro e w1 ⟨rfl, hb⟩
    have HB1 := hid hb
    clear hb
    go_wp2
    go_ret2
    exact ⟨rfl, HB1.out⟩
  have HB := hid (boundsOk_fn s f t hs hf ht h0 za hza w)
  have hlen := (splitE_out s).2.1
  have hall := split_all2 s hs
  have hzab := placeE_le hza (by omega)
  obtain ⟨A, hA⟩ : ∃ A, A = rangeE s f t := ⟨_, rfl⟩
  rw [← hA]
  rw [rangeE, chE, if_neg (by rw [h0]; simp), okE, hza, Option.isSome_some, Bool.true_and] at hA
  have hlo : loE (splitE s).1.length f = (min (max za 0) ((splitE s).1.length : Int)).toNat := by unfold loE; rw [hza]; rfl
  have hhi : hiE (splitE s).1.length f t = max (loE (splitE s).1.length f) (min (plZ (placeE t ((splitE s).1.length : Nat))) (((splitE s).1.length : Int) - 1) + 1).toNat := rfl
  rw [rangeL, hhi, hlo] at hA
  generalize (splitE s).1 = l at HB hlen hall hA
  obtain ⟨n, hn⟩ : ∃ n, n = l.length := ⟨_, rfl⟩
  have HN := hid hn
  rw [← hn] at HB hlen hA
  have htb : -2000000000 ≤ plZ (placeE t (n : Nat)) ∧ plZ (placeE t (n : Nat)) ≤ 2000000000 := by
    cases h : placeE t (n : Nat) with
    | none => exact ⟨by decide, by decide⟩
    | some z => exact placeE_le h (by omega)
  obtain ⟨A1, A2⟩ := A
  dsimp only
  have HXL := hid hall
  clear hn h0 hza hlo hhi hall
  cases hto : (placeE t (n : Nat)).isSome with
  | false =>
    rw [hto] at hA
    have HA := hid (show (A1, A2) = ([], 2) from hA)
    have hpe : plE (placeE t (n : Nat)) = 2 := by unfold plE; rw [hto]; rfl
    rw [hpe] at HB
    generalize plZ (placeE t (n : Nat)) = zb at HB htb
    clear hA hto hpe
    go_enter Tryz.func42, Tryz.ntmps42
    go_wp2_with fail
    (with_reducible refine HB.out.mono ?_); rintro e w1 ⟨hb, v, hr, rfl⟩
    obtain ⟨a1, c1, rfl⟩ := hr.shape
    have HB1 := hid hb
    clear hb hr
    go_wp2
    go_ret2
    exact ⟨by obtain ⟨e1, e2⟩ := Prod.mk.inj HA.out; rw [e1, e2] <;> rfl, HB1.out⟩
  | true =>
    rw [hto, if_pos rfl, if_neg (by simp)] at hA
    have hpe : plE (placeE t (n : Nat)) = 0 := by unfold plE; rw [hto]; rfl
    rw [hpe] at HB
    generalize plZ (placeE t (n : Nat)) = zb at HB htb hA
    obtain ⟨a0, ha0⟩ : ∃ a0 : Nat, max za 0 = (a0 : Int) := ⟨(max za 0).toNat, by omega⟩
    obtain ⟨bt, hbt⟩ : ∃ bt, bt = min zb ((n : Int) - 1) := ⟨_, rfl⟩
    rw [← hbt] at HB hA
    rw [ha0] at HB hA
    have hbtn : bt ≤ (n : Int) - 1 := by omega
    have hbtl : -2000000000 ≤ bt := by omega
    have ha0b : a0 ≤ 2000000000 := by omega
    have hres : ∀ i : Nat, a0 ≤ i → (i = a0 ∨ (i : Int) ≤ bt + 1) → ¬ ((i : Int) ≤ bt) → (A1, A2) = joinRes ((l.take i).drop a0) := by
      intro i h1 h2 h3
      rw [hA]
      congr 1
      by_cases hle : (a0 : Int) ≤ bt
      · have e1 : (min (a0 : Int) (n : Int)).toNat = a0 := by omega
        have e2 : max a0 (bt + 1).toNat = i := by omega
        rw [e1, e2]
      · have e0 : i = a0 := by omega
        subst e0
        rw [List.drop_eq_nil_of_le (by rw [List.length_take]; omega), List.drop_eq_nil_of_le (by rw [List.length_take]; omega)]
    have HRES := hid hres
    have HSN := hid (fun (i : Nat) (h : i < l.length) (ha : a0 ≤ i) => (show (l.take (i + 1)).drop a0 = (l.take i).drop a0 ++ [l[i]] by
      rw [List.take_succ_eq_append_getElem h, List.drop_append_of_le_length (by rw [List.length_take]; omega)]))
    have HDL := hid (fun (i : Nat) => (show ((l.take i).drop a0).length ≤ 10000 by rw [List.length_drop, List.length_take, ← HN.out]; omega))
    have HDX := hid (fun (i : Nat) => (show ∀ x ∈ (l.take i).drop a0, x.length ≤ 1000000 from fun x hx => HXL.out x (List.mem_of_mem_take (List.mem_of_mem_drop hx))))
    have HD0 := hid (show (l.take a0).drop a0 = [] from List.drop_eq_nil_of_le (by rw [List.length_take]; omega))
    clear hA hres hto hpe hbt hzab htb ha0
    go_enter Tryz.func42, Tryz.ntmps42
    go_wp2_with fail
    (with_reducible refine HB.out.mono ?_); rintro e w1 ⟨hb, v, hr, rfl⟩
    have hst := hr.strs
    obtain ⟨a1, c1, rfl⟩ := hr.shape
    have HB1 := hid hb
    have hsz1 := hb.size
    obtain ⟨a', c', e', hcap, hcell⟩ := hst
    simp only [Value.slice.injEq, true_and] at e'
    obtain ⟨rfl, rfl⟩ := e'
    have HC := hid hcell
    rw [← HN.out] at hcap ⊢
    clear hb hr hcell
    go_wp2_with fail
    go_loopg [12, 13] (bt + 1 - a0).toNat (fun k ov iv wr => ∃ i : Nat, iv = .int .i64 (i : Nat) ∧ a0 ≤ i ∧ (i = a0 ∨ (i : Int) ≤ bt + 1) ∧ RowS w1.heap.size wr ov ((l.take i).drop a0) ∧ Below w1.heap.size w1 wr ∧ k = (bt + 1 - i).toNat)
    case atStart => exact ⟨a0, rfl, Nat.le_refl _, .inl rfl, by rw [HD0.out]; exact RowS.nil _ _, Below.refl _ _, rfl⟩
    case round =>
      obtain ⟨i, rfl, hai, hib, hrow, hbl, rfl⟩ := hrel
      have hsw := hbl.size
      by_cases hgo : (i : Int) ≤ bt
      · have hin : i < n := by omega
        obtain ⟨p, rfl, hbb, hcw⟩ := HC.out i (by rw [← HN.out]; exact hin)
        have hcw1 : wr.cell? (p.add i) = some (.string ⟨(l[i]'(by rw [← HN.out]; exact hin)).toArray⟩) := by rw [hbl.cell (p := p.add i) (by rw [add_block]; exact hbb)]; exact hcw
        have hsn := HSN.out i (by rw [← HN.out]; exact hin) hai
        have hdl := HDL.out i
        have hz0 : i = 0 → wr.cell? p = some (.string ⟨(l[i]'(by rw [← HN.out]; exact hin)).toArray⟩) := by
          intro h0
          subst h0
          exact hcw1
        generalize l[i]'(by rw [← HN.out]; exact hin) = x at hcw1 hsn hz0 hcw
        generalize (l.take i).drop a0 = cu at hrow hsn hdl
        have HSN2 := hid hsn
        have HROW := hid hrow
        have hdl2 : cu.length ≤ 10000000 := by omega
        obtain ⟨ao, co, rfl⟩ := hrow.shape
        clear hrow hsn hcw
        by_cases h0 : i = 0
        · subst h0
          replace hcw1 := hz0 rfl
          clear hz0
          go_wp2_with (at_builtin; go_loud (refine app_one (w := wr) rfl rfl (.tmp 32) (.tmp 37) rfl w1.heap.size _ _ x rfl HROW.out rfl hsw hdl2 ?_))
          intro v2 w2 hr2 hg2 hv2
          have HB2 := hid (hbl.grown hg2 hsw fun k hk => (HROW.out.lt k hk).2)
          have HR2 := hid hr2
          clear hr2 hg2 hv2
          go_wp2
          go_roundg (bt + 1 - ((0 + 1 : Nat) : Int)).toNat
          case measure => omega
          case rel => exact ⟨0 + 1, by go_num, by omega, .inr (by omega), by rw [HSN2.out]; exact HR2.out, HB2.out, rfl⟩
        · clear hz0
          go_wp2_with (at_builtin; go_loud (refine app_one (w := wr) rfl rfl (.tmp 32) (.tmp 37) rfl w1.heap.size _ _ x rfl HROW.out rfl hsw hdl2 ?_))
          intro v2 w2 hr2 hg2 hv2
          have HB2 := hid (hbl.grown hg2 hsw fun k hk => (HROW.out.lt k hk).2)
          have HR2 := hid hr2
          clear hr2 hg2 hv2
          go_wp2
          go_roundg (bt + 1 - ((i + 1 : Nat) : Int)).toNat
          case measure => omega
          case rel => exact ⟨i + 1, by go_num, by omega, .inr (by omega), by rw [HSN2.out]; exact HR2.out, HB2.out, rfl⟩
      · have hj := joinRA_fn _ _ wr hrow.strs (HDX.out i) (by have := HDL.out i; omega)
        rw [← HRES.out i hai hib (by omega)] at hj
        obtain ⟨ao, co, rfl⟩ := hrow.shape
        generalize ((l.take i).drop a0).length = lz at hj ⊢
        have HJ := hid hj
        clear hrow hj
        go_wp2_with fail
        (with_reducible refine HJ.out.mono ?_); rintro e w3 ⟨rfl, hb3⟩
        have HB3 := hid (HB1.out.trans ((hbl.trans (hb3.mono hsw)).mono hsz1))
        clear hb3
        go_wp2
        go_ret2
        exact ⟨rfl, HB3.out⟩
end Go.Proofs.YtheiageokcgbhaaGreatDoor.Pz
/-
  The reference's Reverse, Replace, Insert.
-/
namespace Go.Proofs.YtheiageokcgbhaaGreatDoor.Pz
open Go.RowKit
set_option maxRecDepth 100000 in
set_option maxHeartbeats 2000000 in
theorem reverseR_fn (s : Str) (hs : s.length ≤ 1000000) (w : World) :
    Calls Tryz.prog 48 #[.string ⟨s.toArray⟩] w fun e w' => e = .returned (.tuple #[.string ⟨(reverseE s).1.toArray⟩, .int .i64 (reverseE s).2]) ∧ Below w.heap.size w w' := by
  have HS := hid (splitR_fn s hs w)
  have hlen := (splitE_out s).2.1
  have hall := split_all2 s hs
  obtain ⟨A, hA⟩ : ∃ A, A = reverseE s := ⟨_, rfl⟩
  rw [← hA]
  rw [reverseE, chE] at hA
  generalize splitE s = r at HS hlen hall hA
  obtain ⟨l, at0, er⟩ := r
  dsimp only at HS hlen hall hA
  obtain ⟨A1, A2⟩ := A
  dsimp only
  by_cases her : er = 0
  case neg =>
    rw [if_pos her] at hA
    have HA := hid hA
    have heb : (er != 0) = true := by simpa using her
    clear hA her hall
    go_enter Tryz.func48, Tryz.ntmps48
    go_wp2_with fail
    (with_reducible refine HS.out.mono ?_); rintro e w1 ⟨hb1, v1, rfl, hr1⟩
    have HB1 := hid hb1
    clear hb1 hr1
    go_wp2
    go_ret2
    exact ⟨by obtain ⟨e1, e2⟩ := Prod.mk.inj HA.out; rw [e1, e2] <;> rfl, HB1.out⟩
  subst her
  rw [if_neg (by simp), if_neg (by simp)] at hA
  obtain ⟨n, hn⟩ : ∃ n, n = l.length := ⟨_, rfl⟩
  have HN := hid hn
  rw [← hn] at hlen
  have HA := hid hA
  have HXL := hid hall
  have HSN := hid (fun (i : Nat) (h : i < l.length) => (show (l.drop i).reverse = (l.drop (i + 1)).reverse ++ [l[i]] by rw [List.drop_eq_getElem_cons h, List.reverse_cons]))
  have HDL := hid (fun (i : Nat) => (show ((l.drop i).reverse).length ≤ 10000 by rw [List.length_reverse, List.length_drop, ← HN.out]; omega))
  have HDN := hid (show (l.drop n).reverse = [] by rw [List.drop_eq_nil_of_le (by rw [hn]; exact Nat.le_refl _)]; rfl)
  clear hA hn hall
  go_enter Tryz.func48, Tryz.ntmps48
  go_wp2_with fail
  (with_reducible refine HS.out.mono ?_); rintro e w1 ⟨hb1, v1, rfl, hr1⟩
  have hst := hr1.strs
  obtain ⟨a1, c1, rfl⟩ := hr1.shape
  have HB1 := hid hb1
  have hsz1 := hb1.size
  obtain ⟨a', c', e', hcap, hcell⟩ := hst
  simp only [Value.slice.injEq, true_and] at e'
  obtain ⟨rfl, rfl⟩ := e'
  have HC := hid hcell
  rw [← HN.out] at hcap ⊢
  clear hb1 hr1 hcell
  go_wp2_with fail
  go_loopg [7, 8] n (fun k ov iv wr => ∃ j : Nat, iv = .int .i64 ((j : Int) - 1) ∧ j ≤ n ∧ RowS w1.heap.size wr ov ((l.drop j).reverse) ∧ Below w1.heap.size w1 wr ∧ k = j)
  case atStart => exact ⟨n, rfl, Nat.le_refl _, by rw [HDN.out]; exact RowS.nil _ _, Below.refl _ _, rfl⟩
  case round =>
    obtain ⟨j, rfl, hj, hrow, hbl, hk⟩ := hrel
    replace hk := hk.symm
    subst hk
    have hsw := hbl.size
    cases j with
    | zero =>
      have hj0 := joinRA_fn _ _ wr hrow.strs (fun x hx => HXL.out x (by rw [List.mem_reverse] at hx; exact List.mem_of_mem_drop hx)) (by have := HDL.out 0; omega)
      rw [List.drop_zero, ← HA.out] at hj0
      rw [List.drop_zero] at hrow
      obtain ⟨ao, co, rfl⟩ := hrow.shape
      generalize l.reverse.length = lz at hj0 ⊢
      have HJ := hid hj0
      clear hrow hj0
      go_wp2_with fail
      (with_reducible refine HJ.out.mono ?_); rintro e w3 ⟨rfl, hb3⟩
      have HB3 := hid (HB1.out.trans ((hbl.trans (hb3.mono hsw)).mono hsz1))
      clear hb3
      go_wp2
      go_ret2
      exact ⟨rfl, HB3.out⟩
    | succ i =>
      have hin : i < n := by omega
      obtain ⟨p, rfl, hbb, hcw⟩ := HC.out i (by rw [← HN.out]; exact hin)
      have hcw1 : wr.cell? (p.add i) = some (.string ⟨(l[i]'(by rw [← HN.out]; exact hin)).toArray⟩) := by rw [hbl.cell (p := p.add i) (by rw [add_block]; exact hbb)]; exact hcw
      have hsn := HSN.out i (by rw [← HN.out]; exact hin)
      have hdl := HDL.out (i + 1)
      have hz0 : i = 0 → wr.cell? p = some (.string ⟨(l[i]'(by rw [← HN.out]; exact hin)).toArray⟩) := by
        intro h0
        subst h0
        exact hcw1
      generalize l[i]'(by rw [← HN.out]; exact hin) = x at hcw1 hsn hz0 hcw
      generalize (l.drop (i + 1)).reverse = cu at hrow hsn hdl
      have HSN2 := hid hsn
      have HROW := hid hrow
      have hdl2 : cu.length ≤ 10000000 := by omega
      have hi1 : ((i + 1 : Nat) : Int) - 1 = (i : Int) := by omega
      rw [hi1]
      obtain ⟨ao, co, rfl⟩ := hrow.shape
      clear hrow hsn hcw
      by_cases h0 : i = 0
      · subst h0
        replace hcw1 := hz0 rfl
        clear hz0
        go_wp2_with (at_builtin; go_loud (refine app_one (w := wr) rfl rfl (.tmp 25) (.tmp 30) rfl w1.heap.size _ _ x rfl HROW.out rfl hsw hdl2 ?_))
        intro v2 w2 hr2 hg2 hv2
        have HB2 := hid (hbl.grown hg2 hsw fun k hk => (HROW.out.lt k hk).2)
        have HR2 := hid hr2
        clear hr2 hg2 hv2
        go_wp2
        go_roundg 0
        case measure => omega
        case rel => exact ⟨0, by rfl, by omega, by rw [HSN2.out]; exact HR2.out, HB2.out, rfl⟩
      · clear hz0
        go_wp2_with (at_builtin; go_loud (refine app_one (w := wr) rfl rfl (.tmp 25) (.tmp 30) rfl w1.heap.size _ _ x rfl HROW.out rfl hsw hdl2 ?_))
        intro v2 w2 hr2 hg2 hv2
        have HB2 := hid (hbl.grown hg2 hsw fun k hk => (HROW.out.lt k hk).2)
        have HR2 := hid hr2
        clear hr2 hg2 hv2
        go_wp2
        go_roundg i
        case measure => omega
        case rel => exact ⟨i, rfl, by omega, by rw [HSN2.out]; exact HR2.out, HB2.out, rfl⟩
set_option maxRecDepth 100000 in
set_option maxHeartbeats 2000000 in
theorem replaceR_fn (s f t : Str) (wl : List Str) (wv : Value) (w : World) (hs : s.length ≤ 1000000) (hf : f.length ≤ 1000000) (ht : t.length ≤ 1000000) (hwv : StrsAt w wv wl) (hnil : ∀ n c, wv = .slice none n c → c = 0) (hwl : wl.length ≤ 100000) (hwx : ∀ x ∈ wl, x.length ≤ 1000000) :
    Calls Tryz.prog 44 #[.string ⟨s.toArray⟩, .string ⟨f.toArray⟩, .string ⟨t.toArray⟩, wv] w fun e w' => e = .returned (.tuple #[.string ⟨(replaceE s f t wl).1.toArray⟩, .int .i64 (replaceE s f t wl).2]) ∧ Below w.heap.size w w' := by
  have hmx : Tryz.prog.follows .mixedOrders = true := by kernel_rfl
  have hwv0 := hwv
  obtain ⟨aw, cw, rfl, _, _⟩ := hwv
  replace hwv := hwv0
  clear hwv0
  rcases bad_or s f with ⟨E, hE⟩ | ⟨h0, za, hza⟩
  · have HB := hid (boundsBad_fn s f t E hs hf hE w)
    obtain ⟨_, hEb, hr⟩ := rangeE_bad (t := t) hE
    rw [hr]
    clear hE hr hwv hnil hwx
    go_enter Tryz.func44, Tryz.ntmps44
    go_wp2_with fail
    (with_reducible refine HB.out.mono ?_); rintro e w1 ⟨rfl, hb⟩
    have HB1 := hid hb
    clear hb
    go_wp2
    go_ret2
    exact ⟨rfl, HB1.out⟩
  have HB := hid (boundsOk_fn s f t hs hf ht h0 za hza w)
  have hlen := (splitE_out s).2.1
  have hall := split_all2 s hs
  have hzab := placeE_le hza (by omega)
  obtain ⟨A, hA⟩ : ∃ A, A = replaceE s f t wl := ⟨_, rfl⟩
  rw [← hA]
  rw [replaceE, chE, if_neg (by rw [h0]; simp), okE, hza, Option.isSome_some, Bool.true_and] at hA
  have hlo : loE (splitE s).1.length f = (min (max za 0) ((splitE s).1.length : Int)).toNat := by unfold loE; rw [hza]; rfl
  have hhi : hiE (splitE s).1.length f t = max (loE (splitE s).1.length f) (min (plZ (placeE t ((splitE s).1.length : Nat))) (((splitE s).1.length : Int) - 1) + 1).toNat := rfl
  rw [hhi, hlo] at hA
  generalize (splitE s).1 = l at HB hlen hall hA
  obtain ⟨n, hn⟩ : ∃ n, n = l.length := ⟨_, rfl⟩
  have HN := hid hn
  rw [← hn] at HB hlen hA
  have htb : -2000000000 ≤ plZ (placeE t (n : Nat)) ∧ plZ (placeE t (n : Nat)) ≤ 2000000000 := by
    cases h : placeE t (n : Nat) with
    | none => exact ⟨by decide, by decide⟩
    | some z => exact placeE_le h (by omega)
  obtain ⟨A1, A2⟩ := A
  dsimp only
  have HXL := hid hall
  clear h0 hza hlo hhi hall
  cases hto : (placeE t (n : Nat)).isSome with
  | false =>
    rw [hto] at hA
    have HA := hid (show (A1, A2) = ([], 2) from hA)
    have hpe : plE (placeE t (n : Nat)) = 2 := by unfold plE; rw [hto]; rfl
    rw [hpe] at HB
    generalize plZ (placeE t (n : Nat)) = zb at HB htb
    clear hA hto hpe hwv hnil hwx hn
    go_enter Tryz.func44, Tryz.ntmps44
    go_wp2_with fail
    (with_reducible refine HB.out.mono ?_); rintro e w1 ⟨hb, v, hr, rfl⟩
    obtain ⟨a1, c1, rfl⟩ := hr.shape
    have HB1 := hid hb
    clear hb hr
    go_wp2
    go_ret2
    exact ⟨by obtain ⟨e1, e2⟩ := Prod.mk.inj HA.out; rw [e1, e2] <;> rfl, HB1.out⟩
  | true =>
    rw [hto, if_pos rfl, if_neg (by simp)] at hA
    have hpe : plE (placeE t (n : Nat)) = 0 := by unfold plE; rw [hto]; rfl
    rw [hpe] at HB
    generalize plZ (placeE t (n : Nat)) = zb at HB htb hA
    obtain ⟨a0, ha0⟩ : ∃ a0 : Nat, max za 0 = (a0 : Int) := ⟨(max za 0).toNat, by omega⟩
    obtain ⟨bt, hbt⟩ : ∃ bt, bt = min zb ((n : Int) - 1) := ⟨_, rfl⟩
    rw [← hbt] at HB hA
    rw [ha0] at HB hA
    have hbtn : bt ≤ (n : Int) - 1 := by omega
    have hbtl : -2000000000 ≤ bt := by omega
    have ha0b : a0 ≤ 2000000000 := by omega
    have HWV := hid (fun u (h : Below w.heap.size w u) => hwv.below h)
    have HWX := hid hwx
    by_cases hgt : (a0 : Int) > bt
    · obtain ⟨lo, hlo⟩ : ∃ lo : Nat, min (a0 : Int) (n : Int) = (lo : Int) := ⟨(min (a0 : Int) (n : Int)).toNat, by omega⟩
      have hlon : lo ≤ n := by omega
      have e1 : (min (a0 : Int) (n : Int)).toNat = lo := by omega
      have e2 : max lo (bt + 1).toNat = lo := by omega
      rw [e1, e2] at hA
      have HA := hid hA
      clear hA hto hpe hbt hzab htb ha0 e1 e2 hwv hwx
      go_enter Tryz.func44, Tryz.ntmps44
      go_wp2_with fail
      (with_reducible refine HB.out.mono ?_); rintro e w1 ⟨hb, v, hr, rfl⟩
      have HBU := hid hb
      have HBD := hid (show Below w.heap.size w w1.drew from hb.drew)
      have hst := hr.strs
      rcases row_cap hr with ⟨g, c, rfl, hc⟩ | ⟨rfl, rfl⟩
      · have hj := fun (u : World) (h : Below w1.heap.size w1 u) => parts3_joined u _ (.slice aw wl.length cw) _ (l.take lo) wl (l.drop lo) (strs_take (hst.below h) (by rw [← hn]; exact hlon)) (HWV.out u (HBU.out.trans (h.mono HBU.out.size))) (strs_drop (hst.below h) (by rw [← hn]; exact hlon)) nil_some hnil nil_if (by rw [List.length_take, List.length_drop]; omega) (fun x hx => by
          rcases List.mem_append.1 hx with h1 | h1
          · exact HXL.out x (List.mem_of_mem_take h1)
          · rcases List.mem_append.1 h1 with h2 | h2
            · exact HWX.out x h2
            · exact HXL.out x (List.mem_of_mem_drop h2))
        have hA2 : joinRes (l.take lo ++ (wl ++ l.drop lo)) = (A1, A2) := HA.out.symm
        rw [hA2] at hj
        rw [← hn] at hj hc ⊢
        have HCC0 := hid hj
        have HCC := hid (fun (u : World) (h : Below w.heap.size w u) (h2 : Below w1.heap.size w1 u) => HCC0.out u h2)
        have hBelow1 : Below w1.heap.size w1 w1.drew := (Below.refl _ _).drew
        clear hb hr hst hj hA2 hnil hn
        have S0 : Hid ((fun u : World => True) w1.drew) := hid trivial
        go_wp2
        refine U_begin (late := fun k => decide (7 ≤ k)) (S := fun u : World => True) hmx ?_
        refine U_take3 8 (i := 0) (v := .slice (some ⟨g, 0, none⟩) n c) rfl (by kernel_rfl) (by kernel_rfl) (by kernel_rfl) (by kernel_rfl) (by kernel_rfl) (fun _ _ _ h => h) (.inl ⟨rfl, fun u hu => (by go_simp)⟩) S0.out ?_
        refine U_take3 8 (i := 1) (v := .int .i64 (lo : Nat)) rfl (by kernel_rfl) (by kernel_rfl) (by kernel_rfl) (by kernel_rfl) (by kernel_rfl) (fun _ _ _ h => h) (.inl ⟨rfl, fun u hu => (by go_simp)⟩) S0.out ?_
        refine U_take3 8 (i := 2) (v := .slice (some ⟨g, 0, none⟩) lo c) rfl (by kernel_rfl) (by kernel_rfl) (by kernel_rfl) (by kernel_rfl) (by kernel_rfl) (fun _ _ _ h => h) (.inl ⟨rfl, fun u hu => (by go_simp; try omega)⟩) S0.out ?_
        refine U_take3 8 (i := 3) (v := .slice aw wl.length cw) rfl (by kernel_rfl) (by kernel_rfl) (by kernel_rfl) (by kernel_rfl) (by kernel_rfl) (fun _ _ _ h => h) (.inl ⟨rfl, fun u hu => (by go_simp)⟩) S0.out ?_
        refine U_take3 8 (i := 4) (v := .slice (some ⟨g, 0, none⟩) n c) rfl (by kernel_rfl) (by kernel_rfl) (by kernel_rfl) (by kernel_rfl) (by kernel_rfl) (fun _ _ _ h => h) (.inl ⟨rfl, fun u hu => (by go_simp)⟩) S0.out ?_
        refine U_take3 8 (i := 5) (v := .int .i64 (lo : Nat)) rfl (by kernel_rfl) (by kernel_rfl) (by kernel_rfl) (by kernel_rfl) (by kernel_rfl) (fun _ _ _ h => h) (.inl ⟨rfl, fun u hu => (by go_simp)⟩) S0.out ?_
        refine U_take3 8 (i := 6) (v := .slice (if c = lo then some ⟨g, 0, none⟩ else some ⟨g, lo, none⟩) (n - lo) (c - lo)) rfl (by kernel_rfl) (by kernel_rfl) (by kernel_rfl) (by kernel_rfl) (by kernel_rfl) (fun _ _ _ h => h) (.inl ⟨rfl, fun u hu => (by go_simp; try omega)⟩) S0.out ?_
        refine U_step (j := 7) (by kernel_rfl) rfl (fun K hK => ?_)
        go_simp
        refine hK.out _ _ (.inl rfl) ?_
        clear hK K
        refine U_step (j := 8) (by kernel_rfl) rfl (fun K hK => ?_)
        go_simp
        refine (HCC0.out w1.drew hBelow1).mono ?_
        rintro e w3 ⟨rfl, hb3⟩
        have HB3 := hid (HBD.out.trans (hb3.mono HBD.out.size))
        refine hK.out _ _ (.inl rfl) ?_
        clear hK K hb3
        refine U_pure 8 (i := 9) (v := .string ⟨A1.toArray⟩) rfl (by kernel_rfl) (by kernel_rfl) (by kernel_rfl) (by kernel_rfl) (by kernel_rfl) (fun _ _ _ h => h) (.inl ⟨rfl, fun u hu => (by go_simp)⟩) ?_
        refine U_pure 8 (i := 10) (v := .int .i64 A2) rfl (by kernel_rfl) (by kernel_rfl) (by kernel_rfl) (by kernel_rfl) (by kernel_rfl) (fun _ _ _ h => h) (.inl ⟨rfl, fun u hu => (by go_simp)⟩) ?_
        refine U_step (j := 11) (by kernel_rfl) rfl (fun K hK => ?_)
        go_simp
        refine hK.out _ _ (.inl rfl) ?_
        clear hK K
        refine U_step (j := 12) (by kernel_rfl) rfl (fun K hK => ?_)
        go_simp
        refine hK.out _ _ (.inl rfl) ?_
        clear hK K
        refine U_done (by kernel_rfl) ?_ _
        clear S0
        go_wp2
        all_goals go_ret2
        all_goals exact ⟨rfl, HB3.out⟩
      · have hn0 : n = 0 := by rw [hn]; rfl
        subst hn0
        have hlo0 : lo = 0 := by omega
        subst hlo0
        have hj := fun (u : World) (h : Below w1.heap.size w1 u) => parts3_joined u (.slice none 0 0) (.slice aw wl.length cw) (.slice none 0 0) [] wl [] strs_none (HWV.out u (HBU.out.trans (h.mono HBU.out.size))) strs_none nil_none hnil nil_none (by simp; omega) (fun x hx => HWX.out x (by simpa using hx))
        have hA2 : joinRes ([] ++ (wl ++ [])) = (A1, A2) := HA.out.symm
        rw [hA2] at hj
        have HCC0 := hid hj
        have hBelow1 : Below w1.heap.size w1 w1.drew := (Below.refl _ _).drew
        have hlo2 : min (a0 : Int) 0 = 0 := by omega
        clear hb hr hst hj hA2 hnil hn hlo
        have S0 : Hid ((fun u : World => True) w1.drew) := hid trivial
        go_wp2
        refine U_begin (late := fun k => decide (7 ≤ k)) (S := fun u : World => True) hmx ?_
        refine U_take3 8 (i := 0) (v := .slice none 0 0) rfl (by kernel_rfl) (by kernel_rfl) (by kernel_rfl) (by kernel_rfl) (by kernel_rfl) (fun _ _ _ h => h) (.inl ⟨rfl, fun u hu => (by go_simp)⟩) S0.out ?_
        refine U_take3 8 (i := 1) (v := .int .i64 0) rfl (by kernel_rfl) (by kernel_rfl) (by kernel_rfl) (by kernel_rfl) (by kernel_rfl) (fun _ _ _ h => h) (.inl ⟨rfl, fun u hu => (by go_simp)⟩) S0.out ?_
        refine U_take3 8 (i := 2) (v := .slice none 0 0) rfl (by kernel_rfl) (by kernel_rfl) (by kernel_rfl) (by kernel_rfl) (by kernel_rfl) (fun _ _ _ h => h) (.inl ⟨rfl, fun u hu => (by go_simp)⟩) S0.out ?_
        refine U_take3 8 (i := 3) (v := .slice aw wl.length cw) rfl (by kernel_rfl) (by kernel_rfl) (by kernel_rfl) (by kernel_rfl) (by kernel_rfl) (fun _ _ _ h => h) (.inl ⟨rfl, fun u hu => (by go_simp)⟩) S0.out ?_
        refine U_take3 8 (i := 4) (v := .slice none 0 0) rfl (by kernel_rfl) (by kernel_rfl) (by kernel_rfl) (by kernel_rfl) (by kernel_rfl) (fun _ _ _ h => h) (.inl ⟨rfl, fun u hu => (by go_simp)⟩) S0.out ?_
        refine U_take3 8 (i := 5) (v := .int .i64 0) rfl (by kernel_rfl) (by kernel_rfl) (by kernel_rfl) (by kernel_rfl) (by kernel_rfl) (fun _ _ _ h => h) (.inl ⟨rfl, fun u hu => (by go_simp)⟩) S0.out ?_
        refine U_take3 8 (i := 6) (v := .slice none 0 0) rfl (by kernel_rfl) (by kernel_rfl) (by kernel_rfl) (by kernel_rfl) (by kernel_rfl) (fun _ _ _ h => h) (.inl ⟨rfl, fun u hu => (by go_simp)⟩) S0.out ?_
        refine U_step (j := 7) (by kernel_rfl) rfl (fun K hK => ?_)
        go_simp
        refine hK.out _ _ (.inl rfl) ?_
        clear hK K
        refine U_step (j := 8) (by kernel_rfl) rfl (fun K hK => ?_)
        go_simp
        refine (HCC0.out w1.drew hBelow1).mono ?_
        rintro e w3 ⟨rfl, hb3⟩
        have HB3 := hid (HBD.out.trans (hb3.mono HBD.out.size))
        refine hK.out _ _ (.inl rfl) ?_
        clear hK K hb3
        refine U_pure 8 (i := 9) (v := .string ⟨A1.toArray⟩) rfl (by kernel_rfl) (by kernel_rfl) (by kernel_rfl) (by kernel_rfl) (by kernel_rfl) (fun _ _ _ h => h) (.inl ⟨rfl, fun u hu => (by go_simp)⟩) ?_
        refine U_pure 8 (i := 10) (v := .int .i64 A2) rfl (by kernel_rfl) (by kernel_rfl) (by kernel_rfl) (by kernel_rfl) (by kernel_rfl) (fun _ _ _ h => h) (.inl ⟨rfl, fun u hu => (by go_simp)⟩) ?_
        refine U_step (j := 11) (by kernel_rfl) rfl (fun K hK => ?_)
        go_simp
        refine hK.out _ _ (.inl rfl) ?_
        clear hK K
        refine U_step (j := 12) (by kernel_rfl) rfl (fun K hK => ?_)
        go_simp
        refine hK.out _ _ (.inl rfl) ?_
        clear hK K
        refine U_done (by kernel_rfl) ?_ _
        clear S0
        go_wp2
        all_goals go_ret2
        all_goals exact ⟨rfl, HB3.out⟩
    · have hle : (a0 : Int) ≤ bt := by omega
      obtain ⟨hi, hhi⟩ : ∃ hi : Nat, bt = (hi : Int) - 1 := ⟨(bt + 1).toNat, by omega⟩
      subst hhi
      have hlohi : a0 ≤ hi := by omega
      have hhin : hi ≤ n := by omega
      have e1 : (min (a0 : Int) (n : Int)).toNat = a0 := by omega
      have e2 : max a0 ((hi : Int) - 1 + 1).toNat = hi := by omega
      rw [e1, e2] at hA
      have HA := hid hA
      have hhi1 : (hi : Int) - 1 + 1 = (hi : Int) := by omega
      clear hA hto hpe hbt hzab htb ha0 e1 e2 hwv hwx
      go_enter Tryz.func44, Tryz.ntmps44
      go_wp2_with fail
      (with_reducible refine HB.out.mono ?_); rintro e w1 ⟨hb, v, hr, rfl⟩
      have HBU := hid hb
      have HBD := hid (show Below w.heap.size w w1.drew from hb.drew)
      have hst := hr.strs
      rcases row_cap hr with ⟨g, c, rfl, hc⟩ | ⟨rfl, rfl⟩
      · have hj := fun (u : World) (h : Below w1.heap.size w1 u) => parts3_joined u _ (.slice aw wl.length cw) _ (l.take a0) wl (l.drop hi) (strs_take (hst.below h) (by rw [← hn]; omega)) (HWV.out u (HBU.out.trans (h.mono HBU.out.size))) (strs_drop (hst.below h) (by rw [← hn]; exact hhin)) nil_some hnil nil_if (by rw [List.length_take, List.length_drop]; omega) (fun x hx => by
          rcases List.mem_append.1 hx with h1 | h1
          · exact HXL.out x (List.mem_of_mem_take h1)
          · rcases List.mem_append.1 h1 with h2 | h2
            · exact HWX.out x h2
            · exact HXL.out x (List.mem_of_mem_drop h2))
        have hA2 : joinRes (l.take a0 ++ (wl ++ l.drop hi)) = (A1, A2) := HA.out.symm
        rw [hA2] at hj
        rw [← hn] at hj hc ⊢
        have HCC0 := hid hj
        have hBelow1 : Below w1.heap.size w1 w1.drew := (Below.refl _ _).drew
        clear hb hr hst hj hA2 hnil hn
        have S0 : Hid ((fun u : World => True) w1.drew) := hid trivial
        go_wp2
        refine U_begin (late := fun k => decide (8 ≤ k)) (S := fun u : World => True) hmx ?_
        refine U_take3 8 (i := 0) (v := .slice (some ⟨g, 0, none⟩) n c) rfl (by kernel_rfl) (by kernel_rfl) (by kernel_rfl) (by kernel_rfl) (by kernel_rfl) (fun _ _ _ h => h) (.inl ⟨rfl, fun u hu => (by go_simp)⟩) S0.out ?_
        refine U_take3 8 (i := 1) (v := .int .i64 (a0 : Nat)) rfl (by kernel_rfl) (by kernel_rfl) (by kernel_rfl) (by kernel_rfl) (by kernel_rfl) (fun _ _ _ h => h) (.inl ⟨rfl, fun u hu => (by go_simp)⟩) S0.out ?_
        refine U_take3 8 (i := 2) (v := .slice (some ⟨g, 0, none⟩) a0 c) rfl (by kernel_rfl) (by kernel_rfl) (by kernel_rfl) (by kernel_rfl) (by kernel_rfl) (fun _ _ _ h => h) (.inl ⟨rfl, fun u hu => (by go_simp; try omega)⟩) S0.out ?_
        refine U_take3 8 (i := 3) (v := .slice aw wl.length cw) rfl (by kernel_rfl) (by kernel_rfl) (by kernel_rfl) (by kernel_rfl) (by kernel_rfl) (fun _ _ _ h => h) (.inl ⟨rfl, fun u hu => (by go_simp)⟩) S0.out ?_
        refine U_take3 8 (i := 4) (v := .slice (some ⟨g, 0, none⟩) n c) rfl (by kernel_rfl) (by kernel_rfl) (by kernel_rfl) (by kernel_rfl) (by kernel_rfl) (fun _ _ _ h => h) (.inl ⟨rfl, fun u hu => (by go_simp)⟩) S0.out ?_
        refine U_take3 8 (i := 5) (v := .int .i64 ((hi : Int) - 1)) rfl (by kernel_rfl) (by kernel_rfl) (by kernel_rfl) (by kernel_rfl) (by kernel_rfl) (fun _ _ _ h => h) (.inl ⟨rfl, fun u hu => (by go_simp)⟩) S0.out ?_
        refine U_take3 8 (i := 6) (v := .int .i64 (hi : Nat)) rfl (by kernel_rfl) (by kernel_rfl) (by kernel_rfl) (by kernel_rfl) (by kernel_rfl) (fun _ _ _ h => h) (.inl ⟨rfl, fun u hu => (by go_simp; exact IntWalk.i64_in _ (by omega))⟩) S0.out ?_
        refine U_take3 8 (i := 7) (v := .slice (if c = hi then some ⟨g, 0, none⟩ else some ⟨g, hi, none⟩) (n - hi) (c - hi)) rfl (by kernel_rfl) (by kernel_rfl) (by kernel_rfl) (by kernel_rfl) (by kernel_rfl) (fun _ _ _ h => h) (.inl ⟨rfl, fun u hu => (by go_simp; try omega)⟩) S0.out ?_
        refine U_step (j := 8) (by kernel_rfl) rfl (fun K hK => ?_)
        go_simp
        refine hK.out _ _ (.inl rfl) ?_
        clear hK K
        refine U_step (j := 9) (by kernel_rfl) rfl (fun K hK => ?_)
        go_simp
        refine (HCC0.out w1.drew hBelow1).mono ?_
        rintro e w3 ⟨rfl, hb3⟩
        have HB3 := hid (HBD.out.trans (hb3.mono HBD.out.size))
        refine hK.out _ _ (.inl rfl) ?_
        clear hK K hb3
        refine U_pure 8 (i := 10) (v := .string ⟨A1.toArray⟩) rfl (by kernel_rfl) (by kernel_rfl) (by kernel_rfl) (by kernel_rfl) (by kernel_rfl) (fun _ _ _ h => h) (.inl ⟨rfl, fun u hu => (by go_simp)⟩) ?_
        refine U_pure 8 (i := 11) (v := .int .i64 A2) rfl (by kernel_rfl) (by kernel_rfl) (by kernel_rfl) (by kernel_rfl) (by kernel_rfl) (fun _ _ _ h => h) (.inl ⟨rfl, fun u hu => (by go_simp)⟩) ?_
        refine U_step (j := 12) (by kernel_rfl) rfl (fun K hK => ?_)
        go_simp
        refine hK.out _ _ (.inl rfl) ?_
        clear hK K
        refine U_step (j := 13) (by kernel_rfl) rfl (fun K hK => ?_)
        go_simp
        refine hK.out _ _ (.inl rfl) ?_
        clear hK K
        refine U_done (by kernel_rfl) ?_ _
        clear S0
        go_wp2
        all_goals go_ret2
        all_goals exact ⟨rfl, HB3.out⟩
      · exfalso
        have hn0 : n = 0 := by rw [hn]; rfl
        omega
end Go.Proofs.YtheiageokcgbhaaGreatDoor.Pz
/-
  The reference's Insert.
-/
namespace Go.Proofs.YtheiageokcgbhaaGreatDoor.Pz
open Go.RowKit
theorem placeE_num2 {w : Str} (h : tEnd.isPrefixOf w = false) (n m : Int) : placeE w n = placeE w m := by
  unfold placeE
  rw [if_neg (by rw [h]; simp), if_neg (by rw [h]; simp)]
theorem firstI_ge (n : Str) (f : Int) : ∀ (s : Str) (i : Nat), firstI n f i s = -1 ∨ (i : Int) ≤ firstI n f i s
  | [], _ => .inl rfl
  | c :: t, i => by
    rw [firstI]
    split
    · exact .inr (Int.le_refl _)
    · rcases firstI_ge n f t (i + 1) with h | h
      · exact .inl h
      · exact .inr (by omega)
theorem first_end (a : Str) : (firstI tEnd 0 0 a == 0) = tEnd.isPrefixOf a := by
  cases a with
  | nil => rfl
  | cons c t =>
    rw [firstI]
    cases hp : tEnd.isPrefixOf (c :: t) with
    | true => rfl
    | false =>
      rw [Bool.and_false, if_neg (by simp), beq_eq_false_iff_ne]
      rcases firstI_ge tEnd 0 t (0 + 1) with h | h
      · rw [h]; decide
      · omega
set_option maxRecDepth 100000 in
set_option maxHeartbeats 2000000 in
theorem insertR_fn (s f : Str) (wl : List Str) (wv : Value) (w : World) (hs : s.length ≤ 1000000) (hf : f.length ≤ 1000000) (hwv : StrsAt w wv wl) (hnil : ∀ n c, wv = .slice none n c → c = 0) (hwl : wl.length ≤ 100000) (hwx : ∀ x ∈ wl, x.length ≤ 1000000) :
    Calls Tryz.prog 46 #[.string ⟨s.toArray⟩, .string ⟨f.toArray⟩, wv] w fun e w' => e = .returned (.tuple #[.string ⟨(insertE s f wl).1.toArray⟩, .int .i64 (insertE s f wl).2]) ∧ Below w.heap.size w w' := by
  have hmx : Tryz.prog.follows .mixedOrders = true := by kernel_rfl
  have hwv0 := hwv
  obtain ⟨aw, cw, rfl, _, _⟩ := hwv
  replace hwv := hwv0
  clear hwv0
  have HS := hid (splitR_fn s hs w)
  have hlen := (splitE_out s).2.1
  have hall := split_all2 s hs
  obtain ⟨A, hA⟩ : ∃ A, A = insertE s f wl := ⟨_, rfl⟩
  rw [← hA]
  rw [insertE, chE] at hA
  generalize splitE s = r at HS hlen hall hA
  obtain ⟨l, at0, er⟩ := r
  dsimp only at HS hlen hall hA
  obtain ⟨A1, A2⟩ := A
  dsimp only
  by_cases her : er = 0
  case neg =>
    rw [if_pos her] at hA
    have HA := hid hA
    have heb : (er != 0) = true := by simpa using her
    clear hA her hall hwv hnil hwx
    go_enter Tryz.func46, Tryz.ntmps46
    go_wp2_with fail
    (with_reducible refine HS.out.mono ?_); rintro e w1 ⟨hb1, v1, rfl, hr1⟩
    have HB1 := hid hb1
    clear hb1 hr1
    go_wp2
    go_ret2
    exact ⟨by obtain ⟨e1, e2⟩ := Prod.mk.inj HA.out; rw [e1, e2] <;> rfl, HB1.out⟩
  subst her
  rw [if_neg (by simp)] at hA
  obtain ⟨n, hn⟩ : ∃ n, n = l.length := ⟨_, rfl⟩
  have HN := hid hn
  rw [← hn] at hlen hA
  have HXL := hid hall
  have hfi := fun u => first_fn tEnd f 0 (by decide) (by omega) (by decide) u
  have hfe := first_end f
  obtain ⟨I, hI⟩ : ∃ I, I = firstI tEnd 0 0 f := ⟨_, rfl⟩
  rw [← hI] at hfi hfe
  unfold tEnd at hfi
  have HFI := hid hfi
  have hzb : -2000000000 ≤ plZ (placeE f ((n + 1 : Nat) : Int)) ∧ plZ (placeE f ((n + 1 : Nat) : Int)) ≤ 2000000000 := by
    cases h : placeE f ((n + 1 : Nat) : Int) with
    | none => exact ⟨by decide, by decide⟩
    | some z => exact placeE_le h (by omega)
  have hpl : ∃ n', (if tEnd.isPrefixOf f then n' = n + 1 else n' = n) ∧ placeE f (n' : Nat) = placeE f ((n + 1 : Nat) : Int) := by
    cases hp : tEnd.isPrefixOf f with
    | true => exact ⟨n + 1, by simp, rfl⟩
    | false => exact ⟨n, by simp, placeE_num2 hp _ _⟩
  obtain ⟨n', hn', hpe⟩ := hpl
  have hnb' : n' ≤ 1000001 := by split at hn' <;> omega
  have HPL := hid (fun u => placeRef_fn f n' hf hnb' u)
  simp only [plAns_eq] at HPL
  rw [hpe] at HPL
  have hlo := insE_le n f
  have hmn : min (max (plZ (placeE f ((n + 1 : Nat) : Int))) 0) (n : Int) = (insE n f : Nat) := by unfold insE; omega
  have he2 : plE (placeE f ((n + 1 : Nat) : Int)) = 0 ∨ plE (placeE f ((n + 1 : Nat) : Int)) = 2 := by cases placeE f ((n + 1 : Nat) : Int) <;> simp [plE]
  unfold midL at hA
  generalize plZ (placeE f ((n + 1 : Nat) : Int)) = z at HPL hmn hzb
  generalize plE (placeE f ((n + 1 : Nat) : Int)) = pe at HPL he2 hA
  generalize insE n f = lo at hmn hlo hA
  have HWV := hid (fun u (h : Below w.heap.size w u) => hwv.below h)
  have HWX := hid hwx
  have HA := hid hA
  clear hall hA hwv hwx hI hfi hpe
  cases hp : tEnd.isPrefixOf f with
  | true =>
    rw [hp] at hfe hn'
    rw [if_pos rfl] at hn'
    subst hn'
    have HP1 := hid (fun u => (show Calls Tryz.prog 79 #[.string ⟨f.toArray⟩, .int .i64 ((n : Int) + 1)] u fun e w' => e = .returned (.tuple #[.int .i64 z, .int .i64 pe]) ∧ w' = u from HPL.out u))
    clear HPL hp
    rcases he2 with rfl | rfl
    · rw [if_neg (by simp)] at HA
      go_enter Tryz.func46, Tryz.ntmps46
      go_wp2_with fail
      (with_reducible refine HS.out.mono ?_); rintro e w1 ⟨hb, v, rfl, hr⟩
      have HBU := hid hb
      have hBelow1 : Below w1.heap.size w1 w1.drew := (Below.refl _ _).drew
      have HBD := hid (show Below w.heap.size w w1.drew from hb.drew)
      have hst := hr.strs
      have h1 := HFI.out w1
      have h2 := HP1.out w1
      rcases row_cap hr with ⟨g, c, rfl, hc⟩ | ⟨rfl, rfl⟩
      · have hj := fun (u : World) (h : Below w1.heap.size w1 u) => parts3_joined u _ (.slice aw wl.length cw) _ (l.take lo) wl (l.drop lo) (strs_take (hst.below h) (by rw [← hn]; exact hlo)) (HWV.out u (HBU.out.trans (h.mono HBU.out.size))) (strs_drop (hst.below h) (by rw [← hn]; exact hlo)) nil_some hnil nil_if (by rw [List.length_take, List.length_drop]; omega) (fun x hx => by
          rcases List.mem_append.1 hx with h1 | h1
          · exact HXL.out x (List.mem_of_mem_take h1)
          · rcases List.mem_append.1 h1 with h2 | h2
            · exact HWX.out x h2
            · exact HXL.out x (List.mem_of_mem_drop h2))
        have hA2 : joinRes (l.take lo ++ (wl ++ l.drop lo)) = (A1, A2) := HA.out.symm
        rw [hA2] at hj
        rw [← hn] at hj hc ⊢
        have HCC0 := hid hj
        clear hb hr hst hj hA2 hnil hn
        go_wp2_with fail
        (with_reducible refine h1.mono ?_); rintro e w2 ⟨rfl, hw⟩; subst w2
        go_wp2_with fail
        (with_reducible refine h2.mono ?_); rintro e w2 ⟨rfl, hw⟩; subst w2
        have S0 : Hid ((fun u : World => True) w1.drew) := hid trivial
        go_wp2
        refine U_begin (late := fun k => decide (7 ≤ k)) (S := fun u : World => True) hmx ?_
        refine U_take3 8 (i := 0) (v := .slice (some ⟨g, 0, none⟩) n c) rfl (by kernel_rfl) (by kernel_rfl) (by kernel_rfl) (by kernel_rfl) (by kernel_rfl) (fun _ _ _ h => h) (.inl ⟨rfl, fun u hu => (by go_simp)⟩) S0.out ?_
        refine U_take3 8 (i := 1) (v := .int .i64 (lo : Nat)) rfl (by kernel_rfl) (by kernel_rfl) (by kernel_rfl) (by kernel_rfl) (by kernel_rfl) (fun _ _ _ h => h) (.inl ⟨rfl, fun u hu => (by go_simp)⟩) S0.out ?_
        refine U_take3 8 (i := 2) (v := .slice (some ⟨g, 0, none⟩) lo c) rfl (by kernel_rfl) (by kernel_rfl) (by kernel_rfl) (by kernel_rfl) (by kernel_rfl) (fun _ _ _ h => h) (.inl ⟨rfl, fun u hu => (by go_simp; try omega)⟩) S0.out ?_
        refine U_take3 8 (i := 3) (v := .slice aw wl.length cw) rfl (by kernel_rfl) (by kernel_rfl) (by kernel_rfl) (by kernel_rfl) (by kernel_rfl) (fun _ _ _ h => h) (.inl ⟨rfl, fun u hu => (by go_simp)⟩) S0.out ?_
        refine U_take3 8 (i := 4) (v := .slice (some ⟨g, 0, none⟩) n c) rfl (by kernel_rfl) (by kernel_rfl) (by kernel_rfl) (by kernel_rfl) (by kernel_rfl) (fun _ _ _ h => h) (.inl ⟨rfl, fun u hu => (by go_simp)⟩) S0.out ?_
        refine U_take3 8 (i := 5) (v := .int .i64 (lo : Nat)) rfl (by kernel_rfl) (by kernel_rfl) (by kernel_rfl) (by kernel_rfl) (by kernel_rfl) (fun _ _ _ h => h) (.inl ⟨rfl, fun u hu => (by go_simp)⟩) S0.out ?_
        refine U_take3 8 (i := 6) (v := .slice (if c = lo then some ⟨g, 0, none⟩ else some ⟨g, lo, none⟩) (n - lo) (c - lo)) rfl (by kernel_rfl) (by kernel_rfl) (by kernel_rfl) (by kernel_rfl) (by kernel_rfl) (fun _ _ _ h => h) (.inl ⟨rfl, fun u hu => (by go_simp; try omega)⟩) S0.out ?_
        refine U_step (j := 7) (by kernel_rfl) rfl (fun K hK => ?_)
        go_simp
        refine hK.out _ _ (.inl rfl) ?_
        clear hK K
        refine U_step (j := 8) (by kernel_rfl) rfl (fun K hK => ?_)
        go_simp
        refine (HCC0.out w1.drew hBelow1).mono ?_
        rintro e w3 ⟨rfl, hb3⟩
        have HB3 := hid (HBD.out.trans (hb3.mono HBD.out.size))
        refine hK.out _ _ (.inl rfl) ?_
        clear hK K hb3
        refine U_pure 8 (i := 9) (v := .string ⟨A1.toArray⟩) rfl (by kernel_rfl) (by kernel_rfl) (by kernel_rfl) (by kernel_rfl) (by kernel_rfl) (fun _ _ _ h => h) (.inl ⟨rfl, fun u hu => (by go_simp)⟩) ?_
        refine U_pure 8 (i := 10) (v := .int .i64 A2) rfl (by kernel_rfl) (by kernel_rfl) (by kernel_rfl) (by kernel_rfl) (by kernel_rfl) (fun _ _ _ h => h) (.inl ⟨rfl, fun u hu => (by go_simp)⟩) ?_
        refine U_step (j := 11) (by kernel_rfl) rfl (fun K hK => ?_)
        go_simp
        refine hK.out _ _ (.inl rfl) ?_
        clear hK K
        refine U_step (j := 12) (by kernel_rfl) rfl (fun K hK => ?_)
        go_simp
        refine hK.out _ _ (.inl rfl) ?_
        clear hK K
        refine U_done (by kernel_rfl) ?_ _
        clear S0
        go_wp2
        all_goals go_ret2
        all_goals exact ⟨rfl, HB3.out⟩
      · have hn0 : n = 0 := by rw [hn]; rfl
        subst hn0
        have hlo0 : lo = 0 := by omega
        subst hlo0
        have hj := fun (u : World) (h : Below w1.heap.size w1 u) => parts3_joined u (.slice none 0 0) (.slice aw wl.length cw) (.slice none 0 0) [] wl [] strs_none (HWV.out u (HBU.out.trans (h.mono HBU.out.size))) strs_none nil_none hnil nil_none (by simp; omega) (fun x hx => HWX.out x (by simpa using hx))
        have hA2 : joinRes ([] ++ (wl ++ [])) = (A1, A2) := HA.out.symm
        rw [hA2] at hj
        have HCC0 := hid hj
        have hmn0 : min (max z 0) 0 = 0 := by omega
        have h20 := h2
        simp only [Int.natCast_zero] at h20
        try rw [Int.zero_add] at h20
        clear hb hr hst hj hA2 hnil hn hmn h2
        go_wp2_with fail
        (with_reducible refine h1.mono ?_); rintro e w2 ⟨rfl, hw⟩; subst w2
        go_wp2_with fail
        (with_reducible refine h20.mono ?_); rintro e w2 ⟨rfl, hw⟩; subst w2
        have S0 : Hid ((fun u : World => True) w1.drew) := hid trivial
        go_wp2
        refine U_begin (late := fun k => decide (7 ≤ k)) (S := fun u : World => True) hmx ?_
        refine U_take3 8 (i := 0) (v := .slice none 0 0) rfl (by kernel_rfl) (by kernel_rfl) (by kernel_rfl) (by kernel_rfl) (by kernel_rfl) (fun _ _ _ h => h) (.inl ⟨rfl, fun u hu => (by go_simp)⟩) S0.out ?_
        refine U_take3 8 (i := 1) (v := .int .i64 0) rfl (by kernel_rfl) (by kernel_rfl) (by kernel_rfl) (by kernel_rfl) (by kernel_rfl) (fun _ _ _ h => h) (.inl ⟨rfl, fun u hu => (by go_simp)⟩) S0.out ?_
        refine U_take3 8 (i := 2) (v := .slice none 0 0) rfl (by kernel_rfl) (by kernel_rfl) (by kernel_rfl) (by kernel_rfl) (by kernel_rfl) (fun _ _ _ h => h) (.inl ⟨rfl, fun u hu => (by go_simp)⟩) S0.out ?_
        refine U_take3 8 (i := 3) (v := .slice aw wl.length cw) rfl (by kernel_rfl) (by kernel_rfl) (by kernel_rfl) (by kernel_rfl) (by kernel_rfl) (fun _ _ _ h => h) (.inl ⟨rfl, fun u hu => (by go_simp)⟩) S0.out ?_
        refine U_take3 8 (i := 4) (v := .slice none 0 0) rfl (by kernel_rfl) (by kernel_rfl) (by kernel_rfl) (by kernel_rfl) (by kernel_rfl) (fun _ _ _ h => h) (.inl ⟨rfl, fun u hu => (by go_simp)⟩) S0.out ?_
        refine U_take3 8 (i := 5) (v := .int .i64 0) rfl (by kernel_rfl) (by kernel_rfl) (by kernel_rfl) (by kernel_rfl) (by kernel_rfl) (fun _ _ _ h => h) (.inl ⟨rfl, fun u hu => (by go_simp)⟩) S0.out ?_
        refine U_take3 8 (i := 6) (v := .slice none 0 0) rfl (by kernel_rfl) (by kernel_rfl) (by kernel_rfl) (by kernel_rfl) (by kernel_rfl) (fun _ _ _ h => h) (.inl ⟨rfl, fun u hu => (by go_simp)⟩) S0.out ?_
        refine U_step (j := 7) (by kernel_rfl) rfl (fun K hK => ?_)
        go_simp
        refine hK.out _ _ (.inl rfl) ?_
        clear hK K
        refine U_step (j := 8) (by kernel_rfl) rfl (fun K hK => ?_)
        go_simp
        refine (HCC0.out w1.drew hBelow1).mono ?_
        rintro e w3 ⟨rfl, hb3⟩
        have HB3 := hid (HBD.out.trans (hb3.mono HBD.out.size))
        refine hK.out _ _ (.inl rfl) ?_
        clear hK K hb3
        refine U_pure 8 (i := 9) (v := .string ⟨A1.toArray⟩) rfl (by kernel_rfl) (by kernel_rfl) (by kernel_rfl) (by kernel_rfl) (by kernel_rfl) (fun _ _ _ h => h) (.inl ⟨rfl, fun u hu => (by go_simp)⟩) ?_
        refine U_pure 8 (i := 10) (v := .int .i64 A2) rfl (by kernel_rfl) (by kernel_rfl) (by kernel_rfl) (by kernel_rfl) (by kernel_rfl) (fun _ _ _ h => h) (.inl ⟨rfl, fun u hu => (by go_simp)⟩) ?_
        refine U_step (j := 11) (by kernel_rfl) rfl (fun K hK => ?_)
        go_simp
        refine hK.out _ _ (.inl rfl) ?_
        clear hK K
        refine U_step (j := 12) (by kernel_rfl) rfl (fun K hK => ?_)
        go_simp
        refine hK.out _ _ (.inl rfl) ?_
        clear hK K
        refine U_done (by kernel_rfl) ?_ _
        clear S0
        go_wp2
        all_goals go_ret2
        all_goals exact ⟨rfl, HB3.out⟩
    · rw [if_pos (by decide)] at HA
      clear hnil
      go_enter Tryz.func46, Tryz.ntmps46
      go_wp2_with fail
      (with_reducible refine HS.out.mono ?_); rintro e w1 ⟨hb, v, rfl, hr⟩
      obtain ⟨a1, c1, rfl⟩ := hr.shape
      rw [← hn]
      have HB1 := hid hb
      have h1 := HFI.out w1
      have h2 := HP1.out w1
      clear hb hr hn
      go_wp2_with fail
      (with_reducible refine h1.mono ?_); rintro e w2 ⟨rfl, hw⟩; subst w2
      go_wp2_with fail
      (with_reducible refine h2.mono ?_); rintro e w2 ⟨rfl, hw⟩; subst w2
      go_wp2
      go_ret2
      exact ⟨by obtain ⟨e1, e2⟩ := Prod.mk.inj HA.out; rw [e1, e2] <;> rfl, HB1.out⟩
  | false =>
    rw [hp] at hfe hn'
    rw [if_neg (by simp)] at hn'
    replace hn' := hn'.symm
    subst hn'
    have HP1 := HPL
    clear HPL hp
    rcases he2 with rfl | rfl
    · rw [if_neg (by simp)] at HA
      go_enter Tryz.func46, Tryz.ntmps46
      go_wp2_with fail
      (with_reducible refine HS.out.mono ?_); rintro e w1 ⟨hb, v, rfl, hr⟩
      have HBU := hid hb
      have hBelow1 : Below w1.heap.size w1 w1.drew := (Below.refl _ _).drew
      have HBD := hid (show Below w.heap.size w w1.drew from hb.drew)
      have hst := hr.strs
      have h1 := HFI.out w1
      have h2 := HP1.out w1
      rcases row_cap hr with ⟨g, c, rfl, hc⟩ | ⟨rfl, rfl⟩
      · have hj := fun (u : World) (h : Below w1.heap.size w1 u) => parts3_joined u _ (.slice aw wl.length cw) _ (l.take lo) wl (l.drop lo) (strs_take (hst.below h) (by rw [← hn]; exact hlo)) (HWV.out u (HBU.out.trans (h.mono HBU.out.size))) (strs_drop (hst.below h) (by rw [← hn]; exact hlo)) nil_some hnil nil_if (by rw [List.length_take, List.length_drop]; omega) (fun x hx => by
          rcases List.mem_append.1 hx with h1 | h1
          · exact HXL.out x (List.mem_of_mem_take h1)
          · rcases List.mem_append.1 h1 with h2 | h2
            · exact HWX.out x h2
            · exact HXL.out x (List.mem_of_mem_drop h2))
        have hA2 : joinRes (l.take lo ++ (wl ++ l.drop lo)) = (A1, A2) := HA.out.symm
        rw [hA2] at hj
        rw [← hn] at hj hc ⊢
        have HCC0 := hid hj
        clear hb hr hst hj hA2 hnil hn
        go_wp2_with fail
        (with_reducible refine h1.mono ?_); rintro e w2 ⟨rfl, hw⟩; subst w2
        go_wp2_with fail
        (with_reducible refine h2.mono ?_); rintro e w2 ⟨rfl, hw⟩; subst w2
        have S0 : Hid ((fun u : World => True) w1.drew) := hid trivial
        go_wp2
        refine U_begin (late := fun k => decide (7 ≤ k)) (S := fun u : World => True) hmx ?_
        refine U_take3 8 (i := 0) (v := .slice (some ⟨g, 0, none⟩) n c) rfl (by kernel_rfl) (by kernel_rfl) (by kernel_rfl) (by kernel_rfl) (by kernel_rfl) (fun _ _ _ h => h) (.inl ⟨rfl, fun u hu => (by go_simp)⟩) S0.out ?_
        refine U_take3 8 (i := 1) (v := .int .i64 (lo : Nat)) rfl (by kernel_rfl) (by kernel_rfl) (by kernel_rfl) (by kernel_rfl) (by kernel_rfl) (fun _ _ _ h => h) (.inl ⟨rfl, fun u hu => (by go_simp)⟩) S0.out ?_
        refine U_take3 8 (i := 2) (v := .slice (some ⟨g, 0, none⟩) lo c) rfl (by kernel_rfl) (by kernel_rfl) (by kernel_rfl) (by kernel_rfl) (by kernel_rfl) (fun _ _ _ h => h) (.inl ⟨rfl, fun u hu => (by go_simp; try omega)⟩) S0.out ?_
        refine U_take3 8 (i := 3) (v := .slice aw wl.length cw) rfl (by kernel_rfl) (by kernel_rfl) (by kernel_rfl) (by kernel_rfl) (by kernel_rfl) (fun _ _ _ h => h) (.inl ⟨rfl, fun u hu => (by go_simp)⟩) S0.out ?_
        refine U_take3 8 (i := 4) (v := .slice (some ⟨g, 0, none⟩) n c) rfl (by kernel_rfl) (by kernel_rfl) (by kernel_rfl) (by kernel_rfl) (by kernel_rfl) (fun _ _ _ h => h) (.inl ⟨rfl, fun u hu => (by go_simp)⟩) S0.out ?_
        refine U_take3 8 (i := 5) (v := .int .i64 (lo : Nat)) rfl (by kernel_rfl) (by kernel_rfl) (by kernel_rfl) (by kernel_rfl) (by kernel_rfl) (fun _ _ _ h => h) (.inl ⟨rfl, fun u hu => (by go_simp)⟩) S0.out ?_
        refine U_take3 8 (i := 6) (v := .slice (if c = lo then some ⟨g, 0, none⟩ else some ⟨g, lo, none⟩) (n - lo) (c - lo)) rfl (by kernel_rfl) (by kernel_rfl) (by kernel_rfl) (by kernel_rfl) (by kernel_rfl) (fun _ _ _ h => h) (.inl ⟨rfl, fun u hu => (by go_simp; try omega)⟩) S0.out ?_
        refine U_step (j := 7) (by kernel_rfl) rfl (fun K hK => ?_)
        go_simp
        refine hK.out _ _ (.inl rfl) ?_
        clear hK K
        refine U_step (j := 8) (by kernel_rfl) rfl (fun K hK => ?_)
        go_simp
        refine (HCC0.out w1.drew hBelow1).mono ?_
        rintro e w3 ⟨rfl, hb3⟩
        have HB3 := hid (HBD.out.trans (hb3.mono HBD.out.size))
        refine hK.out _ _ (.inl rfl) ?_
        clear hK K hb3
        refine U_pure 8 (i := 9) (v := .string ⟨A1.toArray⟩) rfl (by kernel_rfl) (by kernel_rfl) (by kernel_rfl) (by kernel_rfl) (by kernel_rfl) (fun _ _ _ h => h) (.inl ⟨rfl, fun u hu => (by go_simp)⟩) ?_
        refine U_pure 8 (i := 10) (v := .int .i64 A2) rfl (by kernel_rfl) (by kernel_rfl) (by kernel_rfl) (by kernel_rfl) (by kernel_rfl) (fun _ _ _ h => h) (.inl ⟨rfl, fun u hu => (by go_simp)⟩) ?_
        refine U_step (j := 11) (by kernel_rfl) rfl (fun K hK => ?_)
        go_simp
        refine hK.out _ _ (.inl rfl) ?_
        clear hK K
        refine U_step (j := 12) (by kernel_rfl) rfl (fun K hK => ?_)
        go_simp
        refine hK.out _ _ (.inl rfl) ?_
        clear hK K
        refine U_done (by kernel_rfl) ?_ _
        clear S0
        go_wp2
        all_goals go_ret2
        all_goals exact ⟨rfl, HB3.out⟩
      · have hn0 : n = 0 := by rw [hn]; rfl
        subst hn0
        have hlo0 : lo = 0 := by omega
        subst hlo0
        have hj := fun (u : World) (h : Below w1.heap.size w1 u) => parts3_joined u (.slice none 0 0) (.slice aw wl.length cw) (.slice none 0 0) [] wl [] strs_none (HWV.out u (HBU.out.trans (h.mono HBU.out.size))) strs_none nil_none hnil nil_none (by simp; omega) (fun x hx => HWX.out x (by simpa using hx))
        have hA2 : joinRes ([] ++ (wl ++ [])) = (A1, A2) := HA.out.symm
        rw [hA2] at hj
        have HCC0 := hid hj
        have hmn0 : min (max z 0) 0 = 0 := by omega
        have h20 := h2
        simp only [Int.natCast_zero] at h20
        try rw [Int.zero_add] at h20
        clear hb hr hst hj hA2 hnil hn hmn h2
        go_wp2_with fail
        (with_reducible refine h1.mono ?_); rintro e w2 ⟨rfl, hw⟩; subst w2
        go_wp2_with fail
        (with_reducible refine h20.mono ?_); rintro e w2 ⟨rfl, hw⟩; subst w2
        have S0 : Hid ((fun u : World => True) w1.drew) := hid trivial
        go_wp2
        refine U_begin (late := fun k => decide (7 ≤ k)) (S := fun u : World => True) hmx ?_
        refine U_take3 8 (i := 0) (v := .slice none 0 0) rfl (by kernel_rfl) (by kernel_rfl) (by kernel_rfl) (by kernel_rfl) (by kernel_rfl) (fun _ _ _ h => h) (.inl ⟨rfl, fun u hu => (by go_simp)⟩) S0.out ?_
        refine U_take3 8 (i := 1) (v := .int .i64 0) rfl (by kernel_rfl) (by kernel_rfl) (by kernel_rfl) (by kernel_rfl) (by kernel_rfl) (fun _ _ _ h => h) (.inl ⟨rfl, fun u hu => (by go_simp)⟩) S0.out ?_
        refine U_take3 8 (i := 2) (v := .slice none 0 0) rfl (by kernel_rfl) (by kernel_rfl) (by kernel_rfl) (by kernel_rfl) (by kernel_rfl) (fun _ _ _ h => h) (.inl ⟨rfl, fun u hu => (by go_simp)⟩) S0.out ?_
        refine U_take3 8 (i := 3) (v := .slice aw wl.length cw) rfl (by kernel_rfl) (by kernel_rfl) (by kernel_rfl) (by kernel_rfl) (by kernel_rfl) (fun _ _ _ h => h) (.inl ⟨rfl, fun u hu => (by go_simp)⟩) S0.out ?_
        refine U_take3 8 (i := 4) (v := .slice none 0 0) rfl (by kernel_rfl) (by kernel_rfl) (by kernel_rfl) (by kernel_rfl) (by kernel_rfl) (fun _ _ _ h => h) (.inl ⟨rfl, fun u hu => (by go_simp)⟩) S0.out ?_
        refine U_take3 8 (i := 5) (v := .int .i64 0) rfl (by kernel_rfl) (by kernel_rfl) (by kernel_rfl) (by kernel_rfl) (by kernel_rfl) (fun _ _ _ h => h) (.inl ⟨rfl, fun u hu => (by go_simp)⟩) S0.out ?_
        refine U_take3 8 (i := 6) (v := .slice none 0 0) rfl (by kernel_rfl) (by kernel_rfl) (by kernel_rfl) (by kernel_rfl) (by kernel_rfl) (fun _ _ _ h => h) (.inl ⟨rfl, fun u hu => (by go_simp)⟩) S0.out ?_
        refine U_step (j := 7) (by kernel_rfl) rfl (fun K hK => ?_)
        go_simp
        refine hK.out _ _ (.inl rfl) ?_
        clear hK K
        refine U_step (j := 8) (by kernel_rfl) rfl (fun K hK => ?_)
        go_simp
        refine (HCC0.out w1.drew hBelow1).mono ?_
        rintro e w3 ⟨rfl, hb3⟩
        have HB3 := hid (HBD.out.trans (hb3.mono HBD.out.size))
        refine hK.out _ _ (.inl rfl) ?_
        clear hK K hb3
        refine U_pure 8 (i := 9) (v := .string ⟨A1.toArray⟩) rfl (by kernel_rfl) (by kernel_rfl) (by kernel_rfl) (by kernel_rfl) (by kernel_rfl) (fun _ _ _ h => h) (.inl ⟨rfl, fun u hu => (by go_simp)⟩) ?_
        refine U_pure 8 (i := 10) (v := .int .i64 A2) rfl (by kernel_rfl) (by kernel_rfl) (by kernel_rfl) (by kernel_rfl) (by kernel_rfl) (fun _ _ _ h => h) (.inl ⟨rfl, fun u hu => (by go_simp)⟩) ?_
        refine U_step (j := 11) (by kernel_rfl) rfl (fun K hK => ?_)
        go_simp
        refine hK.out _ _ (.inl rfl) ?_
        clear hK K
        refine U_step (j := 12) (by kernel_rfl) rfl (fun K hK => ?_)
        go_simp
        refine hK.out _ _ (.inl rfl) ?_
        clear hK K
        refine U_done (by kernel_rfl) ?_ _
        clear S0
        go_wp2
        all_goals go_ret2
        all_goals exact ⟨rfl, HB3.out⟩
    · rw [if_pos (by decide)] at HA
      clear hnil
      go_enter Tryz.func46, Tryz.ntmps46
      go_wp2_with fail
      (with_reducible refine HS.out.mono ?_); rintro e w1 ⟨hb, v, rfl, hr⟩
      obtain ⟨a1, c1, rfl⟩ := hr.shape
      rw [← hn]
      have HB1 := hid hb
      have h1 := HFI.out w1
      have h2 := HP1.out w1
      clear hb hr hn
      go_wp2_with fail
      (with_reducible refine h1.mono ?_); rintro e w2 ⟨rfl, hw⟩; subst w2
      go_wp2_with fail
      (with_reducible refine h2.mono ?_); rintro e w2 ⟨rfl, hw⟩; subst w2
      go_wp2
      go_ret2
      exact ⟨by obtain ⟨e1, e2⟩ := Prod.mk.inj HA.out; rw [e1, e2] <;> rfl, HB1.out⟩
end Go.Proofs.YtheiageokcgbhaaGreatDoor.Pz
