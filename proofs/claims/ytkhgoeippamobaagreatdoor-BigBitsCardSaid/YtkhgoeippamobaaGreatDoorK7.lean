/-
  Part K7 of the proofs of this seat: contracts of functions and plain facts, merged from 6 texts.
-/
import Derived.Test.YtkhgoeippamobaaGreatDoorK1
import Derived.Test.YtkhgoeippamobaaGreatDoorK2
import Derived.Test.YtkhgoeippamobaaGreatDoorK3
import Derived.Test.YtkhgoeippamobaaGreatDoorK4
import Derived.Test.YtkhgoeippamobaaGreatDoorK5
import Derived.Test.YtkhgoeippamobaaGreatDoorK6
/-
  The reference: powers of two.
-/
namespace Go.Proofs.YtkhgoeippamobaaGreatDoor
open Go.RowKit
theorem dlen_two (k : Nat) : dlen 10 (2 ^ k) ≤ k + 1 :=
  (dlen_le_iff 10 _ _ (by decide)).2 (Nat.lt_of_lt_of_le (Nat.pow_lt_pow_right (by decide) (Nat.lt_succ_self k)) (Nat.pow_le_pow_left (by decide) _))
set_option maxRecDepth 100000 in
set_option maxHeartbeats 4000000 in
theorem two_fn' (n : Nat) (hn : n ≤ 10000) (w : World) : Calls Tryz.prog 108 #[.int .i64 n] w (FreshD ((2 ^ n : Nat) : Int) w) := by
  have kR := Blk.new w #[.bool false, .slice none 0 0] 56
  have hb0 : Below w.heap.size w (w.alloc (.cells #[.bool false, .slice none 0 0] 56)) := (Below.refl _ _).alloc (Nat.le_refl _) _
  have hsz0 : (w.alloc (.cells #[.bool false, .slice none 0 0] 56)).heap.size = w.heap.size + 1 := by simp
  have HW := fun w => hid (whole_fn 1 (by decide) (by decide) w)
  go_enter Tryz.func108, Tryz.ntmps108
  go_wp2_with fail
  generalize w.alloc (.cells #[.bool false, .slice none 0 0] 56) = w0 at *
  (with_reducible refine (HW _).out.mono ?_); rintro e w1 ⟨v, rfl, hv, gg⟩
  obtain ⟨g1, s1, n1, c1, rfl⟩ := hv.num.shape4
  have hb := hb0.trans (gg.mono hb0.size)
  have kR := kR.later gg
  have hs1 := gg.size
  have hlt1 := kR.lt
  clear gg
  have gg : Below w1.heap.size w1 (w1.alloc (.cells #[.bool g1, .slice s1 n1 c1] 56)) := (Below.refl _ _).alloc (Nat.le_refl _) _
  have kO := Blk.new w1 #[.bool g1, .slice s1 n1 c1] 56
  have kR := kR.later gg
  have hb := hb.trans (gg.mono hb.size)
  have hv := (hv.keep gg).mono (show w.heap.size + 1 ≤ w0.heap.size by omega)
  have hlt2 := kO.lt
  clear gg
  go_wp2_with fail
  generalize w1.alloc (.cells #[.bool g1, .slice s1 n1 c1] 56) = w2 at *
  generalize hB : w1.heap.size = B at *
  clear hb0 hsz0
  go_loopw [6] (fun iv wr => ∃ k : Nat, iv = .int .i64 k ∧ k ≤ n ∧ ∃ g s m c, Blk wr B #[.bool g, .slice s m c] 56 ∧ OwnDNum wr (w.heap.size + 1) (.agg #[.bool g, .slice s m c]) ((2 ^ k : Nat) : Int) ∧ Blk wr w.heap.size #[.bool false, .slice none 0 0] 56 ∧ Below w.heap.size w wr) (fun iv _ => n - (intOf iv).toNat)
  case atStart => exact ⟨0, rfl, Nat.zero_le _, _, _, _, _, kO, hv, kR, hb⟩
  case round =>
    obtain ⟨k, rfl, hk, g, s, m, c, kO, hO, kR, hb⟩ := hrel
    obtain ⟨⟨p1, p2⟩, q1, q2⟩ := kO.two
    have hdk := dlen_two k
    by_cases hlt : k < n
    · have HP := hid (plusR_fn hO.num hO.num (by rw [Int.natAbs_natCast]; omega) (by rw [Int.natAbs_natCast]; omega))
      have HE := hid (show ((2 ^ k : Nat) : Int) + ((2 ^ k : Nat) : Int) = ((2 ^ (k + 1) : Nat) : Int) by rw [Nat.pow_succ]; omega)
      rw [HE.out] at HP
      go_wp2_with fail
      (with_reducible refine HP.out.mono ?_); rintro e w3 ⟨q, rfl, hq, gg⟩
      obtain ⟨g', s', m', c', rfl⟩ := hq.num.shape4
      have hltO := kO.lt
      have hszr := hb.size
      have kO := kO.later gg
      have kR := kR.later gg
      have hb := hb.trans (gg.mono hb.size)
      clear p1 p2 q1 q2
      obtain ⟨⟨p1, p2⟩, q1, q2⟩ := kO.two
      go_wp2
      have kO := kO.set2 (.bool g') (.slice s' m' c')
      have kR := kR.set2_ne (b := B) (by omega) (.bool g') (.slice s' m' c')
      have hq := (hq.set2 hltO (.bool g') (.slice s' m' c')).mono (show w.heap.size + 1 ≤ wr.heap.size by omega)
      have hb := (hb.setCell (p := ⟨B, 0, none⟩) (by show w.heap.size ≤ B; omega) (.bool g')).setCell (p := ⟨B, 1, none⟩) (by show w.heap.size ≤ B; omega) (.slice s' m' c')
      go_roundw
      case rel => exact ⟨k + 1, by go_num, by omega, _, _, _, _, kO, hq, kR, hb⟩
      case measure => simp [intOf] <;> omega
    · obtain rfl : k = n := by omega
      obtain ⟨⟨r1, r2⟩, t1, t2⟩ := kR.two
      go_wp2
      have kR := kR.set2 (.bool g) (.slice s m c)
      obtain ⟨⟨z1, z2⟩, _⟩ := kR.two
      have hO := (hO.set2 (b := w.heap.size) (by omega) (.bool g) (.slice s m c)).mono (show w.heap.size ≤ w.heap.size + 1 by omega)
      have hb := (hb.setCell (p := ⟨w.heap.size, 0, none⟩) (Nat.le_refl _) (.bool g)).setCell (p := ⟨w.heap.size, 1, none⟩) (Nat.le_refl _) (.slice s m c)
      exact bodyPost_ret (v := .agg #[.bool g, .slice s m c]) (by simp [results, Tryz.results108, go_sem, z1, z2]) rfl ⟨_, rfl, hO, hb⟩
end Go.Proofs.YtkhgoeippamobaaGreatDoor
/-
  Regions in which three operations may come up; numbers that do not lie in a block.
-/
namespace Go.Proofs.YtkhgoeippamobaaGreatDoor
open Go.RowKit
section
variable {P : Program} {md : Region.Mode} {ops : Array Oper} {Q : Exit → Act → World → Prop} {late : Nat → Bool} {S : World → Prop}
/-- three operations may come up -/
theorem U_three {j1 j2 j3 : Nat} {o1 o2 o3 : Oper} {fuel : Nat} {listed : Array Bool} {a : Act} {w : World} (hr : Region.ready md ops listed = [j1, j2, j3]) (ho1 : ops[j1]? = some o1) (ho2 : ops[j2]? = some o2) (ho3 : ops[j3]? = some o3)
    (h1 : ∀ K : Act → World → Prop, Hid (∀ b u, (late j1 = true ∨ S u) → anyU P md ops Q late S fuel (listed.setIfInBounds j1 true) b u → K b u) → if Region.wanted o1 (yielded ops a.tmps) = true then Oper.wp P o1 a w K Q else K (a.put o1.dst undef) w)
    (h2 : ∀ K : Act → World → Prop, Hid (∀ b u, (late j2 = true ∨ S u) → anyU P md ops Q late S fuel (listed.setIfInBounds j2 true) b u → K b u) → if Region.wanted o2 (yielded ops a.tmps) = true then Oper.wp P o2 a w K Q else K (a.put o2.dst undef) w)
    (h3 : ∀ K : Act → World → Prop, Hid (∀ b u, (late j3 = true ∨ S u) → anyU P md ops Q late S fuel (listed.setIfInBounds j3 true) b u → K b u) → if Region.wanted o3 (yielded ops a.tmps) = true then Oper.wp P o3 a w K Q else K (a.put o3.dst undef) w) :
    anyU P md ops Q late S (fuel + 1) listed a w := by
  refine ⟨fun h0 => (by rw [hr] at h0; cases h0), fun i hi => ?_⟩
  rw [hr] at hi
  simp only [List.mem_cons, List.mem_nil_iff, or_false] at hi
  rcases hi with rfl | rfl | rfl
  · exact wpOp_step ho1 fun K hK => h1 K fun b u h1 h2 => hK b u ⟨h1, h2⟩
  · exact wpOp_step ho2 fun K hK => h2 K fun b u h1 h2 => hK b u ⟨h1, h2⟩
  · exact wpOp_step ho3 fun K hK => h3 K fun b u h1 h2 => hK b u ⟨h1, h2⟩
end
/-- a region's end, of which only this is told: the pointers of two blocks, the numbers in them -/
def CutD (A : Nat → Nat → Bool → Option Addr → Nat → Nat → Bool → Option Addr → Nat → Nat → Bool → Option Addr → Nat → Nat → Act)
    (R : Nat → Nat → Bool → Option Addr → Nat → Nat → Bool → Option Addr → Nat → Nat → World → Prop) : Exit → Act → World → Prop
  | .normal, a, w => ∃ bq br qg qa qn qc rg ra rn rc zg za zn zc, a = A bq br qg qa qn qc rg ra rn rc zg za zn zc ∧ R bq br qg qa qn qc rg ra rn rc w
  | _, _, _ => False
theorem U_cutD {P : Program} {c : Code} {Q : Exit → Act → World → Prop} {a : Act} {w : World}
    {A : Nat → Nat → Bool → Option Addr → Nat → Nat → Bool → Option Addr → Nat → Nat → Bool → Option Addr → Nat → Nat → Act}
    {R : Nat → Nat → Bool → Option Addr → Nat → Nat → Bool → Option Addr → Nat → Nat → World → Prop}
    (h : c.wp P (CutD A R) a w)
    (hr : ∀ bq br qg qa qn qc rg ra rn rc zg za zn zc w', R bq br qg qa qn qc rg ra rn rc w' → Q .normal (A bq br qg qa qn qc rg ra rn rc zg za zn zc) w') : c.wp P Q a w := by
  refine Code.wp_mono (fun e a w h => ?_) h
  cases e with
  | normal =>
    obtain ⟨bq, br, qg, qa, qn, qc, rg, ra, rn, rc, zg, za, zn, zc, rfl, h⟩ := h
    exact hr _ _ _ _ _ _ _ _ _ _ _ _ _ _ _ h
  | _ => exact h.elim
/-- the digits of a number do not lie in a block -/
def NotIn (v : Value) (b : Nat) : Prop := ∀ g s n c, v = .agg #[.bool g, .slice s n c] → ∀ a, s = some a → a.block ≠ b
theorem cell_set2 {w : World} {b c : Nat} (i : Nat) (x y : Value) (h : c ≠ b) : ((w.setCell ⟨b, 0, none⟩ x).setCell ⟨b, 1, none⟩ y).cell? ⟨c, i, none⟩ = w.cell? ⟨c, i, none⟩ :=
  World.cell?_of_block (a := ⟨c, i, none⟩) ((Below.heap_setCell _ _ _ _ h).trans (Below.heap_setCell _ _ _ _ h))
theorem DNum.set2n {w : World} {b : Nat} {v : Value} {z : Int} (h : DNum w v z) (hn : NotIn v b) (x y : Value) : DNum ((w.setCell ⟨b, 0, none⟩ x).setCell ⟨b, 1, none⟩ y) v z := by
  obtain ⟨s, rfl, a, cap, rfl, hc, hr⟩ := h
  refine ⟨_, rfl, a, cap, rfl, hc, fun h0 => ?_⟩
  obtain ⟨k, off, rfl, hlt, hcell⟩ := hr h0
  have hne : k ≠ b := hn _ _ _ _ rfl _ rfl
  exact ⟨k, off, rfl, by simpa using hlt, fun i hi => (cell_set2 (off + i) x y hne).trans (hcell i hi)⟩
theorem OwnDNum.set2n {w : World} {base b : Nat} {v : Value} {z : Int} (h : OwnDNum w base v z) (hn : NotIn v b) (x y : Value) : OwnDNum ((w.setCell ⟨b, 0, none⟩ x).setCell ⟨b, 1, none⟩ y) base v z := by
  obtain ⟨s, rfl, hl, hv | ⟨g, cap, cur, rfl, hg, hh, hr⟩⟩ := h
  · exact ⟨s, rfl, hl, .inl hv⟩
  · have hne : g ≠ b := hn _ _ _ _ rfl _ rfl
    exact ⟨_, rfl, hl, .inr ⟨g, cap, cur, rfl, hg, ((Below.heap_setCell _ _ _ _ hne).trans (Below.heap_setCell _ _ _ _ hne)).trans hh, hr⟩⟩
theorem OwnDNum.notin {w : World} {base b : Nat} {v : Value} {z : Int} (h : OwnDNum w base v z) (hb : b < base) : NotIn v b := by
  obtain ⟨s, rfl, hl, ⟨rfl, _⟩ | ⟨g, cap, cur, rfl, hg, hr⟩⟩ := h
  · intro g s n c he a ha
    simp only [Value.agg.injEq, Array.mk.injEq, List.cons.injEq, Value.slice.injEq, and_true] at he
    rw [← he.2.1] at ha; cases ha
  · intro g' s n c he a ha
    simp only [Value.agg.injEq, Array.mk.injEq, List.cons.injEq, Value.slice.injEq, and_true] at he
    rw [← he.2.1] at ha
    cases ha
    show g ≠ b
    omega
theorem OwnDNum.notin_new {w : World} {base b : Nat} {v : Value} {z : Int} (h : OwnDNum w base v z) (hb : w.heap.size ≤ b) : NotIn v b := by
  obtain ⟨s, rfl, hl, ⟨rfl, _⟩ | ⟨g, cap, cur, rfl, hg, hh, hr⟩⟩ := h
  · intro g s n c he a ha
    simp only [Value.agg.injEq, Array.mk.injEq, List.cons.injEq, Value.slice.injEq, and_true] at he
    rw [← he.2.1] at ha; cases ha
  · intro g' s n c he a ha
    simp only [Value.agg.injEq, Array.mk.injEq, List.cons.injEq, Value.slice.injEq, and_true] at he
    rw [← he.2.1] at ha
    cases ha
    have := (Array.getElem?_eq_some_iff.1 hh).1
    show g ≠ b
    omega
end Go.Proofs.YtkhgoeippamobaaGreatDoor
/-
  Powers (plain).
-/
namespace Go.Proofs.YtkhgoeippamobaaGreatDoor
open Go.RowKit
/-- the power that Pow tells -/
def powI (x y : Int) : Int := if x.natAbs = 1 then (if y.natAbs % 2 = 1 then x else 1) else x ^ y.toNat
/-- the error that comes first -/
def powE (x y : Int) : Int := if y < 0 ∧ x.natAbs ≠ 1 then 7 else 0
theorem powI_unit {x y : Int} (h : x.natAbs = 1) : powI x y = if y.natAbs % 2 = 1 then x else 1 := by unfold powI; rw [if_pos h]
theorem powI_else {x y : Int} (h : x.natAbs ≠ 1) : powI x y = x ^ y.toNat := by unfold powI; rw [if_neg h]
theorem powI_zero {x y : Int} (h : x.natAbs ≠ 1) (hy : y = 0) : powI x y = 1 := by rw [powI_else h, hy]; exact Int.pow_zero x
theorem powI_base0 {x y : Int} (hx : x = 0) (hy : 0 < y) : powI x y = 0 := by
  subst hx
  rw [powI_else (by decide)]
  obtain ⟨n, hn⟩ : ∃ n, y.toNat = n + 1 := ⟨y.toNat - 1, by omega⟩
  rw [hn, Int.pow_succ, Int.mul_zero]
theorem abs_pow (x : Int) (n : Nat) : (x ^ n).natAbs = x.natAbs ^ n := Int.natAbs_pow x n
theorem two_big (n : Nat) (h : 2010 ≤ n) : big600 ≤ 2 ^ n := by
  have key : ∀ k, big600 ≤ 2 ^ k → k ≤ n → big600 ≤ 2 ^ n := fun k h1 h2 => Nat.le_trans h1 (Nat.pow_le_pow_right (n := 2) (by decide) h2)
  exact key _ big600_le h
theorem pow_big (x : Int) (n : Nat) (hx : 2 ≤ x.natAbs) (hn : 2010 ≤ n) : big600 ≤ (x ^ n).natAbs := by
  rw [abs_pow]
  exact Nat.le_trans (two_big n hn) (Nat.pow_le_pow_left hx n)
theorem pow_more (x : Int) (i n : Nat) (hx : 1 ≤ x.natAbs) (hi : i ≤ n) : (x ^ i).natAbs ≤ (x ^ n).natAbs := by
  rw [abs_pow, abs_pow]
  exact Nat.pow_le_pow_right hx hi
theorem pow_next (x : Int) (i : Nat) : x ^ i * x = x ^ (i + 1) := (Int.pow_succ x i).symm
theorem resOf_zero : resOf 0 = ([48], 0) := by
  unfold resOf
  rw [if_pos (show (0 : Int).natAbs < big600 from big600_pos)]
  rfl
def powRes (a b : List UInt8) : List UInt8 × Int := twoRes a b (powE (pVal a) (pVal b)) (powI (pVal a) (pVal b))
end Go.Proofs.YtkhgoeippamobaaGreatDoor
/-
  Pow of big.
-/
namespace Go.Proofs.YtkhgoeippamobaaGreatDoor
open Go.RowKit
theorem D_zero_of_one (n : Nat) (h : nlen n = 1) : D n 0 = n := by
  have h1 := (nlen_le_iff n 1).1 (by omega)
  unfold D
  rw [Nat.mul_zero, Nat.pow_zero, Nat.div_one]
  exact Nat.mod_eq_of_lt h1
theorem own_one (w : World) : Own .u32 75 (w.alloc (.cells #[.int .u32 1] 75)) w.heap.size (.slice (some ⟨w.heap.size, 0, none⟩) 1 1) 1 (D 1) := by
  have := World.ownsRow_lit (e := 75) (size := 1) w #[.int .u32 1] 1 (Nat.le_refl _) (by unfold maxLen; omega) rfl
  have e : cellsK .u32 (D 1) 1 = [Value.int .u32 1] := by
    rw [cellsK_succ, cellsK_zero, D_one]; rfl
  unfold Own
  rw [e]
  exact this
theorem nlen_mul_le (m n : Nat) : nlen (m * n) ≤ nlen m + nlen n := by
  rw [nlen_le_iff, Nat.mul_add, Nat.pow_add]
  exact Nat.mul_lt_mul'' (lt_nlen m) (lt_nlen n)
set_option maxRecDepth 100000 in
set_option maxHeartbeats 2000000 in
theorem unit_fn {v : Value} {n : Nat} {neg lg : Bool} {w : World} (h : NumV w v n neg lg) (hl : nlen n ≤ 1000000) :
    Calls Tryz.prog 81 #[v] w fun e w' => e = .returned (.bool (!lg && decide (n = 1))) ∧ Below w.heap.size w w' := by
  obtain ⟨s, rfl, h⟩ := h
  obtain ⟨a, cap, rfl⟩ := h.shape
  have hb0 : Below w.heap.size w (w.alloc (.cells #[.slice a (nlen n) cap, .bool neg, .bool lg] 49)) := (Below.refl _ _).alloc (Nat.le_refl _) _
  have k1 := Blk.new w #[.slice a (nlen n) cap, .bool neg, .bool lg] 49
  cases lg with
  | true =>
    go_enter Tryz.func81, Tryz.ntmps81
    go_wp2
    go_ret
    exact ⟨rfl, hb0⟩
  | false =>
    by_cases h1 : nlen n = 1
    · obtain ⟨a', cap', hv, _, hc⟩ := NatRep.below h hb0
      simp only [Value.slice.injEq, true_and] at hv
      obtain ⟨rfl, rfl⟩ := hv
      obtain ⟨b, off, rfl, _, hc0⟩ := hc (by omega)
      have hcell := hc0 0 (by omega)
      rw [Nat.add_zero, D_zero_of_one n h1] at hcell
      rw [h1] at k1 hb0 hcell ⊢
      clear hc hc0 h h1
      by_cases hn : n = 1
      · subst hn
        go_enter Tryz.func81, Tryz.ntmps81
        go_wp2
        go_ret
        exact ⟨rfl, hb0⟩
      · have HN := hid (show (!false && decide (n = 1)) = false by rw [decide_eq_false hn]; rfl)
        have hn2 : (((n : Nat) : Int) == 1) = false := by rw [beq_eq_false_iff_ne]; omega
        rw [HN.out]
        clear hn
        go_enter Tryz.func81, Tryz.ntmps81
        go_wp2
        go_ret
        exact ⟨rfl, hb0⟩
    · have HN := hid (show (!false && decide (n = 1)) = false by rw [decide_eq_false (fun hn => h1 (by rw [hn]; exact nlen_one))]; rfl)
      rw [HN.out]
      clear h
      generalize nlen n = L at *
      go_enter Tryz.func81, Tryz.ntmps81
      go_wp2
      go_ret
      exact ⟨rfl, hb0⟩
theorem PNum.unit {w : World} {v : Value} {z : Int} (h : PNum w v z) : Calls Tryz.prog 81 #[v] w fun e w' => e = .returned (.bool (decide (z.natAbs = 1))) ∧ Below w.heap.size w w' := by
  obtain ⟨n, lg, h1, h2, h3, h4⟩ := h
  have h5 := unit_fn h1 (by omega)
  have e : (!lg && decide (n = 1)) = decide (z.natAbs = 1) := by
    cases lg with
    | false => rw [h2 rfl]; rfl
    | true =>
      have h6 : big600 ≤ z.natAbs := of_decide_eq_true h3.symm
      have := big600_two
      rw [decide_eq_false (show ¬ z.natAbs = 1 by omega)]
      rfl
  rw [e] at h5
  exact h5
theorem PNum.shape {w : World} {v : Value} {z : Int} (h : PNum w v z) : ∃ a n c l, v = .agg #[.slice a n c, .bool (decide (z < 0)), .bool l] := by
  obtain ⟨n, lg, ⟨s, rfl, h1⟩, _⟩ := h
  obtain ⟨a, c, rfl⟩ := h1.shape
  exact ⟨_, _, _, _, rfl⟩
set_option maxRecDepth 100000 in
set_option maxHeartbeats 2000000 in
theorem pow1 {v u : Value} {x y : Int} {w : World} (hv : PNum w v x) (hu : PNum w u y) : Calls Tryz.prog 80 #[v, u] w fun e w' => e = .returned (.int .i64 (powE x y)) ∧ Below w.heap.size w w' := by
  obtain ⟨a1, n1, c1, l1, rfl⟩ := hv.shape
  obtain ⟨a2, n2, c2, l2, rfl⟩ := hu.shape
  have hb0 : Below w.heap.size w ((w.alloc (.cells #[.slice a1 n1 c1, .bool (decide (x < 0)), .bool l1] 49)).alloc (.cells #[.slice a2 n2 c2, .bool (decide (y < 0)), .bool l2] 49)) := ((Below.refl _ _).alloc (Nat.le_refl _) _).alloc (by simp) _
  have hc := hid (PNum.unit (hv.below hb0))
  clear hv hu
  by_cases hy : y < 0
  · by_cases hx : x.natAbs = 1
    · have HE := hid (show powE x y = 0 by unfold powE; rw [if_neg (fun h => h.2 hx)])
      rw [decide_eq_true hx] at hc
      rw [decide_eq_true hy] at hc hb0 ⊢
      generalize decide (x < 0) = sx at *
      clear hy hx
      go_enter Tryz.func80, Tryz.ntmps80
      go_wp2_with fail
      (with_reducible refine hc.out.mono ?_); rintro e w1 ⟨rfl, gg⟩
      have hb := hb0.trans (gg.mono hb0.size)
      go_wp2
      go_ret
      exact ⟨by rw [HE.out]; rfl, hb⟩
    · have HE := hid (show powE x y = 7 by unfold powE; rw [if_pos ⟨hy, hx⟩])
      rw [decide_eq_false hx] at hc
      rw [decide_eq_true hy] at hc hb0 ⊢
      generalize decide (x < 0) = sx at *
      clear hy hx
      go_enter Tryz.func80, Tryz.ntmps80
      go_wp2_with fail
      (with_reducible refine hc.out.mono ?_); rintro e w1 ⟨rfl, gg⟩
      have hb := hb0.trans (gg.mono hb0.size)
      go_wp2
      go_ret
      exact ⟨by rw [HE.out]; rfl, hb⟩
  · have HE := hid (show powE x y = 0 by unfold powE; rw [if_neg (fun h => hy h.1)])
    rw [decide_eq_false hy] at hc hb0 ⊢
    generalize decide (x < 0) = sx at *
    clear hy hc
    go_enter Tryz.func80, Tryz.ntmps80
    go_wp2
    go_ret
    exact ⟨by rw [HE.out]; rfl, hb0⟩
end Go.Proofs.YtkhgoeippamobaaGreatDoor
/-
  Pow of big: the closure that does it.
-/
namespace Go.Proofs.YtkhgoeippamobaaGreatDoor
open Go.RowKit
set_option maxRecDepth 100000 in
set_option maxHeartbeats 4000000 in
theorem pow2_unit {v u : Value} {x y : Int} {w : World} (hv : IntV w v x) (hu : IntV w u y) (hx : nlen x.natAbs ≤ 1000) (hy : nlen y.natAbs ≤ 1000) (hu1 : x.natAbs = 1) :
    Calls Tryz.prog 82 #[v, u] w fun e w' => ∃ s, e = .returned s ∧ RNum w' s (powI x y) ∧ Below w.heap.size w w' := by
  obtain ⟨a1, c1, rfl, h1⟩ := hv.shape
  obtain ⟨a2, c2, rfl, h2⟩ := hu.shape
  have k1 := Blk.new w #[.slice a1 (nlen x.natAbs) c1, .bool (decide (x < 0)), .bool false] 49
  have k2 := Blk.new (w.alloc (.cells #[.slice a1 (nlen x.natAbs) c1, .bool (decide (x < 0)), .bool false] 49)) #[.slice a2 (nlen y.natAbs) c2, .bool (decide (y < 0)), .bool false] 49
  have k3 := Blk.new ((w.alloc (.cells #[.slice a1 (nlen x.natAbs) c1, .bool (decide (x < 0)), .bool false] 49)).alloc (.cells #[.slice a2 (nlen y.natAbs) c2, .bool (decide (y < 0)), .bool false] 49)) #[.slice none 0 0, .bool false, .bool false] 49
  simp only [World.size_alloc] at k2 k3
  replace k1 := (k1.alloc (.cells #[.slice a2 (nlen y.natAbs) c2, .bool (decide (y < 0)), .bool false] 49)).alloc (.cells #[.slice none 0 0, .bool false, .bool false] 49)
  replace k2 := k2.alloc (.cells #[.slice none 0 0, .bool false, .bool false] 49)
  have hb0 : Below w.heap.size w (((w.alloc (.cells #[.slice a1 (nlen x.natAbs) c1, .bool (decide (x < 0)), .bool false] 49)).alloc (.cells #[.slice a2 (nlen y.natAbs) c2, .bool (decide (y < 0)), .bool false] 49)).alloc (.cells #[.slice none 0 0, .bool false, .bool false] 49)) := (((Below.refl _ _).alloc (Nat.le_refl _) _).alloc (by simp) _).alloc (by simp; omega) _
  have hvw := hv
  replace hv := hv.below hb0
  replace hu := hu.below hb0
  replace h1 := h1.below hb0
  replace h2 := h2.below hb0
  have HB := hid (bit_nat h2 (by omega) 0 (by decide) (by decide))
  have HU := hid (unit_fn (show NumV _ _ x.natAbs _ false from hv) (by omega))
  have HS := hid (sign_nat (show NumV _ _ y.natAbs _ false from hu))
  have HS1 := hid (sign_nat (show NumV _ _ x.natAbs _ false from hv))
  have hsz0 : (((w.alloc (.cells #[.slice a1 (nlen x.natAbs) c1, .bool (decide (x < 0)), .bool false] 49)).alloc (.cells #[.slice a2 (nlen y.natAbs) c2, .bool (decide (y < 0)), .bool false] 49)).alloc (.cells #[.slice none 0 0, .bool false, .bool false] 49)).heap.size = w.heap.size + 3 := by simp
  have HZ := hid (show powI x y = if y.natAbs.testBit 0 = true then x else 1 by rw [powI_unit hu1, Nat.testBit_zero]; simp only [decide_eq_true_eq])
  have hu0 : (!false && decide (x.natAbs = 1)) = true := by rw [decide_eq_true hu1]; rfl
  rw [hu0] at HU
  clear hu0
  have HX := hid (show x = if decide (x < 0) = true then -1 else 1 by simp only [decide_eq_true_eq]; split <;> omega)
  have h0t : (0 : Int).toNat = 0 := rfl
  rw [h0t] at HB
  clear HS HS1 h1 h2 hv hu h0t
  generalize y.natAbs.testBit 0 = odd at *
  generalize powI x y = Z at *
  generalize decide (x < 0) = sx at *
  generalize decide (y < 0) = sy at *
  generalize x.natAbs = M at *
  clear hu1
  have HU : Hid (Calls Tryz.prog 81 _ _ fun e w' => e = .returned (.bool true) ∧ Below _ _ w') := HU
  go_enter Tryz.func82, Tryz.ntmps82
  go_wp2_with fail
  generalize ((w.alloc (.cells #[.slice a1 (nlen x.natAbs) c1, .bool (decide (x < 0)), .bool false] 49)).alloc (.cells #[.slice a2 (nlen y.natAbs) c2, .bool (decide (y < 0)), .bool false] 49)).alloc (.cells #[.slice none 0 0, .bool false, .bool false] 49) = w0 at *
  obtain ⟨⟨p1, p2, p3⟩, _⟩ := k1.three
  obtain ⟨⟨p4, p5, p6⟩, _⟩ := k2.three
  go_wp2_with fail
  (with_reducible refine HB.out.mono ?_); rintro e w1 ⟨rfl, rfl⟩
  go_wp2_with fail
  (with_reducible refine HU.out.mono ?_); rintro e w1 ⟨rfl, gg⟩
  have hb := hb0.trans (gg.mono hb0.size)
  replace k1 := k1.later gg
  replace k2 := k2.later gg
  replace k3 := k3.later gg
  have hsz1 := gg.size
  clear p1 p2 p3 p4 p5 p6
  obtain ⟨⟨p1, p2, p3⟩, _⟩ := k1.three
  obtain ⟨⟨p4, p5, p6⟩, _⟩ := k2.three
  cases sx with
  | true =>
    have g4 : Below w1.heap.size w1 (w1.alloc (.cells #[.int .u32 1] 75)) := (Below.refl _ _).alloc (Nat.le_refl _) _
    have k4 := Blk.new w1 #[.int .u32 1] 75
    have HO := hid (of_nat (nat_one k4) odd (by rw [nlen_one]; decide))
    rw [show (odd && decide (0 < 1)) = odd by simp] at HO
    replace hb := hb.trans (g4.mono hb.size)
    replace k3 := k3.later g4
    replace k1 := k1.later g4
    obtain ⟨⟨s1, s2, s3⟩, _⟩ := k1.three
    go_wp2_with fail
    (with_reducible refine HO.out.mono ?_); rintro e w9 ⟨rfl, g5⟩
    replace hb := hb.trans (g5.mono hb.size)
    have hlt3 := k3.lt
    replace k3 := k3.later g5
    replace k4 := k4.later g5
    obtain ⟨⟨r1, r2, r3⟩, r4, r5, r6⟩ := k3.three
    go_wp2
    have hz : Z = if odd = true then -1 else 1 := by rw [HZ.out, HX.out]; rfl
    have k3F := k3.set3 (Value.slice (some ⟨w1.heap.size, 0, none⟩) 1 1) (.bool odd) (.bool false)
    obtain ⟨⟨z1, z2, z3⟩, _⟩ := k3F.three
    have hbF := ((hb.setCell (p := ⟨w.heap.size + 1 + 1, 0, none⟩) (by simp; omega) (Value.slice (some ⟨w1.heap.size, 0, none⟩) 1 1)).setCell (p := ⟨w.heap.size + 1 + 1, 1, none⟩) (by simp; omega) (.bool odd)).setCell (p := ⟨w.heap.size + 1 + 1, 2, none⟩) (by simp; omega) (.bool false)
    refine bodyPost_ret (v := .agg #[Value.slice (some ⟨w1.heap.size, 0, none⟩) 1 1, .bool odd, .bool false]) (by simp [results, Tryz.results82, go_sem, z1, z2, z3]) rfl ⟨_, rfl, ?_, hbF⟩
    exact RNum.of_int (IntV.mk (nat_one (k4.set3_ne (by omega) _ _ _)) (by rw [hz]; split <;> rfl) (by rw [hz]; cases odd <;> rfl)) (by rw [hz]; split <;> decide)
  | false =>
    have g4 : Below w1.heap.size w1 (w1.alloc (.cells #[.int .u32 1] 75)) := (Below.refl _ _).alloc (Nat.le_refl _) _
    have k4 := Blk.new w1 #[.int .u32 1] 75
    have HO := hid (of_nat (nat_one k4) false (by rw [nlen_one]; decide))
    rw [show (false && decide (0 < 1)) = false by simp] at HO
    replace hb := hb.trans (g4.mono hb.size)
    replace k3 := k3.later g4
    replace k1 := k1.later g4
    obtain ⟨⟨s1, s2, s3⟩, _⟩ := k1.three
    go_wp2_with fail
    (with_reducible refine HO.out.mono ?_); rintro e w9 ⟨rfl, g5⟩
    replace hb := hb.trans (g5.mono hb.size)
    have hlt3 := k3.lt
    replace k3 := k3.later g5
    replace k4 := k4.later g5
    obtain ⟨⟨r1, r2, r3⟩, r4, r5, r6⟩ := k3.three
    go_wp2
    have hz : Z = 1 := by rw [HZ.out, HX.out]; simp
    have k3F := k3.set3 (Value.slice (some ⟨w1.heap.size, 0, none⟩) 1 1) (.bool false) (.bool false)
    obtain ⟨⟨z1, z2, z3⟩, _⟩ := k3F.three
    have hbF := ((hb.setCell (p := ⟨w.heap.size + 1 + 1, 0, none⟩) (by simp; omega) (Value.slice (some ⟨w1.heap.size, 0, none⟩) 1 1)).setCell (p := ⟨w.heap.size + 1 + 1, 1, none⟩) (by simp; omega) (.bool false)).setCell (p := ⟨w.heap.size + 1 + 1, 2, none⟩) (by simp; omega) (.bool false)
    refine bodyPost_ret (v := .agg #[Value.slice (some ⟨w1.heap.size, 0, none⟩) 1 1, .bool false, .bool false]) (by simp [results, Tryz.results82, go_sem, z1, z2, z3]) rfl ⟨_, rfl, ?_, hbF⟩
    exact RNum.of_int (IntV.mk (nat_one (k4.set3_ne (by omega) _ _ _)) (by rw [hz]; rfl) (by rw [hz]; rfl)) (by rw [hz]; decide)
set_option maxRecDepth 100000 in
set_option maxHeartbeats 4000000 in
theorem pow2_zero {v u : Value} {x y : Int} {w : World} (hv : IntV w v x) (hu : IntV w u y) (hx : nlen x.natAbs ≤ 1000) (hy : nlen y.natAbs ≤ 1000) (hu1 : x.natAbs ≠ 1) (hy0 : y = 0) :
    Calls Tryz.prog 82 #[v, u] w fun e w' => ∃ s, e = .returned s ∧ RNum w' s (powI x y) ∧ Below w.heap.size w w' := by
  obtain ⟨a1, c1, rfl, h1⟩ := hv.shape
  obtain ⟨a2, c2, rfl, h2⟩ := hu.shape
  have k1 := Blk.new w #[.slice a1 (nlen x.natAbs) c1, .bool (decide (x < 0)), .bool false] 49
  have k2 := Blk.new (w.alloc (.cells #[.slice a1 (nlen x.natAbs) c1, .bool (decide (x < 0)), .bool false] 49)) #[.slice a2 (nlen y.natAbs) c2, .bool (decide (y < 0)), .bool false] 49
  have k3 := Blk.new ((w.alloc (.cells #[.slice a1 (nlen x.natAbs) c1, .bool (decide (x < 0)), .bool false] 49)).alloc (.cells #[.slice a2 (nlen y.natAbs) c2, .bool (decide (y < 0)), .bool false] 49)) #[.slice none 0 0, .bool false, .bool false] 49
  simp only [World.size_alloc] at k2 k3
  replace k1 := (k1.alloc (.cells #[.slice a2 (nlen y.natAbs) c2, .bool (decide (y < 0)), .bool false] 49)).alloc (.cells #[.slice none 0 0, .bool false, .bool false] 49)
  replace k2 := k2.alloc (.cells #[.slice none 0 0, .bool false, .bool false] 49)
  have hb0 : Below w.heap.size w (((w.alloc (.cells #[.slice a1 (nlen x.natAbs) c1, .bool (decide (x < 0)), .bool false] 49)).alloc (.cells #[.slice a2 (nlen y.natAbs) c2, .bool (decide (y < 0)), .bool false] 49)).alloc (.cells #[.slice none 0 0, .bool false, .bool false] 49)) := (((Below.refl _ _).alloc (Nat.le_refl _) _).alloc (by simp) _).alloc (by simp; omega) _
  have hvw := hv
  replace hv := hv.below hb0
  replace hu := hu.below hb0
  replace h1 := h1.below hb0
  replace h2 := h2.below hb0
  have HB := hid (bit_nat h2 (by omega) 0 (by decide) (by decide))
  have HU := hid (unit_fn (show NumV _ _ x.natAbs _ false from hv) (by omega))
  have HS := hid (sign_nat (show NumV _ _ y.natAbs _ false from hu))
  have HS1 := hid (sign_nat (show NumV _ _ x.natAbs _ false from hv))
  have hsz0 : (((w.alloc (.cells #[.slice a1 (nlen x.natAbs) c1, .bool (decide (x < 0)), .bool false] 49)).alloc (.cells #[.slice a2 (nlen y.natAbs) c2, .bool (decide (y < 0)), .bool false] 49)).alloc (.cells #[.slice none 0 0, .bool false, .bool false] 49)).heap.size = w.heap.size + 3 := by simp
  have HZ := hid (powI_zero hu1 hy0)
  have hu0 : (!false && decide (x.natAbs = 1)) = false := by rw [decide_eq_false hu1]; rfl
  rw [hu0] at HU
  have h0t : (0 : Int).toNat = 0 := rfl
  rw [h0t] at HB
  clear HS HS1 h1 h2 hv
  have hsg : sgn y.natAbs (decide (y < 0)) false = 0 := by rw [hy0]; rfl
  have HSG := hid hsg
  have HUL : ∀ w', Below (((w.alloc (.cells #[.slice a1 (nlen x.natAbs) c1, .bool (decide (x < 0)), .bool false] 49)).alloc (.cells #[.slice a2 (nlen y.natAbs) c2, .bool (decide (y < 0)), .bool false] 49)).alloc (.cells #[.slice none 0 0, .bool false, .bool false] 49)).heap.size (((w.alloc (.cells #[.slice a1 (nlen x.natAbs) c1, .bool (decide (x < 0)), .bool false] 49)).alloc (.cells #[.slice a2 (nlen y.natAbs) c2, .bool (decide (y < 0)), .bool false] 49)).alloc (.cells #[.slice none 0 0, .bool false, .bool false] 49)) w' → Hid (Calls Tryz.prog 70 #[.agg #[.slice a2 (nlen y.natAbs) c2, .bool (decide (y < 0)), .bool false]] w' fun e w'' => e = .returned (.int .i64 0) ∧ Below w'.heap.size w' w'') := fun w' g => hid (by
    have := sign_nat (show NumV _ _ y.natAbs _ false from hu.below g)
    rw [hsg] at this
    exact this)
  clear hsg hu hy0
  generalize y.natAbs.testBit 0 = odd at *
  generalize powI x y = Z at *
  generalize decide (x < 0) = sx at *
  generalize decide (y < 0) = sy at *
  generalize x.natAbs = M at *
  generalize y.natAbs = N at *
  clear hu1 hu0
  go_enter Tryz.func82, Tryz.ntmps82
  go_wp2_with fail
  generalize ((w.alloc (.cells #[.slice a1 (nlen x.natAbs) c1, .bool (decide (x < 0)), .bool false] 49)).alloc (.cells #[.slice a2 (nlen y.natAbs) c2, .bool (decide (y < 0)), .bool false] 49)).alloc (.cells #[.slice none 0 0, .bool false, .bool false] 49) = w0 at *
  obtain ⟨⟨p1, p2, p3⟩, _⟩ := k1.three
  obtain ⟨⟨p4, p5, p6⟩, _⟩ := k2.three
  go_wp2_with fail
  (with_reducible refine HB.out.mono ?_); rintro e w1 ⟨rfl, rfl⟩
  go_wp2_with fail
  (with_reducible refine HU.out.mono ?_); rintro e w1 ⟨rfl, gg⟩
  have hb := hb0.trans (gg.mono hb0.size)
  replace k1 := k1.later gg
  replace k2 := k2.later gg
  replace k3 := k3.later gg
  have hsz1 := gg.size
  clear p1 p2 p3 p4 p5 p6
  obtain ⟨⟨p1, p2, p3⟩, _⟩ := k1.three
  obtain ⟨⟨p4, p5, p6⟩, _⟩ := k2.three
  have HS := HUL _ gg
  go_wp2_with fail
  (with_reducible refine HS.out.mono ?_); rintro e w2 ⟨rfl, g2⟩
  replace hb := hb.trans (g2.mono hb.size)
  replace k1 := k1.later g2
  replace k2 := k2.later g2
  replace k3 := k3.later g2
  have hsz2 := g2.size
  clear p1 p2 p3 p4 p5 p6
  obtain ⟨⟨p1, p2, p3⟩, _⟩ := k1.three
  obtain ⟨⟨p4, p5, p6⟩, _⟩ := k2.three
  have g4 : Below w2.heap.size w2 (w2.alloc (.cells #[.int .u32 1] 75)) := (Below.refl _ _).alloc (Nat.le_refl _) _
  have k4 := Blk.new w2 #[.int .u32 1] 75
  have HO := hid (of_nat (nat_one k4) false (by rw [nlen_one]; decide))
  rw [show (false && decide (0 < 1)) = false by simp] at HO
  replace hb := hb.trans (g4.mono hb.size)
  replace k3 := k3.later g4
  replace k1 := k1.later g4
  obtain ⟨⟨s1, s2, s3⟩, _⟩ := k1.three
  go_wp2_with fail
  (with_reducible refine HO.out.mono ?_); rintro e w9 ⟨rfl, g5⟩
  replace hb := hb.trans (g5.mono hb.size)
  have hlt3 := k3.lt
  replace k3 := k3.later g5
  replace k4 := k4.later g5
  obtain ⟨⟨r1, r2, r3⟩, r4, r5, r6⟩ := k3.three
  go_wp2
  have k3F := k3.set3 (Value.slice (some ⟨w2.heap.size, 0, none⟩) 1 1) (.bool false) (.bool false)
  obtain ⟨⟨z1, z2, z3⟩, _⟩ := k3F.three
  have hbF := ((hb.setCell (p := ⟨w.heap.size + 1 + 1, 0, none⟩) (by simp; omega) (Value.slice (some ⟨w2.heap.size, 0, none⟩) 1 1)).setCell (p := ⟨w.heap.size + 1 + 1, 1, none⟩) (by simp; omega) (.bool false)).setCell (p := ⟨w.heap.size + 1 + 1, 2, none⟩) (by simp; omega) (.bool false)
  refine bodyPost_ret (v := .agg #[Value.slice (some ⟨w2.heap.size, 0, none⟩) 1 1, .bool false, .bool false]) (by simp [results, Tryz.results82, go_sem, z1, z2, z3]) rfl ⟨_, rfl, ?_, hbF⟩
  exact RNum.of_int (IntV.mk (nat_one (k4.set3_ne (by omega) _ _ _)) (by rw [HZ.out]; rfl) (by rw [HZ.out]; rfl)) (by rw [HZ.out]; decide)
set_option maxRecDepth 100000 in
set_option maxHeartbeats 4000000 in
theorem pow2_base {v u : Value} {x y : Int} {w : World} (hv : IntV w v x) (hu : IntV w u y) (hx : nlen x.natAbs ≤ 1000) (hy : nlen y.natAbs ≤ 1000) (hx0 : x = 0) (hy0 : 0 < y) :
    Calls Tryz.prog 82 #[v, u] w fun e w' => ∃ s, e = .returned s ∧ RNum w' s (powI x y) ∧ Below w.heap.size w w' := by
  obtain ⟨a1, c1, rfl, h1⟩ := hv.shape
  obtain ⟨a2, c2, rfl, h2⟩ := hu.shape
  have k1 := Blk.new w #[.slice a1 (nlen x.natAbs) c1, .bool (decide (x < 0)), .bool false] 49
  have k2 := Blk.new (w.alloc (.cells #[.slice a1 (nlen x.natAbs) c1, .bool (decide (x < 0)), .bool false] 49)) #[.slice a2 (nlen y.natAbs) c2, .bool (decide (y < 0)), .bool false] 49
  have k3 := Blk.new ((w.alloc (.cells #[.slice a1 (nlen x.natAbs) c1, .bool (decide (x < 0)), .bool false] 49)).alloc (.cells #[.slice a2 (nlen y.natAbs) c2, .bool (decide (y < 0)), .bool false] 49)) #[.slice none 0 0, .bool false, .bool false] 49
  simp only [World.size_alloc] at k2 k3
  replace k1 := (k1.alloc (.cells #[.slice a2 (nlen y.natAbs) c2, .bool (decide (y < 0)), .bool false] 49)).alloc (.cells #[.slice none 0 0, .bool false, .bool false] 49)
  replace k2 := k2.alloc (.cells #[.slice none 0 0, .bool false, .bool false] 49)
  have hb0 : Below w.heap.size w (((w.alloc (.cells #[.slice a1 (nlen x.natAbs) c1, .bool (decide (x < 0)), .bool false] 49)).alloc (.cells #[.slice a2 (nlen y.natAbs) c2, .bool (decide (y < 0)), .bool false] 49)).alloc (.cells #[.slice none 0 0, .bool false, .bool false] 49)) := (((Below.refl _ _).alloc (Nat.le_refl _) _).alloc (by simp) _).alloc (by simp; omega) _
  have hvw := hv
  replace hv := hv.below hb0
  replace hu := hu.below hb0
  replace h1 := h1.below hb0
  replace h2 := h2.below hb0
  have HB := hid (bit_nat h2 (by omega) 0 (by decide) (by decide))
  have HU := hid (unit_fn (show NumV _ _ x.natAbs _ false from hv) (by omega))
  have HS := hid (sign_nat (show NumV _ _ y.natAbs _ false from hu))
  have HS1 := hid (sign_nat (show NumV _ _ x.natAbs _ false from hv))
  have hsz0 : (((w.alloc (.cells #[.slice a1 (nlen x.natAbs) c1, .bool (decide (x < 0)), .bool false] 49)).alloc (.cells #[.slice a2 (nlen y.natAbs) c2, .bool (decide (y < 0)), .bool false] 49)).alloc (.cells #[.slice none 0 0, .bool false, .bool false] 49)).heap.size = w.heap.size + 3 := by simp
  have hu1 : x.natAbs ≠ 1 := by omega
  have HZ := hid (powI_base0 hx0 hy0)
  have hu0 : (!false && decide (x.natAbs = 1)) = false := by rw [decide_eq_false hu1]; rfl
  rw [hu0] at HU
  have h0t : (0 : Int).toNat = 0 := rfl
  rw [h0t] at HB
  clear HS HS1 h1 h2
  have HUL : ∀ w', Below (((w.alloc (.cells #[.slice a1 (nlen x.natAbs) c1, .bool (decide (x < 0)), .bool false] 49)).alloc (.cells #[.slice a2 (nlen y.natAbs) c2, .bool (decide (y < 0)), .bool false] 49)).alloc (.cells #[.slice none 0 0, .bool false, .bool false] 49)).heap.size (((w.alloc (.cells #[.slice a1 (nlen x.natAbs) c1, .bool (decide (x < 0)), .bool false] 49)).alloc (.cells #[.slice a2 (nlen y.natAbs) c2, .bool (decide (y < 0)), .bool false] 49)).alloc (.cells #[.slice none 0 0, .bool false, .bool false] 49)) w' → Hid (Calls Tryz.prog 70 #[.agg #[.slice a2 (nlen y.natAbs) c2, .bool (decide (y < 0)), .bool false]] w' fun e w'' => e = .returned (.int .i64 1) ∧ Below w'.heap.size w' w'') := fun w' g => hid (by
    have hh := sign_nat (show NumV _ _ y.natAbs _ false from hu.below g)
    rw [show sgn y.natAbs (decide (y < 0)) false = 1 by rw [decide_eq_false (show ¬ y < 0 by omega)]; unfold sgn; simp; omega] at hh
    exact hh)
  have HXL : ∀ w', Below (((w.alloc (.cells #[.slice a1 (nlen x.natAbs) c1, .bool (decide (x < 0)), .bool false] 49)).alloc (.cells #[.slice a2 (nlen y.natAbs) c2, .bool (decide (y < 0)), .bool false] 49)).alloc (.cells #[.slice none 0 0, .bool false, .bool false] 49)).heap.size (((w.alloc (.cells #[.slice a1 (nlen x.natAbs) c1, .bool (decide (x < 0)), .bool false] 49)).alloc (.cells #[.slice a2 (nlen y.natAbs) c2, .bool (decide (y < 0)), .bool false] 49)).alloc (.cells #[.slice none 0 0, .bool false, .bool false] 49)) w' → Hid (Calls Tryz.prog 70 #[.agg #[.slice a1 (nlen x.natAbs) c1, .bool (decide (x < 0)), .bool false]] w' fun e w'' => e = .returned (.int .i64 0) ∧ Below w'.heap.size w' w'') := fun w' g => hid (by
    have hh := sign_nat (show NumV _ _ x.natAbs _ false from hv.below g)
    rw [show sgn x.natAbs (decide (x < 0)) false = 0 by rw [hx0]; rfl] at hh
    exact hh)
  have hn0 : nlen x.natAbs = 0 := by rw [hx0]; rfl
  have hs0 : decide (x < 0) = false := decide_eq_false (by omega)
  clear hu hv hy0 hx0
  rw [hn0, hs0] at HXL HU hb0 k1 k2 k3 hsz0 HUL HB
  rw [hn0, hs0]
  clear hn0 hs0 hx
  generalize y.natAbs.testBit 0 = odd at *
  generalize powI x y = Z at *
  generalize decide (y < 0) = sy at *
  generalize y.natAbs = N at *
  clear hu1 hu0
  go_enter Tryz.func82, Tryz.ntmps82
  go_wp2_with fail
  generalize ((w.alloc (.cells #[.slice a1 0 c1, .bool (false), .bool false] 49)).alloc (.cells #[.slice a2 (nlen y.natAbs) c2, .bool (decide (y < 0)), .bool false] 49)).alloc (.cells #[.slice none 0 0, .bool false, .bool false] 49) = w0 at *
  obtain ⟨⟨p1, p2, p3⟩, _⟩ := k1.three
  obtain ⟨⟨p4, p5, p6⟩, _⟩ := k2.three
  go_wp2_with fail
  (with_reducible refine HB.out.mono ?_); rintro e w1 ⟨rfl, rfl⟩
  go_wp2_with fail
  (with_reducible refine HU.out.mono ?_); rintro e w1 ⟨rfl, gg⟩
  have hb := hb0.trans (gg.mono hb0.size)
  replace k1 := k1.later gg
  replace k2 := k2.later gg
  replace k3 := k3.later gg
  have hsz1 := gg.size
  clear p1 p2 p3 p4 p5 p6
  obtain ⟨⟨p1, p2, p3⟩, _⟩ := k1.three
  obtain ⟨⟨p4, p5, p6⟩, _⟩ := k2.three
  have HS := HUL _ gg
  go_wp2_with fail
  (with_reducible refine HS.out.mono ?_); rintro e w2 ⟨rfl, g2⟩
  replace hb := hb.trans (g2.mono hb.size)
  replace k1 := k1.later g2
  replace k2 := k2.later g2
  replace k3 := k3.later g2
  have hsz2 := g2.size
  clear p1 p2 p3 p4 p5 p6
  obtain ⟨⟨p1, p2, p3⟩, _⟩ := k1.three
  obtain ⟨⟨p4, p5, p6⟩, _⟩ := k2.three
  have HS1 := HXL _ (gg.trans (g2.mono hsz1))
  go_wp2_with fail
  (with_reducible refine HS1.out.mono ?_); rintro e w3 ⟨rfl, g3⟩
  replace hb := hb.trans (g3.mono hb.size)
  replace k1 := k1.later g3
  replace k2 := k2.later g3
  replace k3 := k3.later g3
  have hsz3 := g3.size
  clear p1 p2 p3 p4 p5 p6
  obtain ⟨⟨p1, p2, p3⟩, _⟩ := k1.three
  obtain ⟨⟨p4, p5, p6⟩, _⟩ := k2.three
  have hlt3 := k3.lt
  obtain ⟨⟨r1, r2, r3⟩, r4, r5, r6⟩ := k3.three
  go_wp2
  have k3F := k3.set3 (.slice a1 0 c1) (.bool false) (.bool false)
  obtain ⟨⟨z1, z2, z3⟩, _⟩ := k3F.three
  have hbF := ((hb.setCell (p := ⟨w.heap.size + 1 + 1, 0, none⟩) (by simp; omega) (.slice a1 0 c1)).setCell (p := ⟨w.heap.size + 1 + 1, 1, none⟩) (by simp; omega) (.bool false)).setCell (p := ⟨w.heap.size + 1 + 1, 2, none⟩) (by simp; omega) (.bool false)
  refine bodyPost_ret (v := .agg #[.slice a1 0 c1, .bool false, .bool false]) (by simp [results, Tryz.results82, go_sem, z1, z2, z3]) rfl ⟨_, rfl, ?_, hbF⟩
  rw [HZ.out]
  exact RNum.of_int (rnum_zero a1 c1) (by decide)
set_option maxRecDepth 100000 in
set_option maxHeartbeats 4000000 in
theorem pow2_far1 {v u : Value} {x y : Int} {w : World} (hv : IntV w v x) (hu : IntV w u y) (hx : nlen x.natAbs ≤ 1000) (hy : nlen y.natAbs ≤ 1000) (hx2 : 2 ≤ x.natAbs) (hy0 : 2100 < y) (hl2 : 1 < nlen y.natAbs) :
    Calls Tryz.prog 82 #[v, u] w fun e w' => ∃ s, e = .returned s ∧ RNum w' s (powI x y) ∧ Below w.heap.size w w' := by
  obtain ⟨a1, c1, rfl, h1⟩ := hv.shape
  obtain ⟨a2, c2, rfl, h2⟩ := hu.shape
  have k1 := Blk.new w #[.slice a1 (nlen x.natAbs) c1, .bool (decide (x < 0)), .bool false] 49
  have k2 := Blk.new (w.alloc (.cells #[.slice a1 (nlen x.natAbs) c1, .bool (decide (x < 0)), .bool false] 49)) #[.slice a2 (nlen y.natAbs) c2, .bool (decide (y < 0)), .bool false] 49
  have k3 := Blk.new ((w.alloc (.cells #[.slice a1 (nlen x.natAbs) c1, .bool (decide (x < 0)), .bool false] 49)).alloc (.cells #[.slice a2 (nlen y.natAbs) c2, .bool (decide (y < 0)), .bool false] 49)) #[.slice none 0 0, .bool false, .bool false] 49
  simp only [World.size_alloc] at k2 k3
  replace k1 := (k1.alloc (.cells #[.slice a2 (nlen y.natAbs) c2, .bool (decide (y < 0)), .bool false] 49)).alloc (.cells #[.slice none 0 0, .bool false, .bool false] 49)
  replace k2 := k2.alloc (.cells #[.slice none 0 0, .bool false, .bool false] 49)
  have hb0 : Below w.heap.size w (((w.alloc (.cells #[.slice a1 (nlen x.natAbs) c1, .bool (decide (x < 0)), .bool false] 49)).alloc (.cells #[.slice a2 (nlen y.natAbs) c2, .bool (decide (y < 0)), .bool false] 49)).alloc (.cells #[.slice none 0 0, .bool false, .bool false] 49)) := (((Below.refl _ _).alloc (Nat.le_refl _) _).alloc (by simp) _).alloc (by simp; omega) _
  have hvw := hv
  replace hv := hv.below hb0
  replace hu := hu.below hb0
  replace h1 := h1.below hb0
  replace h2 := h2.below hb0
  have HB := hid (bit_nat h2 (by omega) 0 (by decide) (by decide))
  have HU := hid (unit_fn (show NumV _ _ x.natAbs _ false from hv) (by omega))
  have HS := hid (sign_nat (show NumV _ _ y.natAbs _ false from hu))
  have HS1 := hid (sign_nat (show NumV _ _ x.natAbs _ false from hv))
  have hsz0 : (((w.alloc (.cells #[.slice a1 (nlen x.natAbs) c1, .bool (decide (x < 0)), .bool false] 49)).alloc (.cells #[.slice a2 (nlen y.natAbs) c2, .bool (decide (y < 0)), .bool false] 49)).alloc (.cells #[.slice none 0 0, .bool false, .bool false] 49)).heap.size = w.heap.size + 3 := by simp
  have hu1 : x.natAbs ≠ 1 := by omega
  have HZ := hid (show big600 ≤ (powI x y).natAbs by rw [powI_else hu1]; exact pow_big x _ hx2 (by omega))
  have hu0 : (!false && decide (x.natAbs = 1)) = false := by rw [decide_eq_false hu1]; rfl
  rw [hu0] at HU
  have h0t : (0 : Int).toNat = 0 := rfl
  rw [h0t] at HB
  clear HS HS1 h1
  have hSX : ∃ S : Int, sgn x.natAbs (decide (x < 0)) false = S ∧ ¬ S = 0 := ⟨_, rfl, by unfold sgn; by_cases h : x < 0 <;> simp [h] <;> omega⟩
  obtain ⟨SX, hsx, hsx0⟩ := hSX
  have HUL : ∀ w', Below (((w.alloc (.cells #[.slice a1 (nlen x.natAbs) c1, .bool (decide (x < 0)), .bool false] 49)).alloc (.cells #[.slice a2 (nlen y.natAbs) c2, .bool (decide (y < 0)), .bool false] 49)).alloc (.cells #[.slice none 0 0, .bool false, .bool false] 49)).heap.size (((w.alloc (.cells #[.slice a1 (nlen x.natAbs) c1, .bool (decide (x < 0)), .bool false] 49)).alloc (.cells #[.slice a2 (nlen y.natAbs) c2, .bool (decide (y < 0)), .bool false] 49)).alloc (.cells #[.slice none 0 0, .bool false, .bool false] 49)) w' → Hid (Calls Tryz.prog 70 #[.agg #[.slice a2 (nlen y.natAbs) c2, .bool (decide (y < 0)), .bool false]] w' fun e w'' => e = .returned (.int .i64 1) ∧ Below w'.heap.size w' w'') := fun w' g => hid (by
    have hh := sign_nat (show NumV _ _ y.natAbs _ false from hu.below g)
    rw [show sgn y.natAbs (decide (y < 0)) false = 1 by rw [decide_eq_false (show ¬ y < 0 by omega)]; unfold sgn; simp; omega] at hh
    exact hh)
  have HXL : ∀ w', Below (((w.alloc (.cells #[.slice a1 (nlen x.natAbs) c1, .bool (decide (x < 0)), .bool false] 49)).alloc (.cells #[.slice a2 (nlen y.natAbs) c2, .bool (decide (y < 0)), .bool false] 49)).alloc (.cells #[.slice none 0 0, .bool false, .bool false] 49)).heap.size (((w.alloc (.cells #[.slice a1 (nlen x.natAbs) c1, .bool (decide (x < 0)), .bool false] 49)).alloc (.cells #[.slice a2 (nlen y.natAbs) c2, .bool (decide (y < 0)), .bool false] 49)).alloc (.cells #[.slice none 0 0, .bool false, .bool false] 49)) w' → Hid (Calls Tryz.prog 70 #[.agg #[.slice a1 (nlen x.natAbs) c1, .bool (decide (x < 0)), .bool false]] w' fun e w'' => e = .returned (.int .i64 SX) ∧ Below w'.heap.size w' w'') := fun w' g => hid (by
    have hh := sign_nat (show NumV _ _ x.natAbs _ false from hv.below g)
    rw [show sgn x.natAbs (decide (x < 0)) false = SX by exact hsx] at hh
    exact hh)
  clear hu hv hy0 hx2 hsx h2
  generalize y.natAbs.testBit 0 = odd at *
  generalize powI x y = Z at *
  generalize decide (x < 0) = sx at *
  generalize decide (y < 0) = sy at *
  generalize x.natAbs = M at *
  generalize y.natAbs = N at *
  clear hu1 hu0
  go_enter Tryz.func82, Tryz.ntmps82
  go_wp2_with fail
  generalize ((w.alloc (.cells #[.slice a1 (nlen M) c1, .bool (sx), .bool false] 49)).alloc (.cells #[.slice a2 (nlen N) c2, .bool (sy), .bool false] 49)).alloc (.cells #[.slice none 0 0, .bool false, .bool false] 49) = w0 at *
  obtain ⟨⟨p1, p2, p3⟩, _⟩ := k1.three
  obtain ⟨⟨p4, p5, p6⟩, _⟩ := k2.three
  go_wp2_with fail
  (with_reducible refine HB.out.mono ?_); rintro e w1 ⟨rfl, rfl⟩
  go_wp2_with fail
  (with_reducible refine HU.out.mono ?_); rintro e w1 ⟨rfl, gg⟩
  have hb := hb0.trans (gg.mono hb0.size)
  replace k1 := k1.later gg
  replace k2 := k2.later gg
  replace k3 := k3.later gg
  have hsz1 := gg.size
  clear p1 p2 p3 p4 p5 p6
  obtain ⟨⟨p1, p2, p3⟩, _⟩ := k1.three
  obtain ⟨⟨p4, p5, p6⟩, _⟩ := k2.three
  have HS := HUL _ gg
  go_wp2_with fail
  (with_reducible refine HS.out.mono ?_); rintro e w2 ⟨rfl, g2⟩
  replace hb := hb.trans (g2.mono hb.size)
  replace k1 := k1.later g2
  replace k2 := k2.later g2
  replace k3 := k3.later g2
  have hsz2 := g2.size
  clear p1 p2 p3 p4 p5 p6
  obtain ⟨⟨p1, p2, p3⟩, _⟩ := k1.three
  obtain ⟨⟨p4, p5, p6⟩, _⟩ := k2.three
  have HS1 := HXL _ (gg.trans (g2.mono hsz1))
  go_wp2_with fail
  (with_reducible refine HS1.out.mono ?_); rintro e w3 ⟨rfl, g3⟩
  replace hb := hb.trans (g3.mono hb.size)
  replace k1 := k1.later g3
  replace k2 := k2.later g3
  replace k3 := k3.later g3
  have hsz3 := g3.size
  clear p1 p2 p3 p4 p5 p6
  obtain ⟨⟨p1, p2, p3⟩, _⟩ := k1.three
  obtain ⟨⟨p4, p5, p6⟩, _⟩ := k2.three
  have hlt3 := k3.lt
  obtain ⟨⟨r1, r2, r3⟩, r4, r5, r6⟩ := k3.three
  go_wp2
  have k3F := k3.set3 (.slice none 0 0) (.bool false) (.bool true)
  obtain ⟨⟨z1, z2, z3⟩, _⟩ := k3F.three
  have hbF := ((hb.setCell (p := ⟨w.heap.size + 1 + 1, 0, none⟩) (by simp; omega) (.slice none 0 0)).setCell (p := ⟨w.heap.size + 1 + 1, 1, none⟩) (by simp; omega) (.bool false)).setCell (p := ⟨w.heap.size + 1 + 1, 2, none⟩) (by simp; omega) (.bool true)
  refine bodyPost_ret (v := .agg #[.slice none 0 0, .bool false, .bool true]) (by simp [results, Tryz.results82, go_sem, z1, z2, z3]) rfl ⟨_, rfl, ?_, hbF⟩
  exact ⟨0, false, true, ⟨_, rfl, nat_zero _⟩, (fun h => by cases h), (fun _ => HZ.out), by decide⟩
set_option maxRecDepth 100000 in
set_option maxHeartbeats 4000000 in
theorem pow2_far2 {v u : Value} {x y : Int} {w : World} (hv : IntV w v x) (hu : IntV w u y) (hx : nlen x.natAbs ≤ 1000) (hy : nlen y.natAbs ≤ 1000) (hx2 : 2 ≤ x.natAbs) (hy0 : 2100 < y) (hl1 : nlen y.natAbs = 1) :
    Calls Tryz.prog 82 #[v, u] w fun e w' => ∃ s, e = .returned s ∧ RNum w' s (powI x y) ∧ Below w.heap.size w w' := by
  obtain ⟨a1, c1, rfl, h1⟩ := hv.shape
  obtain ⟨a2, c2, rfl, h2⟩ := hu.shape
  have k1 := Blk.new w #[.slice a1 (nlen x.natAbs) c1, .bool (decide (x < 0)), .bool false] 49
  have k2 := Blk.new (w.alloc (.cells #[.slice a1 (nlen x.natAbs) c1, .bool (decide (x < 0)), .bool false] 49)) #[.slice a2 (nlen y.natAbs) c2, .bool (decide (y < 0)), .bool false] 49
  have k3 := Blk.new ((w.alloc (.cells #[.slice a1 (nlen x.natAbs) c1, .bool (decide (x < 0)), .bool false] 49)).alloc (.cells #[.slice a2 (nlen y.natAbs) c2, .bool (decide (y < 0)), .bool false] 49)) #[.slice none 0 0, .bool false, .bool false] 49
  simp only [World.size_alloc] at k2 k3
  replace k1 := (k1.alloc (.cells #[.slice a2 (nlen y.natAbs) c2, .bool (decide (y < 0)), .bool false] 49)).alloc (.cells #[.slice none 0 0, .bool false, .bool false] 49)
  replace k2 := k2.alloc (.cells #[.slice none 0 0, .bool false, .bool false] 49)
  have hb0 : Below w.heap.size w (((w.alloc (.cells #[.slice a1 (nlen x.natAbs) c1, .bool (decide (x < 0)), .bool false] 49)).alloc (.cells #[.slice a2 (nlen y.natAbs) c2, .bool (decide (y < 0)), .bool false] 49)).alloc (.cells #[.slice none 0 0, .bool false, .bool false] 49)) := (((Below.refl _ _).alloc (Nat.le_refl _) _).alloc (by simp) _).alloc (by simp; omega) _
  have hvw := hv
  replace hv := hv.below hb0
  replace hu := hu.below hb0
  replace h1 := h1.below hb0
  replace h2 := h2.below hb0
  have HB := hid (bit_nat h2 (by omega) 0 (by decide) (by decide))
  have HU := hid (unit_fn (show NumV _ _ x.natAbs _ false from hv) (by omega))
  have HS := hid (sign_nat (show NumV _ _ y.natAbs _ false from hu))
  have HS1 := hid (sign_nat (show NumV _ _ x.natAbs _ false from hv))
  have hsz0 : (((w.alloc (.cells #[.slice a1 (nlen x.natAbs) c1, .bool (decide (x < 0)), .bool false] 49)).alloc (.cells #[.slice a2 (nlen y.natAbs) c2, .bool (decide (y < 0)), .bool false] 49)).alloc (.cells #[.slice none 0 0, .bool false, .bool false] 49)).heap.size = w.heap.size + 3 := by simp
  have hu1 : x.natAbs ≠ 1 := by omega
  have HZ := hid (show big600 ≤ (powI x y).natAbs by rw [powI_else hu1]; exact pow_big x _ hx2 (by omega))
  have hu0 : (!false && decide (x.natAbs = 1)) = false := by rw [decide_eq_false hu1]; rfl
  rw [hu0] at HU
  have h0t : (0 : Int).toNat = 0 := rfl
  rw [h0t] at HB
  clear HS HS1 h1
  have hSX : ∃ S : Int, sgn x.natAbs (decide (x < 0)) false = S ∧ ¬ S = 0 := ⟨_, rfl, by unfold sgn; by_cases h : x < 0 <;> simp [h] <;> omega⟩
  obtain ⟨SX, hsx, hsx0⟩ := hSX
  have HUL : ∀ w', Below (((w.alloc (.cells #[.slice a1 (nlen x.natAbs) c1, .bool (decide (x < 0)), .bool false] 49)).alloc (.cells #[.slice a2 (nlen y.natAbs) c2, .bool (decide (y < 0)), .bool false] 49)).alloc (.cells #[.slice none 0 0, .bool false, .bool false] 49)).heap.size (((w.alloc (.cells #[.slice a1 (nlen x.natAbs) c1, .bool (decide (x < 0)), .bool false] 49)).alloc (.cells #[.slice a2 (nlen y.natAbs) c2, .bool (decide (y < 0)), .bool false] 49)).alloc (.cells #[.slice none 0 0, .bool false, .bool false] 49)) w' → Hid (Calls Tryz.prog 70 #[.agg #[.slice a2 (nlen y.natAbs) c2, .bool (decide (y < 0)), .bool false]] w' fun e w'' => e = .returned (.int .i64 1) ∧ Below w'.heap.size w' w'') := fun w' g => hid (by
    have hh := sign_nat (show NumV _ _ y.natAbs _ false from hu.below g)
    rw [show sgn y.natAbs (decide (y < 0)) false = 1 by rw [decide_eq_false (show ¬ y < 0 by omega)]; unfold sgn; simp; omega] at hh
    exact hh)
  have HXL : ∀ w', Below (((w.alloc (.cells #[.slice a1 (nlen x.natAbs) c1, .bool (decide (x < 0)), .bool false] 49)).alloc (.cells #[.slice a2 (nlen y.natAbs) c2, .bool (decide (y < 0)), .bool false] 49)).alloc (.cells #[.slice none 0 0, .bool false, .bool false] 49)).heap.size (((w.alloc (.cells #[.slice a1 (nlen x.natAbs) c1, .bool (decide (x < 0)), .bool false] 49)).alloc (.cells #[.slice a2 (nlen y.natAbs) c2, .bool (decide (y < 0)), .bool false] 49)).alloc (.cells #[.slice none 0 0, .bool false, .bool false] 49)) w' → Hid (Calls Tryz.prog 70 #[.agg #[.slice a1 (nlen x.natAbs) c1, .bool (decide (x < 0)), .bool false]] w' fun e w'' => e = .returned (.int .i64 SX) ∧ Below w'.heap.size w' w'') := fun w' g => hid (by
    have hh := sign_nat (show NumV _ _ x.natAbs _ false from hv.below g)
    rw [show sgn x.natAbs (decide (x < 0)) false = SX by exact hsx] at hh
    exact hh)
  rw [hl1] at HU HUL HXL hb0 k1 k2 k3 hsz0 HB h2
  rw [hl1]
  have hD : D y.natAbs 0 = y.natAbs := D_zero_of_one _ hl1
  have hcell : ∀ w', Below (((w.alloc (.cells #[.slice a1 (nlen x.natAbs) c1, .bool (decide (x < 0)), .bool false] 49)).alloc (.cells #[.slice a2 1 c2, .bool (decide (y < 0)), .bool false] 49)).alloc (.cells #[.slice none 0 0, .bool false, .bool false] 49)).heap.size (((w.alloc (.cells #[.slice a1 (nlen x.natAbs) c1, .bool (decide (x < 0)), .bool false] 49)).alloc (.cells #[.slice a2 1 c2, .bool (decide (y < 0)), .bool false] 49)).alloc (.cells #[.slice none 0 0, .bool false, .bool false] 49)) w' → ∃ b off, a2 = some ⟨b, off, none⟩ ∧ w'.cell? ⟨b, off, none⟩ = some (.int .u32 ((y.natAbs : Nat) : Int)) := fun w' g => by
    obtain ⟨a', cap', hv', _, hc⟩ := NatRep.below h2 g
    rw [hl1] at hv' hc
    simp only [Value.slice.injEq, true_and] at hv'
    obtain ⟨rfl, rfl⟩ := hv'
    obtain ⟨b, off, hab, _, hc0⟩ := hc (by omega)
    have hc1 := hc0 0 (by omega)
    rw [Nat.add_zero, hD] at hc1
    exact ⟨b, off, hab, hc1⟩
  have hyN : 2100 < y.natAbs := by omega
  clear hu hv hy0 hx2 hsx h2
  generalize y.natAbs.testBit 0 = odd at *
  generalize powI x y = Z at *
  generalize decide (x < 0) = sx at *
  generalize decide (y < 0) = sy at *
  generalize x.natAbs = M at *
  generalize y.natAbs = N at *
  clear hu1 hu0
  go_enter Tryz.func82, Tryz.ntmps82
  go_wp2_with fail
  generalize ((w.alloc (.cells #[.slice a1 (nlen M) c1, .bool (sx), .bool false] 49)).alloc (.cells #[.slice a2 1 c2, .bool (sy), .bool false] 49)).alloc (.cells #[.slice none 0 0, .bool false, .bool false] 49) = w0 at *
  obtain ⟨⟨p1, p2, p3⟩, _⟩ := k1.three
  obtain ⟨⟨p4, p5, p6⟩, _⟩ := k2.three
  go_wp2_with fail
  (with_reducible refine HB.out.mono ?_); rintro e w1 ⟨rfl, rfl⟩
  go_wp2_with fail
  (with_reducible refine HU.out.mono ?_); rintro e w1 ⟨rfl, gg⟩
  have hb := hb0.trans (gg.mono hb0.size)
  replace k1 := k1.later gg
  replace k2 := k2.later gg
  replace k3 := k3.later gg
  have hsz1 := gg.size
  clear p1 p2 p3 p4 p5 p6
  obtain ⟨⟨p1, p2, p3⟩, _⟩ := k1.three
  obtain ⟨⟨p4, p5, p6⟩, _⟩ := k2.three
  have HS := HUL _ gg
  go_wp2_with fail
  (with_reducible refine HS.out.mono ?_); rintro e w2 ⟨rfl, g2⟩
  replace hb := hb.trans (g2.mono hb.size)
  replace k1 := k1.later g2
  replace k2 := k2.later g2
  replace k3 := k3.later g2
  have hsz2 := g2.size
  clear p1 p2 p3 p4 p5 p6
  obtain ⟨⟨p1, p2, p3⟩, _⟩ := k1.three
  obtain ⟨⟨p4, p5, p6⟩, _⟩ := k2.three
  have HS1 := HXL _ (gg.trans (g2.mono hsz1))
  go_wp2_with fail
  (with_reducible refine HS1.out.mono ?_); rintro e w3 ⟨rfl, g3⟩
  replace hb := hb.trans (g3.mono hb.size)
  replace k1 := k1.later g3
  replace k2 := k2.later g3
  replace k3 := k3.later g3
  have hsz3 := g3.size
  clear p1 p2 p3 p4 p5 p6
  obtain ⟨⟨p1, p2, p3⟩, _⟩ := k1.three
  obtain ⟨⟨p4, p5, p6⟩, _⟩ := k2.three
  obtain ⟨cb, co, rfl, hce⟩ := hcell _ ((gg.trans (g2.mono hsz1)).trans (g3.mono (Nat.le_trans hsz1 hsz2)))
  clear hcell
  have hyI : (2100 : Int) < ((N : Nat) : Int) := by omega
  have hlt3 := k3.lt
  obtain ⟨⟨r1, r2, r3⟩, r4, r5, r6⟩ := k3.three
  go_wp2
  have k3F := k3.set3 (.slice none 0 0) (.bool false) (.bool true)
  obtain ⟨⟨z1, z2, z3⟩, _⟩ := k3F.three
  have hbF := ((hb.setCell (p := ⟨w.heap.size + 1 + 1, 0, none⟩) (by simp; omega) (.slice none 0 0)).setCell (p := ⟨w.heap.size + 1 + 1, 1, none⟩) (by simp; omega) (.bool false)).setCell (p := ⟨w.heap.size + 1 + 1, 2, none⟩) (by simp; omega) (.bool true)
  refine bodyPost_ret (v := .agg #[.slice none 0 0, .bool false, .bool true]) (by simp [results, Tryz.results82, go_sem, z1, z2, z3]) rfl ⟨_, rfl, ?_, hbF⟩
  exact ⟨0, false, true, ⟨_, rfl, nat_zero _⟩, (fun h => by cases h), (fun _ => HZ.out), by decide⟩
set_option maxRecDepth 100000 in
set_option maxHeartbeats 4000000 in
theorem pow2_loop {v u : Value} {x y : Int} {w : World} (hv : IntV w v x) (hu : IntV w u y) (hx : nlen x.natAbs ≤ 1000) (hy : nlen y.natAbs ≤ 1000) (hx2 : 2 ≤ x.natAbs) (hy0 : 0 < y) (hy2 : y ≤ 2100) (hl1 : nlen y.natAbs = 1) :
    Calls Tryz.prog 82 #[v, u] w fun e w' => ∃ s, e = .returned s ∧ RNum w' s (powI x y) ∧ Below w.heap.size w w' := by
  obtain ⟨a1, c1, rfl, h1⟩ := hv.shape
  obtain ⟨a2, c2, rfl, h2⟩ := hu.shape
  have k1 := Blk.new w #[.slice a1 (nlen x.natAbs) c1, .bool (decide (x < 0)), .bool false] 49
  have k2 := Blk.new (w.alloc (.cells #[.slice a1 (nlen x.natAbs) c1, .bool (decide (x < 0)), .bool false] 49)) #[.slice a2 (nlen y.natAbs) c2, .bool (decide (y < 0)), .bool false] 49
  have k3 := Blk.new ((w.alloc (.cells #[.slice a1 (nlen x.natAbs) c1, .bool (decide (x < 0)), .bool false] 49)).alloc (.cells #[.slice a2 (nlen y.natAbs) c2, .bool (decide (y < 0)), .bool false] 49)) #[.slice none 0 0, .bool false, .bool false] 49
  simp only [World.size_alloc] at k2 k3
  replace k1 := (k1.alloc (.cells #[.slice a2 (nlen y.natAbs) c2, .bool (decide (y < 0)), .bool false] 49)).alloc (.cells #[.slice none 0 0, .bool false, .bool false] 49)
  replace k2 := k2.alloc (.cells #[.slice none 0 0, .bool false, .bool false] 49)
  have hb0 : Below w.heap.size w (((w.alloc (.cells #[.slice a1 (nlen x.natAbs) c1, .bool (decide (x < 0)), .bool false] 49)).alloc (.cells #[.slice a2 (nlen y.natAbs) c2, .bool (decide (y < 0)), .bool false] 49)).alloc (.cells #[.slice none 0 0, .bool false, .bool false] 49)) := (((Below.refl _ _).alloc (Nat.le_refl _) _).alloc (by simp) _).alloc (by simp; omega) _
  have hvw := hv
  replace hv := hv.below hb0
  replace hu := hu.below hb0
  replace h1 := h1.below hb0
  replace h2 := h2.below hb0
  have HB := hid (bit_nat h2 (by omega) 0 (by decide) (by decide))
  have HU := hid (unit_fn (show NumV _ _ x.natAbs _ false from hv) (by omega))
  have HS := hid (sign_nat (show NumV _ _ y.natAbs _ false from hu))
  have HS1 := hid (sign_nat (show NumV _ _ x.natAbs _ false from hv))
  have hsz0 : (((w.alloc (.cells #[.slice a1 (nlen x.natAbs) c1, .bool (decide (x < 0)), .bool false] 49)).alloc (.cells #[.slice a2 (nlen y.natAbs) c2, .bool (decide (y < 0)), .bool false] 49)).alloc (.cells #[.slice none 0 0, .bool false, .bool false] 49)).heap.size = w.heap.size + 3 := by simp
  have hu1 : x.natAbs ≠ 1 := by omega
  have HZ := hid (show powI x y = x ^ y.natAbs by rw [powI_else hu1, show y.toNat = y.natAbs by omega])
  have hu0 : (!false && decide (x.natAbs = 1)) = false := by rw [decide_eq_false hu1]; rfl
  rw [hu0] at HU
  have h0t : (0 : Int).toNat = 0 := rfl
  rw [h0t] at HB
  clear HS HS1 h1
  have hSX : ∃ S : Int, sgn x.natAbs (decide (x < 0)) false = S ∧ ¬ S = 0 := ⟨_, rfl, by unfold sgn; by_cases h : x < 0 <;> simp [h] <;> omega⟩
  obtain ⟨SX, hsx, hsx0⟩ := hSX
  have HUL : ∀ w', Below (((w.alloc (.cells #[.slice a1 (nlen x.natAbs) c1, .bool (decide (x < 0)), .bool false] 49)).alloc (.cells #[.slice a2 (nlen y.natAbs) c2, .bool (decide (y < 0)), .bool false] 49)).alloc (.cells #[.slice none 0 0, .bool false, .bool false] 49)).heap.size (((w.alloc (.cells #[.slice a1 (nlen x.natAbs) c1, .bool (decide (x < 0)), .bool false] 49)).alloc (.cells #[.slice a2 (nlen y.natAbs) c2, .bool (decide (y < 0)), .bool false] 49)).alloc (.cells #[.slice none 0 0, .bool false, .bool false] 49)) w' → Hid (Calls Tryz.prog 70 #[.agg #[.slice a2 (nlen y.natAbs) c2, .bool (decide (y < 0)), .bool false]] w' fun e w'' => e = .returned (.int .i64 1) ∧ Below w'.heap.size w' w'') := fun w' g => hid (by
    have hh := sign_nat (show NumV _ _ y.natAbs _ false from hu.below g)
    rw [show sgn y.natAbs (decide (y < 0)) false = 1 by rw [decide_eq_false (show ¬ y < 0 by omega)]; unfold sgn; simp; omega] at hh
    exact hh)
  have HXL : ∀ w', Below (((w.alloc (.cells #[.slice a1 (nlen x.natAbs) c1, .bool (decide (x < 0)), .bool false] 49)).alloc (.cells #[.slice a2 (nlen y.natAbs) c2, .bool (decide (y < 0)), .bool false] 49)).alloc (.cells #[.slice none 0 0, .bool false, .bool false] 49)).heap.size (((w.alloc (.cells #[.slice a1 (nlen x.natAbs) c1, .bool (decide (x < 0)), .bool false] 49)).alloc (.cells #[.slice a2 (nlen y.natAbs) c2, .bool (decide (y < 0)), .bool false] 49)).alloc (.cells #[.slice none 0 0, .bool false, .bool false] 49)) w' → Hid (Calls Tryz.prog 70 #[.agg #[.slice a1 (nlen x.natAbs) c1, .bool (decide (x < 0)), .bool false]] w' fun e w'' => e = .returned (.int .i64 SX) ∧ Below w'.heap.size w' w'') := fun w' g => hid (by
    have hh := sign_nat (show NumV _ _ x.natAbs _ false from hv.below g)
    rw [show sgn x.natAbs (decide (x < 0)) false = SX by exact hsx] at hh
    exact hh)
  rw [hl1] at HU HUL HXL hb0 k1 k2 k3 hsz0 HB h2
  rw [hl1]
  have hD : D y.natAbs 0 = y.natAbs := D_zero_of_one _ hl1
  have hcell : ∀ w', Below (((w.alloc (.cells #[.slice a1 (nlen x.natAbs) c1, .bool (decide (x < 0)), .bool false] 49)).alloc (.cells #[.slice a2 1 c2, .bool (decide (y < 0)), .bool false] 49)).alloc (.cells #[.slice none 0 0, .bool false, .bool false] 49)).heap.size (((w.alloc (.cells #[.slice a1 (nlen x.natAbs) c1, .bool (decide (x < 0)), .bool false] 49)).alloc (.cells #[.slice a2 1 c2, .bool (decide (y < 0)), .bool false] 49)).alloc (.cells #[.slice none 0 0, .bool false, .bool false] 49)) w' → ∃ b off, a2 = some ⟨b, off, none⟩ ∧ b < w'.heap.size ∧ w'.cell? ⟨b, off, none⟩ = some (.int .u32 ((y.natAbs : Nat) : Int)) := fun w' g => by
    obtain ⟨a', cap', hv', _, hc⟩ := NatRep.below h2 g
    rw [hl1] at hv' hc
    simp only [Value.slice.injEq, true_and] at hv'
    obtain ⟨rfl, rfl⟩ := hv'
    obtain ⟨b, off, hab, hbl, hc0⟩ := hc (by omega)
    have hc1 := hc0 0 (by omega)
    rw [Nat.add_zero, hD] at hc1
    exact ⟨b, off, hab, hbl, hc1⟩
  have hyN : y.natAbs ≤ 2100 := by omega
  have HX2 := hid hx2
  have HLX := hid hx
  clear hu hy0 hx2 hsx h2 hv hD hy2 hl1 hy hu0 hu1 hx
  generalize y.natAbs.testBit 0 = odd at *
  generalize powI x y = Z at *
  generalize decide (y < 0) = sy at *
  generalize y.natAbs = N at *
  go_enter Tryz.func82, Tryz.ntmps82
  go_wp2_with fail
  generalize ((w.alloc (.cells #[.slice a1 (nlen x.natAbs) c1, .bool (decide (x < 0)), .bool false] 49)).alloc (.cells #[.slice a2 1 c2, .bool (sy), .bool false] 49)).alloc (.cells #[.slice none 0 0, .bool false, .bool false] 49) = w0 at *
  obtain ⟨⟨p1, p2, p3⟩, _⟩ := k1.three
  obtain ⟨⟨p4, p5, p6⟩, _⟩ := k2.three
  go_wp2_with fail
  (with_reducible refine HB.out.mono ?_); rintro e w1 ⟨rfl, rfl⟩
  go_wp2_with fail
  (with_reducible refine HU.out.mono ?_); rintro e w1 ⟨rfl, gg⟩
  have hb := hb0.trans (gg.mono hb0.size)
  replace k1 := k1.later gg
  replace k2 := k2.later gg
  replace k3 := k3.later gg
  have hsz1 := gg.size
  clear p1 p2 p3 p4 p5 p6
  obtain ⟨⟨p1, p2, p3⟩, _⟩ := k1.three
  obtain ⟨⟨p4, p5, p6⟩, _⟩ := k2.three
  have HS := HUL _ gg
  go_wp2_with fail
  (with_reducible refine HS.out.mono ?_); rintro e w2 ⟨rfl, g2⟩
  replace hb := hb.trans (g2.mono hb.size)
  replace k1 := k1.later g2
  replace k2 := k2.later g2
  replace k3 := k3.later g2
  have hsz2 := g2.size
  clear p1 p2 p3 p4 p5 p6
  obtain ⟨⟨p1, p2, p3⟩, _⟩ := k1.three
  obtain ⟨⟨p4, p5, p6⟩, _⟩ := k2.three
  have HS1 := HXL _ (gg.trans (g2.mono hsz1))
  go_wp2_with fail
  (with_reducible refine HS1.out.mono ?_); rintro e w3 ⟨rfl, g3⟩
  replace hb := hb.trans (g3.mono hb.size)
  replace k1 := k1.later g3
  replace k2 := k2.later g3
  replace k3 := k3.later g3
  have hsz3 := g3.size
  clear p1 p2 p3 p4 p5 p6
  obtain ⟨⟨p1, p2, p3⟩, _⟩ := k1.three
  obtain ⟨⟨p4, p5, p6⟩, _⟩ := k2.three
  obtain ⟨cb, co, rfl, hcbl, hce⟩ := hcell _ ((gg.trans (g2.mono hsz1)).trans (g3.mono (Nat.le_trans hsz1 hsz2)))
  clear hcell HUL HXL HU HB HS HS1
  have hyI : ((N : Nat) : Int) ≤ 2100 := by omega
  have g4 : Below w3.heap.size w3 (w3.alloc (.cells #[.int .u32 1] 75)) := (Below.refl _ _).alloc (Nat.le_refl _) _
  have ho1 := own_one w3
  have HO := hid (of_nat (Own.len_eq ho1 nlen_one.symm rfl).nat false (by rw [nlen_one]; decide))
  rw [Bool.false_and] at HO
  replace hb := hb.trans (g4.mono hb.size)
  replace k1 := k1.later g4
  replace k2 := k2.later g4
  replace k3 := k3.later g4
  have hce4 := (g4.cell (p := ⟨cb, co, none⟩) hcbl).trans hce
  have hlt4 := g4.size
  have hs3 : w.heap.size + 3 ≤ w3.heap.size := by omega
  go_wp2_with fail
  generalize w3.alloc (.cells #[.int .u32 1] 75) = w4 at *
  (with_reducible refine HO.out.mono ?_); rintro e w5 ⟨rfl, g5⟩
  replace hb := hb.trans (g5.mono hb.size)
  replace k1 := k1.later g5
  replace k2 := k2.later g5
  replace k3 := k3.later g5
  have ho1 := Own.keep ho1 g5 (Nat.le_refl _)
  have hcbl4 := Nat.lt_of_lt_of_le hcbl hlt4
  have hce5 := (g5.cell (p := ⟨cb, co, none⟩) hcbl4).trans hce4
  have hlt5 := g5.size
  have g6 : Below w5.heap.size w5 (w5.alloc (.cells #[.slice (some ⟨w3.heap.size, 0, none⟩) 1 1, .bool false, .bool false] 49)) := (Below.refl _ _).alloc (Nat.le_refl _) _
  have kO := Blk.new w5 #[.slice (some ⟨w3.heap.size, 0, none⟩) 1 1, .bool false, .bool false] 49
  replace hb := hb.trans (g6.mono hb.size)
  replace k1 := k1.later g6
  replace k2 := k2.later g6
  replace k3 := k3.later g6
  have ho1 := (Own.keep ho1 g6 (Nat.le_refl _)).mono hs3
  have hO1 : OwnInt (w5.alloc (.cells #[.slice (some ⟨w3.heap.size, 0, none⟩) 1 1, .bool false, .bool false] 49)) (w.heap.size + 3) (.agg #[.slice (some ⟨w3.heap.size, 0, none⟩) 1 1, .bool false, .bool false]) (x ^ 0) := OwnInt.mk (Own.len_eq ho1 nlen_one.symm rfl) (by rw [Int.pow_zero]; rfl) (by rw [Int.pow_zero]; rfl)
  have hcbl5 := Nat.lt_of_lt_of_le hcbl4 hlt5
  have hce6 := (g6.cell (p := ⟨cb, co, none⟩) hcbl5).trans hce5
  have hBO : w.heap.size + 3 ≤ w5.heap.size := by omega
  clear p1 p2 p3 p4 p5 p6 hce hce4 hce5
  obtain ⟨⟨p4, p5, p6⟩, _⟩ := k2.three
  go_wp2_with fail
  generalize w5.alloc (.cells #[.slice (some ⟨w3.heap.size, 0, none⟩) 1 1, .bool false, .bool false] 49) = w6 at *
  generalize hBOe : w5.heap.size = BO at *
  clear p4 p5 p6 gg g2 g3 g4 g5 g6 hsz0 hsz1 hsz2 hsz3 hb0
  go_loopw [50] (fun kv wr => ∃ i : Nat, kv = .int .u32 i ∧ i ≤ N ∧ ∃ oa on oc og p, Blk wr BO #[.slice oa on oc, .bool og, .bool false] 49 ∧ Hid (p = x ^ i) ∧ OwnInt wr (w.heap.size + 3) (.agg #[.slice oa on oc, .bool og, .bool false]) p ∧ nlen p.natAbs ≤ 1000 ∧ Blk wr w.heap.size #[.slice a1 (nlen x.natAbs) c1, .bool (decide (x < 0)), .bool false] 49 ∧ Blk wr (w.heap.size + 1 + 1) #[.slice none 0 0, .bool false, .bool false] 49 ∧ Below w.heap.size w wr) (fun kv _ => N - (intOf kv).toNat)
  case atStart => exact ⟨0, rfl, Nat.zero_le _, _, _, _, _, x ^ 0, kO, hid rfl, hO1, by rw [Int.pow_zero]; decide, k1, k3, hb⟩
  case round =>
    obtain ⟨i, rfl, hi, oa, on, oc, og, p, kO, HPI, hO, hOl, k1, k3, hb⟩ := hrel
    have hlx := HLX.out
    by_cases hlt : i < N
    · obtain ⟨⟨p1, p2, p3⟩, _⟩ := k1.three
      obtain ⟨⟨o1, o2, o3⟩, o4, o5, o6⟩ := kO.three
      have HT := hid (timesN_int hO.int (hvw.below hb) (by omega) (by omega))
      have hm := nlen_mul_le p.natAbs x.natAbs
      rw [← Int.natAbs_mul] at hm
      generalize hr : p * x = r at *
      have HRX := hid (show r = x ^ (i + 1) by rw [← hr, HPI.out, pow_next])
      clear hr
      have hszr := hb.size
      go_wp2_with fail
      (with_reducible refine HT.out.mono ?_); rintro e w7 ⟨q, rfl, hq, gg⟩
      obtain ⟨qa, qn, qc, qb, rfl⟩ := hq.shape4
      have hltO := kO.lt
      replace kO := kO.later gg
      replace k1 := k1.later gg
      replace k3 := k3.later gg
      replace hb := hb.trans (gg.mono hb.size)
      clear p1 p2 p3 o1 o2 o3 o4 o5 o6
      obtain ⟨⟨o1, o2, o3⟩, o4, o5, o6⟩ := kO.three
      replace kO := kO.set3 (.slice qa qn qc) (.bool qb) (.bool false)
      replace k1 := k1.set3_ne (b := BO) (by omega) (.slice qa qn qc) (.bool qb) (.bool false)
      replace k3 := k3.set3_ne (b := BO) (by omega) (.slice qa qn qc) (.bool qb) (.bool false)
      replace hq := (hq.set3 hltO (.slice qa qn qc) (.bool qb) (.bool false)).mono (show w.heap.size + 3 ≤ wr.heap.size by omega)
      replace hb := ((hb.setCell (p := ⟨BO, 0, none⟩) (by show w.heap.size ≤ BO; omega) (.slice qa qn qc)).setCell (p := ⟨BO, 1, none⟩) (by show w.heap.size ≤ BO; omega) (.bool qb)).setCell (p := ⟨BO, 2, none⟩) (by show w.heap.size ≤ BO; omega) (.bool false)
      obtain ⟨⟨z1, z2, z3⟩, _⟩ := kO.three
      obtain ⟨qa', qc', hqe, hqn⟩ := hq.int.shape
      simp only [Value.agg.injEq, Array.mk.injEq, List.cons.injEq, Value.slice.injEq, Value.bool.injEq, and_true] at hqe
      obtain ⟨⟨rfl, rfl, rfl⟩, rfl⟩ := hqe
      have HBI := hid (bits_nat hqn (by omega))
      have HBG := hid (show 2010 < nbits r.natAbs → big600 ≤ Z.natAbs from fun h => by rw [HZ.out]; exact Nat.le_trans (big_of_bits _ (by rw [← HRX.out]; omega)) (pow_more x _ _ (by have := HX2.out; omega) hlt))
      have HSM := hid (nlen_of_bits r.natAbs 2010)
      clear hm
      go_wp2_with fail
      (with_reducible refine HBI.out.mono ?_); rintro e w8 ⟨rfl, rfl⟩
      by_cases hbig : 2010 < nbits r.natAbs
      · have hbi : (2010 : Int) < ((nbits r.natAbs : Nat) : Int) := by omega
        have HB2 := hid (HBG.out hbig)
        clear hbig HBG HSM
        obtain ⟨⟨r1, r2, r3⟩, r4, r5, r6⟩ := k3.three
        go_wp2
        have k3F := k3.set3 (.slice none 0 0) (.bool false) (.bool true)
        obtain ⟨⟨z1, z2, z3⟩, _⟩ := k3F.three
        have hbF := ((hb.setCell (p := ⟨w.heap.size + 1 + 1, 0, none⟩) (by simp; omega) (.slice none 0 0)).setCell (p := ⟨w.heap.size + 1 + 1, 1, none⟩) (by simp; omega) (.bool false)).setCell (p := ⟨w.heap.size + 1 + 1, 2, none⟩) (by simp; omega) (.bool true)
        refine bodyPost_ret (v := .agg #[.slice none 0 0, .bool false, .bool true]) (by simp [results, Tryz.results82, go_sem, z1, z2, z3]) rfl ⟨_, rfl, ?_, hbF⟩
        exact ⟨0, false, true, ⟨_, rfl, nat_zero _⟩, (fun h => by cases h), (fun _ => HB2.out), by decide⟩
      · have hbi : ¬ (2010 : Int) < ((nbits r.natAbs : Nat) : Int) := by omega
        have hnl := HSM.out (by omega)
        clear hbig HBG HSM
        go_wp2
        go_roundw
        case rel => exact ⟨i + 1, by go_num, by omega, _, _, _, _, r, kO, HRX, hq, by omega, k1, k3, hb⟩
        case measure => simp [intOf] <;> omega
    · obtain rfl : i = N := by omega
      obtain ⟨⟨o1, o2, o3⟩, o4, o5, o6⟩ := kO.three
      obtain ⟨⟨r1, r2, r3⟩, r4, r5, r6⟩ := k3.three
      go_wp2
      have k3F := k3.set3 (.slice oa on oc) (.bool og) (.bool false)
      obtain ⟨⟨z1, z2, z3⟩, _⟩ := k3F.three
      have hF := hO.set3 (b := w.heap.size + 1 + 1) (by omega) (.slice oa on oc) (.bool og) (.bool false)
      have hbF := ((hb.setCell (p := ⟨w.heap.size + 1 + 1, 0, none⟩) (by simp; omega) (.slice oa on oc)).setCell (p := ⟨w.heap.size + 1 + 1, 1, none⟩) (by simp; omega) (.bool og)).setCell (p := ⟨w.heap.size + 1 + 1, 2, none⟩) (by simp; omega) (.bool false)
      refine bodyPost_ret (v := .agg #[.slice oa on oc, .bool og, .bool false]) (by simp [results, Tryz.results82, go_sem, z1, z2, z3]) rfl ⟨_, rfl, ?_, hbF⟩
      rw [HZ.out, ← HPI.out]
      exact RNum.of_int hF.int (by omega)
theorem pow2 {v u : Value} {x y : Int} {w : World} (hv : IntV w v x) (hu : IntV w u y) (hx : nlen x.natAbs ≤ 1000) (hy : nlen y.natAbs ≤ 1000) (hpe : powE x y = 0) :
    Calls Tryz.prog 82 #[v, u] w fun e w' => ∃ s, e = .returned s ∧ RNum w' s (powI x y) ∧ Below w.heap.size w w' := by
  have hp : ¬ (y < 0 ∧ x.natAbs ≠ 1) := fun h => by unfold powE at hpe; rw [if_pos h] at hpe; cases hpe
  by_cases hu1 : x.natAbs = 1
  · exact pow2_unit hv hu hx hy hu1
  · by_cases hy0 : y = 0
    · exact pow2_zero hv hu hx hy hu1 hy0
    · by_cases hx0 : x = 0
      · exact pow2_base hv hu hx hy hx0 (by omega)
      · by_cases hf : 2100 < y
        · by_cases hl : 1 < nlen y.natAbs
          · exact pow2_far1 hv hu hx hy (by omega) hf hl
          · exact pow2_far2 hv hu hx hy (by omega) hf (by have := nlen_eq_zero y.natAbs; omega)
        · refine pow2_loop hv hu hx hy (by omega) (by omega) (by omega) ?_
          have h1 := (nlen_le_iff y.natAbs 1).2 (by omega)
          have := nlen_eq_zero y.natAbs
          omega
theorem pow_fn (a b : List UInt8) (ha : a.length ≤ 1000000000) (hb : b.length ≤ 1000000000) (w : World) :
    Calls Tryz.prog 27 #[.string ⟨a.toArray⟩, .string ⟨b.toArray⟩] w fun e w' => e = .returned (.tuple #[.string ⟨(powRes a b).1.toArray⟩, .int .i64 (powRes a b).2]) ∧ Below w.heap.size w w' := by
  have hc := hid (two_fn a b ha hb 80 82 #[] #[] (powE (pVal a) (pVal b)) (powI (pVal a) (pVal b)) w (enters_of Tryz.func80 (by kernel_rfl) rfl) (enters_of Tryz.func82 (by kernel_rfl) rfl)
    (fun _ _ w1 v u _ h1 h2 => pow1 h1 h2)
    (fun _ _ hp _ _ w1 v u _ h1 h2 h3 h4 => pow2 h1 h3 h2 h4 hp))
  go_enter Tryz.func27, Tryz.ntmps27
  go_wp2_with fail
  (with_reducible refine hc.out.mono ?_); rintro e w1 ⟨rfl, hb1⟩
  go_wp2
  go_ret2
  exact ⟨rfl, hb1⟩
end Go.Proofs.YtkhgoeippamobaaGreatDoor
/-
  The reference: Pow.
-/
namespace Go.Proofs.YtkhgoeippamobaaGreatDoor
open Go.RowKit
theorem dlen_one : dlen 10 1 = 1 := by decide
theorem dec_one {w : World} {b : Nat} {t : TypeId} (k : Blk w b #[.int .i64 1] t) : DecRep w (.slice (some ⟨b, 0, none⟩) 1 1) 1 := by
  refine ⟨some ⟨b, 0, none⟩, 1, by rw [dlen_one], by rw [dlen_one]; decide, fun _ => ⟨b, 0, rfl, k.lt, fun i hi => ?_⟩⟩
  rw [dlen_one] at hi
  have : i = 0 := by omega
  subst this
  exact k.cell 0
theorem cmp_one (n : Nat) : cmpN n 1 = 0 ↔ n = 1 := by
  unfold cmpN
  by_cases h1 : n < 1
  · rw [if_pos h1]; omega
  · by_cases h2 : 1 < n
    · rw [if_neg h1, if_pos h2]; omega
    · rw [if_neg h1, if_neg h2]; omega
theorem Cut.sign {z' z : Int} (h : Cut z' z) : decide (z' < 0) = decide (z < 0) := by
  rcases h with rfl | ⟨_, _, h⟩
  · rfl
  · exact h
theorem Cut.one {z' z : Int} (h : Cut z' z) : z'.natAbs = 1 ↔ z.natAbs = 1 := by
  rcases h with rfl | ⟨h1, h2, _⟩
  · exact Iff.rfl
  · have := big600_two
    omega
theorem natOf_tt (w : World) : Calls Tryz.prog 88 #[.int .i64 10000] w (FreshDec 10000 w) := natOf_fn 10000 (by decide) w
theorem resOf_one : resOf 1 = ([49], 0) := by
  unfold resOf
  rw [if_pos (show (1 : Int).natAbs < big600 by have := big600_two; show 1 < big600; omega)]
  rfl
theorem resOf_unit (x : Int) (odd : Bool) (hx : x.natAbs = 1) : resOf (if odd = true then x else 1) = (numText 10 1 (decide (x < 0) && odd), 0) := by
  have h2 := big600_two
  have h0 : (if odd = true then x else 1).natAbs = 1 := by
    cases odd
    · rfl
    · exact hx
  unfold resOf
  rw [h0, if_pos (by omega)]
  congr 2
  cases odd
  · simp
  · simp
theorem dgt_zero_odd (n : Nat) : dgt 10 n 0 % 2 = n % 2 := by
  unfold dgt
  rw [Nat.pow_zero, Nat.div_one]
  omega
theorem cmpI_le {i n : Nat} (h : i ≤ n) : cmpI (i : Int) (n : Int) = if i < n then -1 else 0 := by
  unfold cmpI
  by_cases h1 : i < n
  · rw [if_pos (by omega), if_pos h1]
  · rw [if_neg (by omega), if_neg (by omega), if_neg h1]
set_option maxRecDepth 100000 in
set_option maxHeartbeats 8000000 in
theorem powR_fn (a b : List UInt8) (ha : a.length ≤ 2000000) (hb : b.length ≤ 2000000) (w : World) :
    Calls Tryz.prog 28 #[.string ⟨a.toArray⟩, .string ⟨b.toArray⟩] w fun e w' => e = .returned (.tuple #[.string ⟨(powRes a b).1.toArray⟩, .int .i64 (powRes a b).2]) ∧ Below w.heap.size w w' := by
  have hB := hid (both_fn a b ha hb w)
  unfold BothQ at hB
  clear ha hb
  by_cases hok : pOK a = true ∧ pOK b = true
  case neg =>
    have hf : (pOK a && pOK b) = false := by
      cases h1 : pOK a <;> cases h2 : pOK b <;> simp_all
    have HR := hid (show powRes a b = ([], 2) by exact neg_two hok)
    rw [hf] at hB
    have hB := hid hB.out
    clear hok hf
    go_enter Tryz.func28, Tryz.ntmps28
    go_wp2_with fail
    (with_reducible refine hB.out.mono ?_); rintro e w1 ⟨g1, s1, n1, c1, g2, s2, n2, c2, rfl, hb1, -⟩
    have hsz := hb1.size
    go_wp2
    go_ret2
    exact ⟨by rw [HR.out]; rfl, (hb1.alloc hsz _).alloc (by simp; omega) _⟩
  case pos =>
    have HR := hid (show powRes a b = if powE (pVal a) (pVal b) ≠ 0 then ([], powE (pVal a) (pVal b)) else if big600 ≤ (pVal a).natAbs ∨ big600 ≤ (pVal b).natAbs then ([], 4) else resOf (powI (pVal a) (pVal b)) by unfold powRes twoRes; rw [if_pos hok])
    obtain ⟨oa, ob⟩ := hok
    rw [oa, ob] at hB
    have hB := hid hB.out
    go_enter Tryz.func28, Tryz.ntmps28
    go_wp2_with fail
    (with_reducible refine hB.out.mono ?_); rintro e w1 ⟨g1, s1, n1, c1, g2, s2, n2, c2, rfl, hb, hn⟩
    obtain ⟨⟨x', hx, hlx, hcx⟩, ⟨y', hy, hly, hcy⟩⟩ := hn (by first | rfl | trivial)
    have HAB := hid (anyBig_two hcx hcy)
    have HCX := hid hcx
    have HCY := hid hcy
    clear hn hB oa ob hcx hcy
    obtain ⟨s1', c1', hxe, hxrep⟩ := hx.shape
    simp only [Value.agg.injEq, Array.mk.injEq, List.cons.injEq, Value.bool.injEq, Value.slice.injEq, and_true] at hxe
    obtain ⟨rfl, rfl, rfl, rfl⟩ := hxe
    obtain ⟨s2', c2', hye, hyrep⟩ := hy.shape
    simp only [Value.agg.injEq, Array.mk.injEq, List.cons.injEq, Value.bool.injEq, Value.slice.injEq, and_true] at hye
    obtain ⟨rfl, rfl, rfl, rfl⟩ := hye
    have HNX := hid (show dlen 10 x'.natAbs = 0 ↔ x'.natAbs = 0 from dlen_zero_iff 10 _ (by decide))
    have HNY := hid (show dlen 10 y'.natAbs = 0 ↔ y'.natAbs = 0 from dlen_zero_iff 10 _ (by decide))
    have HSX := hid (show decide (x' < 0) = true ↔ x' < 0 from decide_eq_true_iff)
    have HSY := hid (show decide (y' < 0) = true ↔ y' < 0 from decide_eq_true_iff)
    have HLX := hid hlx
    have HLY := hid hly
    have HDX := hid (digits_600 x'.natAbs)
    have HDY := hid (digits_600 y'.natAbs)
    have HNE := hid (show decide (x' < 0) = decide (pVal a < 0) from HCX.out.sign)
    generalize hg1 : decide (x' < 0) = g1 at *
    generalize hg2 : decide (y' < 0) = g2 at *
    generalize hn1 : dlen 10 x'.natAbs = n1 at *
    generalize hn2 : dlen 10 y'.natAbs = n2 at *
    have HG1 := hid hg1
    have HG2 := hid hg2
    have HN1 := hid hn1
    have HN2 := hid hn2
    clear hg1 hg2 hn1 hn2 hxrep hyrep
    have kX := Blk.new w1 #[.bool g1, .slice s1 n1 c1] 56
    have kY := Blk.new (w1.alloc (.cells #[.bool g1, .slice s1 n1 c1] 56)) #[.bool g2, .slice s2 n2 c2] 56
    simp only [World.size_alloc] at kY
    replace kX := kX.alloc (.cells #[.bool g2, .slice s2 n2 c2] 56)
    have gg : Below w1.heap.size w1 ((w1.alloc (.cells #[.bool g1, .slice s1 n1 c1] 56)).alloc (.cells #[.bool g2, .slice s2 n2 c2] 56)) := ((Below.refl _ _).alloc (Nat.le_refl _) _).alloc (by simp) _
    replace hx := hx.below gg
    replace hy := hy.below gg
    have hbw1 := hb.size
    replace hb := hb.trans (gg.mono hb.size)
    clear gg
    have gg : Below ((w1.alloc (.cells #[.bool g1, .slice s1 n1 c1] 56)).alloc (.cells #[.bool g2, .slice s2 n2 c2] 56)).heap.size ((w1.alloc (.cells #[.bool g1, .slice s1 n1 c1] 56)).alloc (.cells #[.bool g2, .slice s2 n2 c2] 56)) (((w1.alloc (.cells #[.bool g1, .slice s1 n1 c1] 56)).alloc (.cells #[.bool g2, .slice s2 n2 c2] 56)).alloc (.cells #[.int .i64 1] 3)) := (Below.refl _ _).alloc (Nat.le_refl _) _
    have kI := Blk.new ((w1.alloc (.cells #[.bool g1, .slice s1 n1 c1] 56)).alloc (.cells #[.bool g2, .slice s2 n2 c2] 56)) #[.int .i64 1] 3
    have HO := hid (order_fn (hx.rep.below gg) (dec_one kI) (by rw [HN1.out]; omega) (by decide))
    simp only [World.size_alloc] at HO
    obtain ⟨⟨p1, p2⟩, q1, q2⟩ := kX.two
    replace hx := hx.below gg
    replace hy := hy.below gg
    replace hb := hb.trans (gg.mono hb.size)
    replace kX := kX.later gg
    replace kY := kY.later gg
    clear gg kI
    have HCO := hid (cmp_one x'.natAbs)
    generalize cmpN x'.natAbs 1 = C at *
    go_wp2_with fail
    (with_reducible refine HO.out.mono ?_); rintro e w2 ⟨rfl, rfl⟩
    generalize ((w1.alloc (.cells #[.bool g1, .slice s1 n1 c1] 56)).alloc (.cells #[.bool g2, .slice s2 n2 c2] 56)).alloc (.cells #[.int .i64 1] 3) = w3 at *
    clear p1 p2 q1 q2 HO
    obtain ⟨⟨p3, p4⟩, q3, q4⟩ := kY.two
    have HBB := hid (show w.heap.size ≤ w1.heap.size from hbw1)
    generalize w1.heap.size = B1 at *
    clear hbw1
    by_cases hret : y' < 0 ∧ x'.natAbs ≠ 1
    · have hpe : powE (pVal a) (pVal b) = 7 := by
        have h1 := HCX.out.one
        have h2 : decide (y' < 0) = decide (pVal b < 0) := HCY.out.sign
        have h3 := hret.1
        have h4 := hret.2
        unfold powE
        rw [if_pos]
        refine ⟨?_, fun h => h4 (h1.2 h)⟩
        rw [decide_eq_true h3] at h2
        exact of_decide_eq_true h2.symm
      have HR2 := hid (show powRes a b = ([], 7) by rw [HR.out, if_pos (by rw [hpe]; decide), hpe])
      have hC0 : ¬ C = 0 := fun h => hret.2 (HCO.out.1 h)
      have hC : (C == 0) = false := by rw [beq_eq_false_iff_ne]; exact hC0
      obtain rfl : g2 = true := by rw [← HG2.out]; exact decide_eq_true hret.1
      clear hret hpe
      go_wp2
      go_ret2
      exact ⟨by rw [HR2.out]; rfl, hb⟩
    · have hpe : powE (pVal a) (pVal b) = 0 := by
        have h1 := HCX.out.one
        have h2 : decide (y' < 0) = decide (pVal b < 0) := HCY.out.sign
        unfold powE
        rw [if_neg]
        rintro ⟨h3, h4⟩
        apply hret
        refine ⟨?_, fun h => h4 (h1.1 h)⟩
        rw [decide_eq_true h3] at h2
        exact of_decide_eq_true h2
      have HR2 := hid (show powRes a b = if big600 ≤ (pVal a).natAbs ∨ big600 ≤ (pVal b).natAbs then ([], 4) else resOf (powI (pVal a) (pVal b)) by rw [HR.out, if_neg (by rw [hpe]; decide)])
      have HRET := hid hret
      clear hret hpe HR
      cases hone : decide (x'.natAbs = 1) with
      | true =>
        have hx1 : x'.natAbs = 1 := of_decide_eq_true hone
        obtain rfl : C = 0 := HCO.out.2 hx1
        have HX1 := hid hx1
        clear hone hx1
        cases g2 with
        | true =>
          have kN := Blk.new w3 #[.bool g1, .slice s1 n1 c1, .bool true, .slice s2 n2 c2] 56
          have gg : Below w3.heap.size w3 (w3.alloc (.cells #[.bool g1, .slice s1 n1 c1, .bool true, .slice s2 n2 c2] 56)) := (Below.refl _ _).alloc (Nat.le_refl _) _
          obtain ⟨⟨p1, p2⟩, q1, q2⟩ := kX.two
          replace hx := hx.below gg
          replace hy := hy.below gg
          replace hb := hb.trans (gg.mono hb.size)
          have hN := Nums.mk2 kN hx hy
          replace kX := kX.later gg
          replace kY := kY.later gg
          have hsc := hid (short_fn hN (fun x hm => by
              simp at hm
              rcases hm with rfl | rfl
              · rw [HN1.out]; omega
              · rw [HN2.out]; omega) (by simp))
          rw [HAB.out] at hsc
          clear gg kN hN
          go_wp2_with fail
          (with_reducible refine hsc.out.mono ?_); rintro e w2 ⟨rfl, gg⟩
          replace hx := hx.below gg
          replace hy := hy.below gg
          replace hb := hb.trans (gg.mono hb.size)
          replace kX := kX.later gg
          replace kY := kY.later gg
          clear p1 p2 p3 p4 q1 q2 q3 q4 hsc gg
          by_cases hbig : big600 ≤ (pVal a).natAbs ∨ big600 ≤ (pVal b).natAbs
          · have hT : (!(decide (big600 ≤ (pVal a).natAbs) || decide (big600 ≤ (pVal b).natAbs))) = false := by
              rcases hbig with h | h <;> rw [decide_eq_true h] <;> simp
            have HR3 := hid (show powRes a b = ([], 4) by rw [HR2.out, if_pos hbig])
            rw [hT]
            clear hbig hT
            go_wp2
            go_ret2
            exact ⟨by rw [HR3.out]; rfl, hb⟩
          · have hT : (!(decide (big600 ≤ (pVal a).natAbs) || decide (big600 ≤ (pVal b).natAbs))) = true := by
              rw [decide_eq_false (show ¬ big600 ≤ (pVal a).natAbs by omega), decide_eq_false (show ¬ big600 ≤ (pVal b).natAbs by omega)]; rfl
            have ex : x' = pVal a := HCX.out.small (by omega)
            have ey : y' = pVal b := HCY.out.small (by omega)
            have HXS := hid (show x'.natAbs < big600 by rw [ex]; omega)
            have HYS := hid (show y'.natAbs < big600 by rw [ey]; omega)
            have HR3 := hid (show powRes a b = resOf (powI x' y') by rw [HR2.out, if_neg hbig, ex, ey])
            rw [hT]
            clear hbig hT ex ey HR2 HCX HCY HAB
            obtain ⟨⟨p1, p2⟩, q1, q2⟩ := kX.two
            obtain ⟨⟨p3, p4⟩, q3, q4⟩ := kY.two
            have HR4 := hid (show powRes a b = resOf (if decide (y'.natAbs % 2 = 1) = true then x' else 1) by rw [HR3.out, powI_unit HX1.out]; simp only [decide_eq_true_eq])
            clear HR3
            by_cases hy0 : y'.natAbs = 0
            · obtain rfl : n2 = 0 := HNY.out.2 hy0
              have HR4 := hid (show powRes a b = resOf (if false = true then x' else 1) by rw [HR4.out, decide_eq_false (show ¬ y'.natAbs % 2 = 1 by omega)])
              clear hy0
              cases g1 with
              | true =>
                have gg : Below w2.heap.size w2 (w2.alloc (.cells #[.int .i64 1] 3)) := (Below.refl _ _).alloc (Nat.le_refl _) _
                have kI := Blk.new w2 #[.int .i64 1] 3
                have HNM := hid (num_fn (dec_one kI) (by decide) false)
                have HRF := hid (show powRes a b = (numText 10 1 false, 0) by rw [HR4.out, resOf_unit x' false HX1.out, HG1.out]; simp)
                go_wp2_with fail
                (with_reducible refine HNM.out.mono ?_); rintro e w4 ⟨rfl, g4⟩
                have hD : DNum w4 (.agg #[.bool false, .slice (some ⟨w2.heap.size, 0, none⟩) 1 1]) (if false = true then -1 else 1) := by
                  have h1 := (dec_one kI).below g4
                  refine ⟨_, by rfl, ?_⟩
                  rw [show (if false = true then (-1 : Int) else 1).natAbs = 1 by split <;> rfl]
                  exact h1
                have HT := hid (textR_fn hD (by split <;> decide))
                rw [show (if false = true then (-1 : Int) else 1).natAbs = 1 by split <;> rfl, show decide ((if false = true then (-1 : Int) else 1) < 0) = false by rfl] at HT
                go_wp2_with fail
                (with_reducible refine HT.out.mono ?_); rintro e w5 ⟨rfl, g5⟩
                have hb := (hb.trans (gg.mono hb.size)).trans ((g4.trans (g5.mono g4.size)).mono (Nat.le_trans hb.size gg.size))
                go_wp2
                go_ret2
                exact ⟨by rw [HRF.out]; rfl, hb⟩
              | false =>
                have gg : Below w2.heap.size w2 (w2.alloc (.cells #[.int .i64 1] 3)) := (Below.refl _ _).alloc (Nat.le_refl _) _
                have kI := Blk.new w2 #[.int .i64 1] 3
                have HNM := hid (num_fn (dec_one kI) (by decide) false)
                have HRF := hid (show powRes a b = (numText 10 1 false, 0) by rw [HR4.out, resOf_unit x' false HX1.out, HG1.out]; simp)
                go_wp2_with fail
                (with_reducible refine HNM.out.mono ?_); rintro e w4 ⟨rfl, g4⟩
                have hD : DNum w4 (.agg #[.bool false, .slice (some ⟨w2.heap.size, 0, none⟩) 1 1]) (if false = true then -1 else 1) := by
                  have h1 := (dec_one kI).below g4
                  refine ⟨_, by rfl, ?_⟩
                  rw [show (if false = true then (-1 : Int) else 1).natAbs = 1 by split <;> rfl]
                  exact h1
                have HT := hid (textR_fn hD (by split <;> decide))
                rw [show (if false = true then (-1 : Int) else 1).natAbs = 1 by split <;> rfl, show decide ((if false = true then (-1 : Int) else 1) < 0) = false by rfl] at HT
                go_wp2_with fail
                (with_reducible refine HT.out.mono ?_); rintro e w5 ⟨rfl, g5⟩
                have hb := (hb.trans (gg.mono hb.size)).trans ((g4.trans (g5.mono g4.size)).mono (Nat.le_trans hb.size gg.size))
                go_wp2
                go_ret2
                exact ⟨by rw [HRF.out]; rfl, hb⟩
            · have hn2 : 0 < n2 := by
                have := HNY.out
                omega
              obtain ⟨a', cap', hv', hcap', hc⟩ := hy.rep
              simp only [Value.slice.injEq] at hv'
              obtain ⟨rfl, e2, rfl⟩ := hv'
              obtain ⟨yb, yo, rfl, hyl, hc0⟩ := hc (by omega)
              have hcell := hc0 0 (by omega)
              rw [Nat.add_zero] at hcell
              have HD := hid (dgt_zero_odd y'.natAbs)
              have hdl := dgt_lt 10 y'.natAbs 0 (by decide)
              clear hc hc0 e2 hcap'
              generalize dgt 10 y'.natAbs 0 = d at *
              by_cases hodd : d % 2 = 1
              · have HR4 := hid (show powRes a b = resOf (if true = true then x' else 1) by rw [HR4.out, decide_eq_true (show y'.natAbs % 2 = 1 by have := HD.out; omega)])
                have hdi : ((d : Nat) : Int) % 2 = 1 := by omega
                clear hodd hy0
                cases g1 with
                | true =>
                  have gg : Below w2.heap.size w2 (w2.alloc (.cells #[.int .i64 1] 3)) := (Below.refl _ _).alloc (Nat.le_refl _) _
                  have kI := Blk.new w2 #[.int .i64 1] 3
                  have HNM := hid (num_fn (dec_one kI) (by decide) true)
                  have HRF := hid (show powRes a b = (numText 10 1 true, 0) by rw [HR4.out, resOf_unit x' true HX1.out, HG1.out]; simp)
                  go_wp2_with fail
                  (with_reducible refine HNM.out.mono ?_); rintro e w4 ⟨rfl, g4⟩
                  have hD : DNum w4 (.agg #[.bool true, .slice (some ⟨w2.heap.size, 0, none⟩) 1 1]) (if true = true then -1 else 1) := by
                    have h1 := (dec_one kI).below g4
                    refine ⟨_, by rfl, ?_⟩
                    rw [show (if true = true then (-1 : Int) else 1).natAbs = 1 by split <;> rfl]
                    exact h1
                  have HT := hid (textR_fn hD (by split <;> decide))
                  rw [show (if true = true then (-1 : Int) else 1).natAbs = 1 by split <;> rfl, show decide ((if true = true then (-1 : Int) else 1) < 0) = true by rfl] at HT
                  go_wp2_with fail
                  (with_reducible refine HT.out.mono ?_); rintro e w5 ⟨rfl, g5⟩
                  have hb := (hb.trans (gg.mono hb.size)).trans ((g4.trans (g5.mono g4.size)).mono (Nat.le_trans hb.size gg.size))
                  go_wp2
                  go_ret2
                  exact ⟨by rw [HRF.out]; rfl, hb⟩
                | false =>
                  have gg : Below w2.heap.size w2 (w2.alloc (.cells #[.int .i64 1] 3)) := (Below.refl _ _).alloc (Nat.le_refl _) _
                  have kI := Blk.new w2 #[.int .i64 1] 3
                  have HNM := hid (num_fn (dec_one kI) (by decide) false)
                  have HRF := hid (show powRes a b = (numText 10 1 false, 0) by rw [HR4.out, resOf_unit x' true HX1.out, HG1.out]; simp)
                  go_wp2_with fail
                  (with_reducible refine HNM.out.mono ?_); rintro e w4 ⟨rfl, g4⟩
                  have hD : DNum w4 (.agg #[.bool false, .slice (some ⟨w2.heap.size, 0, none⟩) 1 1]) (if false = true then -1 else 1) := by
                    have h1 := (dec_one kI).below g4
                    refine ⟨_, by rfl, ?_⟩
                    rw [show (if false = true then (-1 : Int) else 1).natAbs = 1 by split <;> rfl]
                    exact h1
                  have HT := hid (textR_fn hD (by split <;> decide))
                  rw [show (if false = true then (-1 : Int) else 1).natAbs = 1 by split <;> rfl, show decide ((if false = true then (-1 : Int) else 1) < 0) = false by rfl] at HT
                  go_wp2_with fail
                  (with_reducible refine HT.out.mono ?_); rintro e w5 ⟨rfl, g5⟩
                  have hb := (hb.trans (gg.mono hb.size)).trans ((g4.trans (g5.mono g4.size)).mono (Nat.le_trans hb.size gg.size))
                  go_wp2
                  go_ret2
                  exact ⟨by rw [HRF.out]; rfl, hb⟩
              · have HR4 := hid (show powRes a b = resOf (if false = true then x' else 1) by rw [HR4.out, decide_eq_false (show ¬ y'.natAbs % 2 = 1 by have := HD.out; omega)])
                have hdi : ((d : Nat) : Int) % 2 = 0 := by omega
                clear hodd hy0
                cases g1 with
                | true =>
                  have gg : Below w2.heap.size w2 (w2.alloc (.cells #[.int .i64 1] 3)) := (Below.refl _ _).alloc (Nat.le_refl _) _
                  have kI := Blk.new w2 #[.int .i64 1] 3
                  have HNM := hid (num_fn (dec_one kI) (by decide) false)
                  have HRF := hid (show powRes a b = (numText 10 1 false, 0) by rw [HR4.out, resOf_unit x' false HX1.out, HG1.out]; simp)
                  go_wp2_with fail
                  (with_reducible refine HNM.out.mono ?_); rintro e w4 ⟨rfl, g4⟩
                  have hD : DNum w4 (.agg #[.bool false, .slice (some ⟨w2.heap.size, 0, none⟩) 1 1]) (if false = true then -1 else 1) := by
                    have h1 := (dec_one kI).below g4
                    refine ⟨_, by rfl, ?_⟩
                    rw [show (if false = true then (-1 : Int) else 1).natAbs = 1 by split <;> rfl]
                    exact h1
                  have HT := hid (textR_fn hD (by split <;> decide))
                  rw [show (if false = true then (-1 : Int) else 1).natAbs = 1 by split <;> rfl, show decide ((if false = true then (-1 : Int) else 1) < 0) = false by rfl] at HT
                  go_wp2_with fail
                  (with_reducible refine HT.out.mono ?_); rintro e w5 ⟨rfl, g5⟩
                  have hb := (hb.trans (gg.mono hb.size)).trans ((g4.trans (g5.mono g4.size)).mono (Nat.le_trans hb.size gg.size))
                  go_wp2
                  go_ret2
                  exact ⟨by rw [HRF.out]; rfl, hb⟩
                | false =>
                  have gg : Below w2.heap.size w2 (w2.alloc (.cells #[.int .i64 1] 3)) := (Below.refl _ _).alloc (Nat.le_refl _) _
                  have kI := Blk.new w2 #[.int .i64 1] 3
                  have HNM := hid (num_fn (dec_one kI) (by decide) false)
                  have HRF := hid (show powRes a b = (numText 10 1 false, 0) by rw [HR4.out, resOf_unit x' false HX1.out, HG1.out]; simp)
                  go_wp2_with fail
                  (with_reducible refine HNM.out.mono ?_); rintro e w4 ⟨rfl, g4⟩
                  have hD : DNum w4 (.agg #[.bool false, .slice (some ⟨w2.heap.size, 0, none⟩) 1 1]) (if false = true then -1 else 1) := by
                    have h1 := (dec_one kI).below g4
                    refine ⟨_, by rfl, ?_⟩
                    rw [show (if false = true then (-1 : Int) else 1).natAbs = 1 by split <;> rfl]
                    exact h1
                  have HT := hid (textR_fn hD (by split <;> decide))
                  rw [show (if false = true then (-1 : Int) else 1).natAbs = 1 by split <;> rfl, show decide ((if false = true then (-1 : Int) else 1) < 0) = false by rfl] at HT
                  go_wp2_with fail
                  (with_reducible refine HT.out.mono ?_); rintro e w5 ⟨rfl, g5⟩
                  have hb := (hb.trans (gg.mono hb.size)).trans ((g4.trans (g5.mono g4.size)).mono (Nat.le_trans hb.size gg.size))
                  go_wp2
                  go_ret2
                  exact ⟨by rw [HRF.out]; rfl, hb⟩
        | false =>
          have kN := Blk.new w3 #[.bool g1, .slice s1 n1 c1, .bool false, .slice s2 n2 c2] 56
          have gg : Below w3.heap.size w3 (w3.alloc (.cells #[.bool g1, .slice s1 n1 c1, .bool false, .slice s2 n2 c2] 56)) := (Below.refl _ _).alloc (Nat.le_refl _) _
          obtain ⟨⟨p1, p2⟩, q1, q2⟩ := kX.two
          replace hx := hx.below gg
          replace hy := hy.below gg
          replace hb := hb.trans (gg.mono hb.size)
          have hN := Nums.mk2 kN hx hy
          replace kX := kX.later gg
          replace kY := kY.later gg
          have hsc := hid (short_fn hN (fun x hm => by
              simp at hm
              rcases hm with rfl | rfl
              · rw [HN1.out]; omega
              · rw [HN2.out]; omega) (by simp))
          rw [HAB.out] at hsc
          clear gg kN hN
          go_wp2_with fail
          (with_reducible refine hsc.out.mono ?_); rintro e w2 ⟨rfl, gg⟩
          replace hx := hx.below gg
          replace hy := hy.below gg
          replace hb := hb.trans (gg.mono hb.size)
          replace kX := kX.later gg
          replace kY := kY.later gg
          clear p1 p2 p3 p4 q1 q2 q3 q4 hsc gg
          by_cases hbig : big600 ≤ (pVal a).natAbs ∨ big600 ≤ (pVal b).natAbs
          · have hT : (!(decide (big600 ≤ (pVal a).natAbs) || decide (big600 ≤ (pVal b).natAbs))) = false := by
              rcases hbig with h | h <;> rw [decide_eq_true h] <;> simp
            have HR3 := hid (show powRes a b = ([], 4) by rw [HR2.out, if_pos hbig])
            rw [hT]
            clear hbig hT
            go_wp2
            go_ret2
            exact ⟨by rw [HR3.out]; rfl, hb⟩
          · have hT : (!(decide (big600 ≤ (pVal a).natAbs) || decide (big600 ≤ (pVal b).natAbs))) = true := by
              rw [decide_eq_false (show ¬ big600 ≤ (pVal a).natAbs by omega), decide_eq_false (show ¬ big600 ≤ (pVal b).natAbs by omega)]; rfl
            have ex : x' = pVal a := HCX.out.small (by omega)
            have ey : y' = pVal b := HCY.out.small (by omega)
            have HXS := hid (show x'.natAbs < big600 by rw [ex]; omega)
            have HYS := hid (show y'.natAbs < big600 by rw [ey]; omega)
            have HR3 := hid (show powRes a b = resOf (powI x' y') by rw [HR2.out, if_neg hbig, ex, ey])
            rw [hT]
            clear hbig hT ex ey HR2 HCX HCY HAB
            obtain ⟨⟨p1, p2⟩, q1, q2⟩ := kX.two
            obtain ⟨⟨p3, p4⟩, q3, q4⟩ := kY.two
            have HR4 := hid (show powRes a b = resOf (if decide (y'.natAbs % 2 = 1) = true then x' else 1) by rw [HR3.out, powI_unit HX1.out]; simp only [decide_eq_true_eq])
            clear HR3
            by_cases hy0 : y'.natAbs = 0
            · obtain rfl : n2 = 0 := HNY.out.2 hy0
              have HR4 := hid (show powRes a b = resOf (if false = true then x' else 1) by rw [HR4.out, decide_eq_false (show ¬ y'.natAbs % 2 = 1 by omega)])
              clear hy0
              cases g1 with
              | true =>
                have gg : Below w2.heap.size w2 (w2.alloc (.cells #[.int .i64 1] 3)) := (Below.refl _ _).alloc (Nat.le_refl _) _
                have kI := Blk.new w2 #[.int .i64 1] 3
                have HNM := hid (num_fn (dec_one kI) (by decide) false)
                have HRF := hid (show powRes a b = (numText 10 1 false, 0) by rw [HR4.out, resOf_unit x' false HX1.out, HG1.out]; simp)
                go_wp2_with fail
                (with_reducible refine HNM.out.mono ?_); rintro e w4 ⟨rfl, g4⟩
                have hD : DNum w4 (.agg #[.bool false, .slice (some ⟨w2.heap.size, 0, none⟩) 1 1]) (if false = true then -1 else 1) := by
                  have h1 := (dec_one kI).below g4
                  refine ⟨_, by rfl, ?_⟩
                  rw [show (if false = true then (-1 : Int) else 1).natAbs = 1 by split <;> rfl]
                  exact h1
                have HT := hid (textR_fn hD (by split <;> decide))
                rw [show (if false = true then (-1 : Int) else 1).natAbs = 1 by split <;> rfl, show decide ((if false = true then (-1 : Int) else 1) < 0) = false by rfl] at HT
                go_wp2_with fail
                (with_reducible refine HT.out.mono ?_); rintro e w5 ⟨rfl, g5⟩
                have hb := (hb.trans (gg.mono hb.size)).trans ((g4.trans (g5.mono g4.size)).mono (Nat.le_trans hb.size gg.size))
                go_wp2
                go_ret2
                exact ⟨by rw [HRF.out]; rfl, hb⟩
              | false =>
                have gg : Below w2.heap.size w2 (w2.alloc (.cells #[.int .i64 1] 3)) := (Below.refl _ _).alloc (Nat.le_refl _) _
                have kI := Blk.new w2 #[.int .i64 1] 3
                have HNM := hid (num_fn (dec_one kI) (by decide) false)
                have HRF := hid (show powRes a b = (numText 10 1 false, 0) by rw [HR4.out, resOf_unit x' false HX1.out, HG1.out]; simp)
                go_wp2_with fail
                (with_reducible refine HNM.out.mono ?_); rintro e w4 ⟨rfl, g4⟩
                have hD : DNum w4 (.agg #[.bool false, .slice (some ⟨w2.heap.size, 0, none⟩) 1 1]) (if false = true then -1 else 1) := by
                  have h1 := (dec_one kI).below g4
                  refine ⟨_, by rfl, ?_⟩
                  rw [show (if false = true then (-1 : Int) else 1).natAbs = 1 by split <;> rfl]
                  exact h1
                have HT := hid (textR_fn hD (by split <;> decide))
                rw [show (if false = true then (-1 : Int) else 1).natAbs = 1 by split <;> rfl, show decide ((if false = true then (-1 : Int) else 1) < 0) = false by rfl] at HT
                go_wp2_with fail
                (with_reducible refine HT.out.mono ?_); rintro e w5 ⟨rfl, g5⟩
                have hb := (hb.trans (gg.mono hb.size)).trans ((g4.trans (g5.mono g4.size)).mono (Nat.le_trans hb.size gg.size))
                go_wp2
                go_ret2
                exact ⟨by rw [HRF.out]; rfl, hb⟩
            · have hn2 : 0 < n2 := by
                have := HNY.out
                omega
              obtain ⟨a', cap', hv', hcap', hc⟩ := hy.rep
              simp only [Value.slice.injEq] at hv'
              obtain ⟨rfl, e2, rfl⟩ := hv'
              obtain ⟨yb, yo, rfl, hyl, hc0⟩ := hc (by omega)
              have hcell := hc0 0 (by omega)
              rw [Nat.add_zero] at hcell
              have HD := hid (dgt_zero_odd y'.natAbs)
              have hdl := dgt_lt 10 y'.natAbs 0 (by decide)
              clear hc hc0 e2 hcap'
              generalize dgt 10 y'.natAbs 0 = d at *
              by_cases hodd : d % 2 = 1
              · have HR4 := hid (show powRes a b = resOf (if true = true then x' else 1) by rw [HR4.out, decide_eq_true (show y'.natAbs % 2 = 1 by have := HD.out; omega)])
                have hdi : ((d : Nat) : Int) % 2 = 1 := by omega
                clear hodd hy0
                cases g1 with
                | true =>
                  have gg : Below w2.heap.size w2 (w2.alloc (.cells #[.int .i64 1] 3)) := (Below.refl _ _).alloc (Nat.le_refl _) _
                  have kI := Blk.new w2 #[.int .i64 1] 3
                  have HNM := hid (num_fn (dec_one kI) (by decide) true)
                  have HRF := hid (show powRes a b = (numText 10 1 true, 0) by rw [HR4.out, resOf_unit x' true HX1.out, HG1.out]; simp)
                  go_wp2_with fail
                  (with_reducible refine HNM.out.mono ?_); rintro e w4 ⟨rfl, g4⟩
                  have hD : DNum w4 (.agg #[.bool true, .slice (some ⟨w2.heap.size, 0, none⟩) 1 1]) (if true = true then -1 else 1) := by
                    have h1 := (dec_one kI).below g4
                    refine ⟨_, by rfl, ?_⟩
                    rw [show (if true = true then (-1 : Int) else 1).natAbs = 1 by split <;> rfl]
                    exact h1
                  have HT := hid (textR_fn hD (by split <;> decide))
                  rw [show (if true = true then (-1 : Int) else 1).natAbs = 1 by split <;> rfl, show decide ((if true = true then (-1 : Int) else 1) < 0) = true by rfl] at HT
                  go_wp2_with fail
                  (with_reducible refine HT.out.mono ?_); rintro e w5 ⟨rfl, g5⟩
                  have hb := (hb.trans (gg.mono hb.size)).trans ((g4.trans (g5.mono g4.size)).mono (Nat.le_trans hb.size gg.size))
                  go_wp2
                  go_ret2
                  exact ⟨by rw [HRF.out]; rfl, hb⟩
                | false =>
                  have gg : Below w2.heap.size w2 (w2.alloc (.cells #[.int .i64 1] 3)) := (Below.refl _ _).alloc (Nat.le_refl _) _
                  have kI := Blk.new w2 #[.int .i64 1] 3
                  have HNM := hid (num_fn (dec_one kI) (by decide) false)
                  have HRF := hid (show powRes a b = (numText 10 1 false, 0) by rw [HR4.out, resOf_unit x' true HX1.out, HG1.out]; simp)
                  go_wp2_with fail
                  (with_reducible refine HNM.out.mono ?_); rintro e w4 ⟨rfl, g4⟩
                  have hD : DNum w4 (.agg #[.bool false, .slice (some ⟨w2.heap.size, 0, none⟩) 1 1]) (if false = true then -1 else 1) := by
                    have h1 := (dec_one kI).below g4
                    refine ⟨_, by rfl, ?_⟩
                    rw [show (if false = true then (-1 : Int) else 1).natAbs = 1 by split <;> rfl]
                    exact h1
                  have HT := hid (textR_fn hD (by split <;> decide))
                  rw [show (if false = true then (-1 : Int) else 1).natAbs = 1 by split <;> rfl, show decide ((if false = true then (-1 : Int) else 1) < 0) = false by rfl] at HT
                  go_wp2_with fail
                  (with_reducible refine HT.out.mono ?_); rintro e w5 ⟨rfl, g5⟩
                  have hb := (hb.trans (gg.mono hb.size)).trans ((g4.trans (g5.mono g4.size)).mono (Nat.le_trans hb.size gg.size))
                  go_wp2
                  go_ret2
                  exact ⟨by rw [HRF.out]; rfl, hb⟩
              · have HR4 := hid (show powRes a b = resOf (if false = true then x' else 1) by rw [HR4.out, decide_eq_false (show ¬ y'.natAbs % 2 = 1 by have := HD.out; omega)])
                have hdi : ((d : Nat) : Int) % 2 = 0 := by omega
                clear hodd hy0
                cases g1 with
                | true =>
                  have gg : Below w2.heap.size w2 (w2.alloc (.cells #[.int .i64 1] 3)) := (Below.refl _ _).alloc (Nat.le_refl _) _
                  have kI := Blk.new w2 #[.int .i64 1] 3
                  have HNM := hid (num_fn (dec_one kI) (by decide) false)
                  have HRF := hid (show powRes a b = (numText 10 1 false, 0) by rw [HR4.out, resOf_unit x' false HX1.out, HG1.out]; simp)
                  go_wp2_with fail
                  (with_reducible refine HNM.out.mono ?_); rintro e w4 ⟨rfl, g4⟩
                  have hD : DNum w4 (.agg #[.bool false, .slice (some ⟨w2.heap.size, 0, none⟩) 1 1]) (if false = true then -1 else 1) := by
                    have h1 := (dec_one kI).below g4
                    refine ⟨_, by rfl, ?_⟩
                    rw [show (if false = true then (-1 : Int) else 1).natAbs = 1 by split <;> rfl]
                    exact h1
                  have HT := hid (textR_fn hD (by split <;> decide))
                  rw [show (if false = true then (-1 : Int) else 1).natAbs = 1 by split <;> rfl, show decide ((if false = true then (-1 : Int) else 1) < 0) = false by rfl] at HT
                  go_wp2_with fail
                  (with_reducible refine HT.out.mono ?_); rintro e w5 ⟨rfl, g5⟩
                  have hb := (hb.trans (gg.mono hb.size)).trans ((g4.trans (g5.mono g4.size)).mono (Nat.le_trans hb.size gg.size))
                  go_wp2
                  go_ret2
                  exact ⟨by rw [HRF.out]; rfl, hb⟩
                | false =>
                  have gg : Below w2.heap.size w2 (w2.alloc (.cells #[.int .i64 1] 3)) := (Below.refl _ _).alloc (Nat.le_refl _) _
                  have kI := Blk.new w2 #[.int .i64 1] 3
                  have HNM := hid (num_fn (dec_one kI) (by decide) false)
                  have HRF := hid (show powRes a b = (numText 10 1 false, 0) by rw [HR4.out, resOf_unit x' false HX1.out, HG1.out]; simp)
                  go_wp2_with fail
                  (with_reducible refine HNM.out.mono ?_); rintro e w4 ⟨rfl, g4⟩
                  have hD : DNum w4 (.agg #[.bool false, .slice (some ⟨w2.heap.size, 0, none⟩) 1 1]) (if false = true then -1 else 1) := by
                    have h1 := (dec_one kI).below g4
                    refine ⟨_, by rfl, ?_⟩
                    rw [show (if false = true then (-1 : Int) else 1).natAbs = 1 by split <;> rfl]
                    exact h1
                  have HT := hid (textR_fn hD (by split <;> decide))
                  rw [show (if false = true then (-1 : Int) else 1).natAbs = 1 by split <;> rfl, show decide ((if false = true then (-1 : Int) else 1) < 0) = false by rfl] at HT
                  go_wp2_with fail
                  (with_reducible refine HT.out.mono ?_); rintro e w5 ⟨rfl, g5⟩
                  have hb := (hb.trans (gg.mono hb.size)).trans ((g4.trans (g5.mono g4.size)).mono (Nat.le_trans hb.size gg.size))
                  go_wp2
                  go_ret2
                  exact ⟨by rw [HRF.out]; rfl, hb⟩
      | false =>
        have hx1 : ¬ x'.natAbs = 1 := of_decide_eq_false hone
        have hC0 : ¬ C = 0 := fun h => hx1 (HCO.out.1 h)
        have hC : (C == 0) = false := by rw [beq_eq_false_iff_ne]; exact hC0
        have HX1 := hid hx1
        obtain rfl : g2 = false := by rw [← HG2.out]; exact decide_eq_false (fun h => HRET.out ⟨h, hx1⟩)
        clear hone hx1
        have kN := Blk.new w3 #[.bool g1, .slice s1 n1 c1, .bool false, .slice s2 n2 c2] 56
        have gg : Below w3.heap.size w3 (w3.alloc (.cells #[.bool g1, .slice s1 n1 c1, .bool false, .slice s2 n2 c2] 56)) := (Below.refl _ _).alloc (Nat.le_refl _) _
        obtain ⟨⟨p1, p2⟩, q1, q2⟩ := kX.two
        replace hx := hx.below gg
        replace hy := hy.below gg
        replace hb := hb.trans (gg.mono hb.size)
        have hN := Nums.mk2 kN hx hy
        replace kX := kX.later gg
        replace kY := kY.later gg
        have hsc := hid (short_fn hN (fun x hm => by
            simp at hm
            rcases hm with rfl | rfl
            · rw [HN1.out]; omega
            · rw [HN2.out]; omega) (by simp))
        rw [HAB.out] at hsc
        clear gg kN hN
        go_wp2_with fail
        (with_reducible refine hsc.out.mono ?_); rintro e w2 ⟨rfl, gg⟩
        replace hx := hx.below gg
        replace hy := hy.below gg
        replace hb := hb.trans (gg.mono hb.size)
        replace kX := kX.later gg
        replace kY := kY.later gg
        clear p1 p2 p3 p4 q1 q2 q3 q4 hsc gg
        by_cases hbig : big600 ≤ (pVal a).natAbs ∨ big600 ≤ (pVal b).natAbs
        · have hT : (!(decide (big600 ≤ (pVal a).natAbs) || decide (big600 ≤ (pVal b).natAbs))) = false := by
            rcases hbig with h | h <;> rw [decide_eq_true h] <;> simp
          have HR3 := hid (show powRes a b = ([], 4) by rw [HR2.out, if_pos hbig])
          rw [hT]
          clear hbig hT
          go_wp2
          go_ret2
          exact ⟨by rw [HR3.out]; rfl, hb⟩
        · have hT : (!(decide (big600 ≤ (pVal a).natAbs) || decide (big600 ≤ (pVal b).natAbs))) = true := by
            rw [decide_eq_false (show ¬ big600 ≤ (pVal a).natAbs by omega), decide_eq_false (show ¬ big600 ≤ (pVal b).natAbs by omega)]; rfl
          have ex : x' = pVal a := HCX.out.small (by omega)
          have ey : y' = pVal b := HCY.out.small (by omega)
          have HXS := hid (show x'.natAbs < big600 by rw [ex]; omega)
          have HYS := hid (show y'.natAbs < big600 by rw [ey]; omega)
          have HR3 := hid (show powRes a b = resOf (powI x' y') by rw [HR2.out, if_neg hbig, ex, ey])
          rw [hT]
          clear hbig hT ex ey HR2 HCX HCY HAB
          obtain ⟨⟨p1, p2⟩, q1, q2⟩ := kX.two
          obtain ⟨⟨p3, p4⟩, q3, q4⟩ := kY.two
          by_cases hy0 : y'.natAbs = 0
          · obtain rfl : n2 = 0 := HNY.out.2 hy0
            have HRF := hid (show powRes a b = ([49], 0) by rw [HR3.out, powI_zero HX1.out (by omega), resOf_one])
            clear hy0
            go_wp2
            go_ret2
            exact ⟨by rw [HRF.out]; rfl, hb⟩
          · have hn2p : 0 < n2 := by
              have := HNY.out
              omega
            obtain ⟨a', cap', hv', hcap', hc⟩ := hy.rep
            simp only [Value.slice.injEq] at hv'
            obtain ⟨rfl, e2, rfl⟩ := hv'
            obtain ⟨yb, yo, rfl, hyl, hc0⟩ := hc (by omega)
            have hcell := hc0 0 (by omega)
            rw [Nat.add_zero] at hcell
            clear hc hc0 e2 hcap'
            generalize dgt 10 y'.natAbs 0 = d at *
            have hn2 : ¬ ((n2 : Nat) : Int) = 0 := by omega
            have hyp : 0 < y' := by
              have h1 := HG2.out
              have h2 := of_decide_eq_false h1
              omega
            obtain ⟨N, rfl⟩ := Int.eq_ofNat_of_zero_le (show 0 ≤ y' by omega)
            by_cases hx0 : x'.natAbs = 0
            · obtain rfl : n1 = 0 := HNX.out.2 hx0
              have HRF := hid (show powRes a b = ([48], 0) by rw [HR3.out, powI_base0 (by omega) hyp, resOf_zero])
              clear hx0
              go_wp2
              go_ret2
              exact ⟨by rw [HRF.out]; rfl, hb⟩
            · have hn1 : ¬ ((n1 : Nat) : Int) = 0 := by
                have := HNX.out
                omega
              have HX2 := hid (show 2 ≤ x'.natAbs by have := HX1.out; omega)
              have HR4 := hid (show powRes a b = resOf (x' ^ N) by rw [HR3.out, powI_else HX1.out]; rfl)
              have hN0 : 0 < N := by omega
              have hd1 : n1 ≤ 600 := HDX.out.2 HXS.out
              have hd2 : n2 ≤ 600 := HDY.out.2 HYS.out
              clear hx0 HR3 hy0 hyp
              have HCO2 := hid (show cmpN N 10000 = cmpN N 10000 from rfl)
              have hN1 := hid (show (N : Int).natAbs = N from rfl)
              have hyr := hy.rep
              rw [hN1.out] at hyr
              replace HN2 : Hid (dlen 10 N = n2) := HN2
              go_wp2_with fail
              clear p1 p2 p3 p4 q1 q2 q3 q4
              replace kX := kX.drew
              replace kY := kY.drew
              replace hx := hx.below ((Below.refl w2.heap.size w2).drew)
              replace hy := hy.below ((Below.refl w2.heap.size w2).drew)
              replace hyr := hyr.below ((Below.refl w2.heap.size w2).drew)
              replace hb := hb.drew
              refine U_begin (late := fun i => decide (4 ≤ i)) (S := fun u => Blk u (B1 + 1) #[.bool false, .slice (some ⟨yb, yo, none⟩) n2 c2] 56) (by kernel_rfl) ?_
              generalize w2.drew = wd at *
              refine U_take2 4 (i := 0) (v := .pointer (some ⟨B1 + 1, 1, none⟩)) rfl (by kernel_rfl) (by kernel_rfl) (by kernel_rfl) (by kernel_rfl) (by kernel_rfl) (fun _ _ _ h => h) (.inl ⟨rfl, fun u hu => (by go_simp)⟩) kY ?_
              refine U_take2 4 (i := 1) (v := .slice (some ⟨yb, yo, none⟩) n2 c2) rfl (by kernel_rfl) (by kernel_rfl) (by kernel_rfl) (by kernel_rfl) (by kernel_rfl) (fun _ _ _ h => h) (.inl ⟨rfl, fun u hu => (by obtain ⟨⟨h1, h2⟩, _⟩ := hu.two; go_simp)⟩) kY ?_
              refine U_step (j := 2) (by kernel_rfl) rfl (fun K hK => ?_)
              go_simp
              have hc := fun w => hid (natOf_tt w)
              (with_reducible refine (hc _).out.mono ?_); rintro e w3 ⟨t, rfl, ht, gg⟩
              clear hc
              have htd := OwnDec.dec ht
              obtain ⟨ta, tc, rfl⟩ := htd.shape
              replace kX := kX.later gg
              replace kY := kY.later gg
              replace hx := hx.below gg
              replace hy := hy.below gg
              replace hyr := hyr.below gg
              replace hb := hb.trans (gg.mono hb.size)
              refine hK.out _ _ (.inr kY) ?_
              clear hK K gg
              refine U_step (j := 3) (by kernel_rfl) rfl (fun K hK => ?_)
              go_simp
              have hc := hid (order_fn hyr htd (by rw [HN2.out]; omega) (by decide))
              (with_reducible refine hc.out.mono ?_); rintro e w4 ⟨rfl, rfl⟩
              clear hc
              refine hK.out _ _ (.inr kY) ?_
              clear hK K
              refine U_step (j := 4) (by kernel_rfl) rfl (fun K hK => ?_)
              go_simp
              refine hK.out _ _ (.inl rfl) ?_
              clear hK K
              refine U_done (by kernel_rfl) ?_ _
              by_cases hfar : 10000 < N
              · have HRF := hid (show powRes a b = ([], 4) by rw [HR4.out, resOf_big _ (pow_big x' N HX2.out (by omega))])
                have hcm : cmpN N 10000 = 1 := by unfold cmpN; rw [if_neg (by omega), if_pos hfar]
                rw [hcm]
                clear hcm hfar
                go_wp2
                go_ret2
                exact ⟨by rw [HRF.out]; rfl, hb⟩
              · have hcm : ¬ 0 < cmpN N 10000 := by
                  unfold cmpN
                  by_cases h1 : N < 10000
                  · rw [if_pos h1]; decide
                  · rw [if_neg h1, if_neg (by omega)]; decide
                generalize cmpN N 10000 = C2 at *
                have HNF := hid (show N ≤ 10000 by omega)
                clear hfar ht htd HCO2
                have HW1 := fun w => hid (whole_fn 1 (by decide) (by decide) w)
                have HW0 := fun w => hid (whole_fn 0 (by decide) (by decide) w)
                go_wp2_with fail
                (with_reducible refine (HW1 _).out.mono ?_); rintro e w5 ⟨u1, rfl, hu1, gg⟩
                obtain ⟨og, oa, on, oc, rfl⟩ := hu1.num.shape4
                have hB : Below w4.heap.size w4 w5 := gg
                clear gg hcm
                have gg : Below w5.heap.size w5 (w5.alloc (.cells #[.bool og, .slice oa on oc] 56)) := (Below.refl _ _).alloc (Nat.le_refl _) _
                have kO := Blk.new w5 #[.bool og, .slice oa on oc] 56
                have hsB := hB.size
                have hO := hu1.num.below gg
                replace hB := hB.trans (gg.mono hsB)
                clear gg
                go_wp2_with fail
                generalize w5.alloc (.cells #[.bool og, .slice oa on oc] 56) = w6 at *
                generalize hBO : w5.heap.size = BO at *
                (with_reducible refine (HW0 _).out.mono ?_); rintro e w7 ⟨u0, rfl, hu0, gg⟩
                obtain ⟨ig, ia, im, ic, rfl⟩ := hu0.num.shape4
                have hs6 := hB.size
                have hltO := kO.lt
                replace hu0 := hu0.mono (show BO + 1 ≤ w6.heap.size by omega)
                replace kO := kO.later gg
                replace hO := hO.below gg
                replace hB := hB.trans (gg.mono hs6)
                have hs7 := gg.size
                clear gg
                have gg : Below w7.heap.size w7 (w7.alloc (.cells #[.bool ig, .slice ia im ic] 56)) := (Below.refl _ _).alloc (Nat.le_refl _) _
                have kI := Blk.new w7 #[.bool ig, .slice ia im ic] 56
                replace kO := kO.later gg
                replace hO := hO.below gg
                have hI := hu0.keep gg
                replace hB := hB.trans (gg.mono hB.size)
                have hlI : BO < w7.heap.size := by omega
                clear gg
                go_wp2_with fail
                generalize w7.alloc (.cells #[.bool ig, .slice ia im ic] 56) = w8 at *
                generalize hBI : w7.heap.size = BI at *
                clear hu1 hu0 hs7 HW0
                rw [← Int.pow_zero x'] at hO
                go_loopg [12] N (fun g pv wr => ∃ i bi : Nat, g = N - i ∧ pv = .pointer (some ⟨bi, 0, none⟩) ∧ i ≤ N ∧ BO < bi ∧ ∃ og oa on oc ig ia im ic p, Hid (p = x' ^ i) ∧ Blk wr BO #[.bool og, .slice oa on oc] 56 ∧ DNum wr (.agg #[.bool og, .slice oa on oc]) p ∧ p.natAbs < big600 ∧ Blk wr bi #[.bool ig, .slice ia im ic] 56 ∧ OwnDNum wr (BO + 1) (.agg #[.bool ig, .slice ia im ic]) (i : Int) ∧ Below w4.heap.size w4 wr)
                case atStart => exact ⟨0, BI, rfl, rfl, Nat.zero_le _, hlI, _, _, _, _, _, _, _, _, x' ^ 0, hid rfl, kO, hO, by rw [Int.pow_zero]; have := big600_two; show 1 < big600; omega, kI, hI, hB⟩
                case round =>
                  obtain ⟨i, bi, hg, rfl, hi, hlb, og, oa, on, oc, ig, ia, im, ic, p, HPI, kO, hO, hps, kI, hI, hbr⟩ := hrel
                  obtain rfl := hg.symm
                  clear hB
                  have kYr := kY.later hbr
                  have hyr2 := hy.below hbr
                  have hdi : dlen 10 (i : Int).natAbs ≤ 19 := by rw [Int.natAbs_natCast]; exact dlen_small i (by have := HNF.out; omega)
                  have HOr := hid (orderR_fn hI.num hyr2 (by omega) (by rw [hN1.out, HN2.out]; omega))
                  rw [cmpI_le hi] at HOr
                  obtain ⟨⟨p3, p4⟩, q3, q4⟩ := kYr.two
                  obtain ⟨⟨p5, p6⟩, q5, q6⟩ := kI.two
                  have hsr := hbr.size
                  have HPS := hid ((digits_600 p.natAbs).2 hps)
                  have HI := hid hi
                  by_cases hlt : i < N
                  · rw [if_pos hlt] at HOr
                    have HLT := hid hlt
                    clear hlt hi
                    go_wp2_with fail
                    (with_reducible refine HOr.out.mono ?_); rintro e wA ⟨rfl, gg⟩
                    have hb1 := hbr.trans (gg.mono hsr)
                    replace kO := kO.later gg
                    replace kI := kI.later gg
                    replace hO := hO.below gg
                    replace hI := hI.keep gg
                    have kXr := kX.later hb1
                    have hxr := hx.below hb1
                    clear gg p3 p4 q3 q4 p5 p6 q5 q6 kYr hyr2 hbr HOr
                    have hdm : dlen 10 (p * x').natAbs ≤ 1200 := by
                      rw [Int.natAbs_mul]
                      have := dlen_mul_le p.natAbs x'.natAbs
                      rw [HN1.out] at this
                      have := HPS.out
                      omega
                    have HT := hid (timesR_fn hO hxr (by have := HPS.out; omega) (by rw [HN1.out]; omega))
                    generalize hr : p * x' = r at *
                    have HRX := hid (show r = x' ^ (i + 1) by rw [← hr, HPI.out, pow_next])
                    clear hr
                    obtain ⟨⟨p1, p2⟩, q1, q2⟩ := kXr.two
                    obtain ⟨⟨o1, o2⟩, o3, o4⟩ := kO.two
                    go_wp2_with fail
                    (with_reducible refine HT.out.mono ?_); rintro e wB ⟨q, rfl, hq, gg⟩
                    obtain ⟨qg, qa, qn, qc, rfl⟩ := hq.num.shape4
                    have hltO := kO.lt
                    have hsA := hb1.size
                    replace kO := kO.later gg
                    replace kI := kI.later gg
                    replace hI := hI.keep gg
                    replace hb1 := hb1.trans (gg.mono hsA)
                    clear gg p1 p2 q1 q2 o1 o2 o3 o4 kXr hxr hO
                    obtain ⟨⟨o1, o2⟩, o3, o4⟩ := kO.two
                    replace kO := kO.set2 (.bool qg) (.slice qa qn qc)
                    replace kI := kI.set2_ne (b := BO) (by omega) (.bool qg) (.slice qa qn qc)
                    replace hI := hI.set2 (b := BO) (by omega) (.bool qg) (.slice qa qn qc)
                    replace hq := hq.set2 hltO (.bool qg) (.slice qa qn qc)
                    replace hb1 := (hb1.setCell (p := ⟨BO, 0, none⟩) (by show w4.heap.size ≤ BO; omega) (.bool qg)).setCell (p := ⟨BO, 1, none⟩) (by show w4.heap.size ≤ BO; omega) (.slice qa qn qc)
                    have HL := hid (long_fn hq.num (by omega))
                    obtain ⟨⟨z1, z2⟩, z3, z4⟩ := kO.two
                    go_wp2_with fail
                    (with_reducible refine HL.out.mono ?_); rintro e wC ⟨rfl, gg⟩
                    have hsB := hb1.size
                    replace hb1 := hb1.trans (gg.mono hsB)
                    replace kO := kO.later gg
                    replace kI := kI.later gg
                    replace hI := hI.keep gg
                    replace hq := hq.keep gg
                    clear gg o1 o2 o3 o4 z1 z2 z3 z4 HL
                    have hb2 := hb.trans (hb1.mono hb.size)
                    by_cases hbig : big600 ≤ r.natAbs
                    · have HRF := hid (show powRes a b = ([], 4) by rw [HR4.out, resOf_big _ (Nat.le_trans hbig (by rw [HRX.out]; exact pow_more x' _ _ (by have := HX2.out; omega) HLT.out))])
                      rw [decide_eq_true hbig]
                      clear hbig
                      go_wp2
                      go_ret2
                      exact ⟨by rw [HRF.out]; rfl, hb2⟩
                    · rw [decide_eq_false hbig]
                      have HSM := hid (show r.natAbs < big600 by omega)
                      clear hbig
                      obtain ⟨⟨p5, p6⟩, q5, q6⟩ := kI.two
                      have gg : Below wC.heap.size wC (wC.alloc (.cells #[.bool ig, .slice ia im ic] 56)) := (Below.refl _ _).alloc (Nat.le_refl _) _
                      have kJ := Blk.new wC #[.bool ig, .slice ia im ic] 56
                      have hltC := kO.lt
                      have nq := hq.notin_new (b := wC.heap.size) (Nat.le_refl _)
                      have hsC := hb1.size
                      replace hb1 := hb1.trans (gg.mono hsC)
                      replace kO := kO.later gg
                      replace hI := hI.keep gg
                      replace hq := hq.keep gg
                      clear gg hb2
                      go_wp2_with fail
                      clear p5 p6 q5 q6 kI
                      generalize wC.alloc (.cells #[.bool ig, .slice ia im ic] 56) = wD at *
                      generalize hBJ : wC.heap.size = BJ at *
                      replace kO := kO.drew
                      replace kJ := kJ.drew
                      replace hI := hI.drew
                      replace hq := hq.drew
                      replace hb1 := hb1.drew
                      refine U_begin (late := fun i => decide (3 ≤ i)) (S := fun u => Blk u BJ #[.bool ig, .slice ia im ic] 56) (by kernel_rfl) ?_
                      generalize wD.drew = we at *
                      refine U_take2 3 (i := 0) (v := .agg #[.bool ig, .slice ia im ic]) rfl (by kernel_rfl) (by kernel_rfl) (by kernel_rfl) (by kernel_rfl) (by kernel_rfl) (fun _ _ _ h => h) (.inl ⟨rfl, fun u hu => (by obtain ⟨⟨h1, h2⟩, _⟩ := hu.two; go_simp)⟩) kJ ?_
                      refine U_step (j := 1) (by kernel_rfl) rfl (fun K hK => ?_)
                      go_simp
                      (with_reducible refine (HW1 _).out.mono ?_); rintro e wf ⟨u, rfl, hu, gg⟩
                      obtain ⟨ug, ua, un, uc, rfl⟩ := hu.num.shape4
                      have hsE := hb1.size
                      replace hb1 := hb1.trans (gg.mono hsE)
                      replace kO := kO.later gg
                      replace kJ := kJ.later gg
                      replace hI := hI.keep gg
                      replace hq := hq.keep gg
                      refine hK.out _ _ (.inr kJ) ?_
                      clear hK K gg
                      refine U_step (j := 2) (by kernel_rfl) rfl (fun K hK => ?_)
                      go_simp
                      have hc := hid (plusR_fn hI.num hu.num (by omega) (by decide))
                      (with_reducible refine hc.out.mono ?_); rintro e wg ⟨y, rfl, hy2, gg⟩
                      clear hc
                      obtain ⟨yg, ya, yn, yc, rfl⟩ := hy2.num.shape4
                      have hltJ := kJ.lt
                      have hsF := hb1.size
                      replace hb1 := hb1.trans (gg.mono hsF)
                      replace kO := kO.later gg
                      replace kJ := kJ.later gg
                      replace hq := hq.keep gg
                      refine hK.out _ _ (.inr kJ) ?_
                      clear hK K gg
                      refine U_step (j := 3) (by kernel_rfl) rfl (fun K hK => ?_)
                      obtain ⟨⟨e1, e2⟩, e3, e4⟩ := kJ.two
                      go_simp
                      replace kJ := kJ.set2 (.bool yg) (.slice ya yn yc)
                      replace kO := kO.set2_ne (b := BJ) (by omega) (.bool yg) (.slice ya yn yc)
                      replace hy2 := (hy2.set2 hltJ (.bool yg) (.slice ya yn yc)).mono (show BO + 1 ≤ wf.heap.size by omega)
                      replace hq := hq.set2n nq (.bool yg) (.slice ya yn yc)
                      replace hb1 := (hb1.setCell (p := ⟨BJ, 0, none⟩) (by show w4.heap.size ≤ BJ; omega) (.bool yg)).setCell (p := ⟨BJ, 1, none⟩) (by show w4.heap.size ≤ BJ; omega) (.slice ya yn yc)
                      refine hK.out _ _ (.inl rfl) ?_
                      clear hK K e1 e2 e3 e4
                      refine U_done (by kernel_rfl) ?_ _
                      go_wp2
                      go_roundg (N - (i + 1))
                      case measure => have := HLT.out; omega
                      case rel => exact ⟨i + 1, BJ, rfl, rfl, HLT.out, hltC, _, _, _, _, _, _, _, _, r, HRX, kO, hq.num, HSM.out, kJ, hy2, hb1⟩
                  · rw [if_neg hlt] at HOr
                    obtain rfl : i = N := by omega
                    have HRF := hid (show powRes a b = resOf p by rw [HR4.out, HPI.out])
                    clear hlt hi
                    go_wp2_with fail
                    (with_reducible refine HOr.out.mono ?_); rintro e wA ⟨rfl, gg⟩
                    have hb1 := hbr.trans (gg.mono hsr)
                    replace kO := kO.later gg
                    replace hO := hO.below gg
                    obtain ⟨⟨o1, o2⟩, o3, o4⟩ := kO.two
                    have HTO := hid (told_fn hO (by have := HPS.out; omega) (Nums.nil _) (fun x h => by cases h) (by decide))
                    rw [toldRes_nil] at HTO
                    clear gg p3 p4 q3 q4 p5 p6 q5 q6
                    go_wp2_with fail
                    (with_reducible refine HTO.out.mono ?_); rintro e wB ⟨rfl, gg⟩
                    replace hb1 := hb1.trans (gg.mono hb1.size)
                    go_wp2
                    go_ret2
                    exact ⟨by rw [HRF.out]; rfl, hb.trans (hb1.mono hb.size)⟩
end Go.Proofs.YtkhgoeippamobaaGreatDoor
