/-
  Part K7a of the proofs of this seat: contracts of functions and plain facts, merged from 5 texts.
-/
import Derived.Test.YtkhgoeippamobaaGreatDoorK1
import Derived.Test.YtkhgoeippamobaaGreatDoorK2
import Derived.Test.YtkhgoeippamobaaGreatDoorK3
import Derived.Test.YtkhgoeippamobaaGreatDoorK4
import Derived.Test.YtkhgoeippamobaaGreatDoorK5
import Derived.Test.YtkhgoeippamobaaGreatDoorK6
/-
  Powers (plain).
-/
namespace Go.Proofs.YtkhgoeippamobaaGreatDoor
open Go.RowKit
/-- the power that Pow tells -/
def powI (x y : Int) : Int := if x.natAbs = 1 then (if y.natAbs % 2 = 1 then x else 1) else x ^ y.toNat
/-- the error that comes first -/
def powE (x y : Int) : Int := if y < 0 ∧ x.natAbs ≠ 1 then 7 else 0
theorem powI_unit {x y : Int} (h : x.natAbs = 1) : powI x y = if y.natAbs % 2 = 1 then x else 1 := by unfold powI; rw [if_pos h]
theorem powI_else {x y : Int} (h : x.natAbs ≠ 1) : powI x y = x ^ y.toNat := by unfold powI; rw [if_neg h]
theorem powI_zero {x y : Int} (h : x.natAbs ≠ 1) (hy : y = 0) : powI x y = 1 := by rw [powI_else h, hy]; exact Int.pow_zero x
theorem powI_base0 {x y : Int} (hx : x = 0) (hy : 0 < y) : powI x y = 0 := by
  subst hx
  rw [powI_else (by decide)]
  obtain ⟨n, hn⟩ : ∃ n, y.toNat = n + 1 := ⟨y.toNat - 1, by omega⟩
  rw [hn, Int.pow_succ, Int.mul_zero]
theorem abs_pow (x : Int) (n : Nat) : (x ^ n).natAbs = x.natAbs ^ n := Int.natAbs_pow x n
theorem two_big (n : Nat) (h : 2010 ≤ n) : big600 ≤ 2 ^ n := by
  have key : ∀ k, big600 ≤ 2 ^ k → k ≤ n → big600 ≤ 2 ^ n := fun k h1 h2 => Nat.le_trans h1 (Nat.pow_le_pow_right (n := 2) (by decide) h2)
  exact key _ big600_le h
theorem pow_big (x : Int) (n : Nat) (hx : 2 ≤ x.natAbs) (hn : 2010 ≤ n) : big600 ≤ (x ^ n).natAbs := by
  rw [abs_pow]
  exact Nat.le_trans (two_big n hn) (Nat.pow_le_pow_left hx n)
theorem pow_more (x : Int) (i n : Nat) (hx : 1 ≤ x.natAbs) (hi : i ≤ n) : (x ^ i).natAbs ≤ (x ^ n).natAbs := by
  rw [abs_pow, abs_pow]
  exact Nat.pow_le_pow_right hx hi
theorem pow_next (x : Int) (i : Nat) : x ^ i * x = x ^ (i + 1) := (Int.pow_succ x i).symm
theorem resOf_zero : resOf 0 = ([48], 0) := by
  unfold resOf
  rw [if_pos (show (0 : Int).natAbs < big600 from big600_pos)]
  rfl
def powRes (a b : List UInt8) : List UInt8 × Int := twoRes a b (powE (pVal a) (pVal b)) (powI (pVal a) (pVal b))
end Go.Proofs.YtkhgoeippamobaaGreatDoor
/-
  The reference: powers of two.
-/
namespace Go.Proofs.YtkhgoeippamobaaGreatDoor
open Go.RowKit
theorem dlen_two (k : Nat) : dlen 10 (2 ^ k) ≤ k + 1 :=
  (dlen_le_iff 10 _ _ (by decide)).2 (Nat.lt_of_lt_of_le (Nat.pow_lt_pow_right (by decide) (Nat.lt_succ_self k)) (Nat.pow_le_pow_left (by decide) _))
set_option maxRecDepth 100000 in
set_option maxHeartbeats 4000000 in
theorem two_fn' (n : Nat) (hn : n ≤ 10000) (w : World) : Calls Tryz.prog 108 #[.int .i64 n] w (FreshD ((2 ^ n : Nat) : Int) w) := by
  have kR := Blk.new w #[.bool false, .slice none 0 0] 56
  have hb0 : Below w.heap.size w (w.alloc (.cells #[.bool false, .slice none 0 0] 56)) := (Below.refl _ _).alloc (Nat.le_refl _) _
  have hsz0 : (w.alloc (.cells #[.bool false, .slice none 0 0] 56)).heap.size = w.heap.size + 1 := by simp
  have HW := fun w => hid (whole_fn 1 (by decide) (by decide) w)
  go_enter Tryz.func108, Tryz.ntmps108
  go_wp2_with fail
  generalize w.alloc (.cells #[.bool false, .slice none 0 0] 56) = w0 at *
  (with_reducible refine (HW _).out.mono ?_); rintro e w1 ⟨v, rfl, hv, gg⟩
  obtain ⟨g1, s1, n1, c1, rfl⟩ := hv.num.shape4
  have hb := hb0.trans (gg.mono hb0.size)
  have kR := kR.later gg
  have hs1 := gg.size
  have hlt1 := kR.lt
  clear gg
  have gg : Below w1.heap.size w1 (w1.alloc (.cells #[.bool g1, .slice s1 n1 c1] 56)) := (Below.refl _ _).alloc (Nat.le_refl _) _
  have kO := Blk.new w1 #[.bool g1, .slice s1 n1 c1] 56
  have kR := kR.later gg
  have hb := hb.trans (gg.mono hb.size)
  have hv := (hv.keep gg).mono (show w.heap.size + 1 ≤ w0.heap.size by omega)
  have hlt2 := kO.lt
  clear gg
  go_wp2_with fail
  generalize w1.alloc (.cells #[.bool g1, .slice s1 n1 c1] 56) = w2 at *
  generalize hB : w1.heap.size = B at *
  clear hb0 hsz0
  go_loopw [6] (fun iv wr => ∃ k : Nat, iv = .int .i64 k ∧ k ≤ n ∧ ∃ g s m c, Blk wr B #[.bool g, .slice s m c] 56 ∧ OwnDNum wr (w.heap.size + 1) (.agg #[.bool g, .slice s m c]) ((2 ^ k : Nat) : Int) ∧ Blk wr w.heap.size #[.bool false, .slice none 0 0] 56 ∧ Below w.heap.size w wr) (fun iv _ => n - (intOf iv).toNat)
  case atStart => exact ⟨0, rfl, Nat.zero_le _, _, _, _, _, kO, hv, kR, hb⟩
  case round =>
    obtain ⟨k, rfl, hk, g, s, m, c, kO, hO, kR, hb⟩ := hrel
    obtain ⟨⟨p1, p2⟩, q1, q2⟩ := kO.two
    have hdk := dlen_two k
    by_cases hlt : k < n
    · have HP := hid (plusR_fn hO.num hO.num (by rw [Int.natAbs_natCast]; omega) (by rw [Int.natAbs_natCast]; omega))
      have HE := hid (show ((2 ^ k : Nat) : Int) + ((2 ^ k : Nat) : Int) = ((2 ^ (k + 1) : Nat) : Int) by rw [Nat.pow_succ]; omega)
      rw [HE.out] at HP
      go_wp2_with fail
      (with_reducible refine HP.out.mono ?_); rintro e w3 ⟨q, rfl, hq, gg⟩
      obtain ⟨g', s', m', c', rfl⟩ := hq.num.shape4
      have hltO := kO.lt
      have hszr := hb.size
      have kO := kO.later gg
      have kR := kR.later gg
      have hb := hb.trans (gg.mono hb.size)
      clear p1 p2 q1 q2
      obtain ⟨⟨p1, p2⟩, q1, q2⟩ := kO.two
      go_wp2
      have kO := kO.set2 (.bool g') (.slice s' m' c')
      have kR := kR.set2_ne (b := B) (by omega) (.bool g') (.slice s' m' c')
      have hq := (hq.set2 hltO (.bool g') (.slice s' m' c')).mono (show w.heap.size + 1 ≤ wr.heap.size by omega)
      have hb := (hb.setCell (p := ⟨B, 0, none⟩) (by show w.heap.size ≤ B; omega) (.bool g')).setCell (p := ⟨B, 1, none⟩) (by show w.heap.size ≤ B; omega) (.slice s' m' c')
      go_roundw
      case rel => exact ⟨k + 1, by go_num, by omega, _, _, _, _, kO, hq, kR, hb⟩
      case measure => simp [intOf] <;> omega
    · obtain rfl : k = n := by omega
      obtain ⟨⟨r1, r2⟩, t1, t2⟩ := kR.two
      go_wp2
      have kR := kR.set2 (.bool g) (.slice s m c)
      obtain ⟨⟨z1, z2⟩, _⟩ := kR.two
      have hO := (hO.set2 (b := w.heap.size) (by omega) (.bool g) (.slice s m c)).mono (show w.heap.size ≤ w.heap.size + 1 by omega)
      have hb := (hb.setCell (p := ⟨w.heap.size, 0, none⟩) (Nat.le_refl _) (.bool g)).setCell (p := ⟨w.heap.size, 1, none⟩) (Nat.le_refl _) (.slice s m c)
      exact bodyPost_ret (v := .agg #[.bool g, .slice s m c]) (by simp [results, Tryz.results108, go_sem, z1, z2]) rfl ⟨_, rfl, hO, hb⟩
end Go.Proofs.YtkhgoeippamobaaGreatDoor
/-
  Regions in which three operations may come up; numbers that do not lie in a block.
-/
namespace Go.Proofs.YtkhgoeippamobaaGreatDoor
open Go.RowKit
section
variable {P : Program} {md : Region.Mode} {ops : Array Oper} {Q : Exit → Act → World → Prop} {late : Nat → Bool} {S : World → Prop}
/-- three operations may come up -/
theorem U_three {j1 j2 j3 : Nat} {o1 o2 o3 : Oper} {fuel : Nat} {listed : Array Bool} {a : Act} {w : World} (hr : Region.ready md ops listed = [j1, j2, j3]) (ho1 : ops[j1]? = some o1) (ho2 : ops[j2]? = some o2) (ho3 : ops[j3]? = some o3)
    (h1 : ∀ K : Act → World → Prop, Hid (∀ b u, (late j1 = true ∨ S u) → anyU P md ops Q late S fuel (listed.setIfInBounds j1 true) b u → K b u) → if Region.wanted o1 (yielded ops a.tmps) = true then Oper.wp P o1 a w K Q else K (a.put o1.dst undef) w)
    (h2 : ∀ K : Act → World → Prop, Hid (∀ b u, (late j2 = true ∨ S u) → anyU P md ops Q late S fuel (listed.setIfInBounds j2 true) b u → K b u) → if Region.wanted o2 (yielded ops a.tmps) = true then Oper.wp P o2 a w K Q else K (a.put o2.dst undef) w)
    (h3 : ∀ K : Act → World → Prop, Hid (∀ b u, (late j3 = true ∨ S u) → anyU P md ops Q late S fuel (listed.setIfInBounds j3 true) b u → K b u) → if Region.wanted o3 (yielded ops a.tmps) = true then Oper.wp P o3 a w K Q else K (a.put o3.dst undef) w) :
    anyU P md ops Q late S (fuel + 1) listed a w := by
  refine ⟨fun h0 => (by rw [hr] at h0; cases h0), fun i hi => ?_⟩
  rw [hr] at hi
  simp only [List.mem_cons, List.mem_nil_iff, or_false] at hi
  rcases hi with rfl | rfl | rfl
  · exact wpOp_step ho1 fun K hK => h1 K fun b u h1 h2 => hK b u ⟨h1, h2⟩
  · exact wpOp_step ho2 fun K hK => h2 K fun b u h1 h2 => hK b u ⟨h1, h2⟩
  · exact wpOp_step ho3 fun K hK => h3 K fun b u h1 h2 => hK b u ⟨h1, h2⟩
end
/-- a region's end, of which only this is told: the pointers of two blocks, the numbers in them -/
def CutD (A : Nat → Nat → Bool → Option Addr → Nat → Nat → Bool → Option Addr → Nat → Nat → Bool → Option Addr → Nat → Nat → Act)
    (R : Nat → Nat → Bool → Option Addr → Nat → Nat → Bool → Option Addr → Nat → Nat → World → Prop) : Exit → Act → World → Prop
  | .normal, a, w => ∃ bq br qg qa qn qc rg ra rn rc zg za zn zc, a = A bq br qg qa qn qc rg ra rn rc zg za zn zc ∧ R bq br qg qa qn qc rg ra rn rc w
  | _, _, _ => False
theorem U_cutD {P : Program} {c : Code} {Q : Exit → Act → World → Prop} {a : Act} {w : World}
    {A : Nat → Nat → Bool → Option Addr → Nat → Nat → Bool → Option Addr → Nat → Nat → Bool → Option Addr → Nat → Nat → Act}
    {R : Nat → Nat → Bool → Option Addr → Nat → Nat → Bool → Option Addr → Nat → Nat → World → Prop}
    (h : c.wp P (CutD A R) a w)
    (hr : ∀ bq br qg qa qn qc rg ra rn rc zg za zn zc w', R bq br qg qa qn qc rg ra rn rc w' → Q .normal (A bq br qg qa qn qc rg ra rn rc zg za zn zc) w') : c.wp P Q a w := by
  refine Code.wp_mono (fun e a w h => ?_) h
  cases e with
  | normal =>
    obtain ⟨bq, br, qg, qa, qn, qc, rg, ra, rn, rc, zg, za, zn, zc, rfl, h⟩ := h
    exact hr _ _ _ _ _ _ _ _ _ _ _ _ _ _ _ h
  | _ => exact h.elim
/-- the digits of a number do not lie in a block -/
def NotIn (v : Value) (b : Nat) : Prop := ∀ g s n c, v = .agg #[.bool g, .slice s n c] → ∀ a, s = some a → a.block ≠ b
theorem cell_set2 {w : World} {b c : Nat} (i : Nat) (x y : Value) (h : c ≠ b) : ((w.setCell ⟨b, 0, none⟩ x).setCell ⟨b, 1, none⟩ y).cell? ⟨c, i, none⟩ = w.cell? ⟨c, i, none⟩ :=
  World.cell?_of_block (a := ⟨c, i, none⟩) ((Below.heap_setCell _ _ _ _ h).trans (Below.heap_setCell _ _ _ _ h))
theorem DNum.set2n {w : World} {b : Nat} {v : Value} {z : Int} (h : DNum w v z) (hn : NotIn v b) (x y : Value) : DNum ((w.setCell ⟨b, 0, none⟩ x).setCell ⟨b, 1, none⟩ y) v z := by
  obtain ⟨s, rfl, a, cap, rfl, hc, hr⟩ := h
  refine ⟨_, rfl, a, cap, rfl, hc, fun h0 => ?_⟩
  obtain ⟨k, off, rfl, hlt, hcell⟩ := hr h0
  have hne : k ≠ b := hn _ _ _ _ rfl _ rfl
  exact ⟨k, off, rfl, by simpa using hlt, fun i hi => (cell_set2 (off + i) x y hne).trans (hcell i hi)⟩
theorem OwnDNum.set2n {w : World} {base b : Nat} {v : Value} {z : Int} (h : OwnDNum w base v z) (hn : NotIn v b) (x y : Value) : OwnDNum ((w.setCell ⟨b, 0, none⟩ x).setCell ⟨b, 1, none⟩ y) base v z := by
  obtain ⟨s, rfl, hl, hv | ⟨g, cap, cur, rfl, hg, hh, hr⟩⟩ := h
  · exact ⟨s, rfl, hl, .inl hv⟩
  · have hne : g ≠ b := hn _ _ _ _ rfl _ rfl
    exact ⟨_, rfl, hl, .inr ⟨g, cap, cur, rfl, hg, ((Below.heap_setCell _ _ _ _ hne).trans (Below.heap_setCell _ _ _ _ hne)).trans hh, hr⟩⟩
theorem OwnDNum.notin {w : World} {base b : Nat} {v : Value} {z : Int} (h : OwnDNum w base v z) (hb : b < base) : NotIn v b := by
  obtain ⟨s, rfl, hl, ⟨rfl, _⟩ | ⟨g, cap, cur, rfl, hg, hr⟩⟩ := h
  · intro g s n c he a ha
    simp only [Value.agg.injEq, Array.mk.injEq, List.cons.injEq, Value.slice.injEq, and_true] at he
    rw [← he.2.1] at ha; cases ha
  · intro g' s n c he a ha
    simp only [Value.agg.injEq, Array.mk.injEq, List.cons.injEq, Value.slice.injEq, and_true] at he
    rw [← he.2.1] at ha
    cases ha
    show g ≠ b
    omega
theorem OwnDNum.notin_new {w : World} {base b : Nat} {v : Value} {z : Int} (h : OwnDNum w base v z) (hb : w.heap.size ≤ b) : NotIn v b := by
  obtain ⟨s, rfl, hl, ⟨rfl, _⟩ | ⟨g, cap, cur, rfl, hg, hh, hr⟩⟩ := h
  · intro g s n c he a ha
    simp only [Value.agg.injEq, Array.mk.injEq, List.cons.injEq, Value.slice.injEq, and_true] at he
    rw [← he.2.1] at ha; cases ha
  · intro g' s n c he a ha
    simp only [Value.agg.injEq, Array.mk.injEq, List.cons.injEq, Value.slice.injEq, and_true] at he
    rw [← he.2.1] at ha
    cases ha
    have := (Array.getElem?_eq_some_iff.1 hh).1
    show g ≠ b
    omega
end Go.Proofs.YtkhgoeippamobaaGreatDoor
/-
  The reference: Neg, Abs, Not.
-/
namespace Go.Proofs.YtkhgoeippamobaaGreatDoor
open Go.RowKit
theorem oneRes_cut {a : List UInt8} {x' z' z : Int} (ok : pOK a = true) (hc : Cut x' (pVal a)) (hbig : big600 ≤ x'.natAbs → big600 ≤ z'.natAbs) (he : x' = pVal a → z' = z) : oneRes a 0 z = resOf z' := by
  unfold oneRes
  rw [if_pos ok, if_neg (by simp)]
  by_cases h : big600 ≤ (pVal a).natAbs
  · rw [if_pos h]
    have h1 : big600 ≤ x'.natAbs := by
      rcases hc with rfl | ⟨h1, _, _⟩
      · exact h
      · exact h1
    rw [resOf_big _ (hbig h1)]
  · rw [if_neg h, he (hc.small (by omega))]
theorem oneRes_told {a : List UInt8} {x' z' z : Int} (ok : pOK a = true) (hc : Cut x' (pVal a)) (he : x' = pVal a → z' = z) : oneRes a 0 z = toldRes z' [x'] := by
  unfold oneRes toldRes anyBig
  rw [if_pos ok, if_neg (by simp)]
  by_cases h : big600 ≤ (pVal a).natAbs
  · have h1 : big600 ≤ x'.natAbs := by
      rcases hc with rfl | ⟨h1, _, _⟩
      · exact h
      · exact h1
    simp [h, h1]
  · have e := hc.small (by omega)
    have h1 : ¬ big600 ≤ x'.natAbs := by rw [e]; exact h
    simp [h, h1, he e]
set_option maxRecDepth 100000 in
set_option maxHeartbeats 4000000 in
theorem negR_fn (a : List UInt8) (ha : a.length ≤ 2000000) (w : World) :
    Calls Tryz.prog 43 #[.string ⟨a.toArray⟩] w fun e w' => e = .returned (.tuple #[.string ⟨(negRes a).1.toArray⟩, .int .i64 (negRes a).2]) ∧ Below w.heap.size w w' := by
  have hB := hid (oneR_fn a ha w)
  unfold OneQ at hB
  clear ha
  cases hok : pOK a with
  | false =>
    have HR := hid (show negRes a = ([], 2) by unfold negRes oneRes; rw [if_neg (by rw [hok]; decide)])
    rw [hok] at hB
    have hB := hid hB.out
    clear hok
    go_enter Tryz.func43, Tryz.ntmps43
    go_wp2_with fail
    (with_reducible refine hB.out.mono ?_); rintro e w1 ⟨g1, s1, n1, c1, rfl, hb1, -⟩
    have hsz := hb1.size
    go_wp2
    go_ret2
    exact ⟨by rw [HR.out]; rfl, hb1.alloc hsz _⟩
  | true =>
    have HR0 := fun x' hc => hid (show negRes a = resOf (-x') from oneRes_cut (x' := x') hok hc (by rw [Int.natAbs_neg]; exact id) (fun e => by rw [e]))
    rw [hok] at hB
    have hB := hid hB.out
    clear hok
    go_enter Tryz.func43, Tryz.ntmps43
    go_wp2_with fail
    (with_reducible refine hB.out.mono ?_); rintro e w1 ⟨g1, s1, n1, c1, rfl, hb, hn⟩
    obtain ⟨x', hx, hlx, hcx⟩ := hn (by first | rfl | trivial)
    have HCX := hid hcx
    clear hn hB hcx
    have kX := Blk.new w1 #[.bool g1, .slice s1 n1 c1] 56
    have gg : Below w1.heap.size w1 (w1.alloc (.cells #[.bool g1, .slice s1 n1 c1] 56)) := (Below.refl _ _).alloc (Nat.le_refl _) _
    replace hx := hx.below gg
    replace hb := hb.trans (gg.mono hb.size)
    clear gg
    obtain ⟨⟨p1, p2⟩, q1, q2⟩ := kX.two
    have HR := HR0 _ HCX.out
    have HO := hid (oppR_fn hx (by omega))
    go_wp2_with fail
    (with_reducible refine HO.out.mono ?_); rintro e w2 ⟨r, rfl, hr, gg⟩
    replace hb := hb.trans (gg.mono hb.size)
    obtain ⟨rg, ra, rn, rc, rfl⟩ := hr.shape4
    have HTO := hid (told_fn hr (by rw [Int.natAbs_neg]; omega) (Nums.nil _) (fun x h => by cases h) (by decide))
    rw [toldRes_nil] at HTO
    clear gg
    go_wp2_with fail
    (with_reducible refine HTO.out.mono ?_); rintro e w3 ⟨rfl, gg⟩
    replace hb := hb.trans (gg.mono hb.size)
    go_wp2
    go_ret2
    exact ⟨by rw [HR.out]; rfl, hb⟩
set_option maxRecDepth 100000 in
set_option maxHeartbeats 4000000 in
theorem absR_fn (a : List UInt8) (ha : a.length ≤ 2000000) (w : World) :
    Calls Tryz.prog 44 #[.string ⟨a.toArray⟩] w fun e w' => e = .returned (.tuple #[.string ⟨(absRes a).1.toArray⟩, .int .i64 (absRes a).2]) ∧ Below w.heap.size w w' := by
  have hB := hid (oneR_fn a ha w)
  unfold OneQ at hB
  clear ha
  cases hok : pOK a with
  | false =>
    have HR := hid (show absRes a = ([], 2) by unfold absRes oneRes; rw [if_neg (by rw [hok]; decide)])
    rw [hok] at hB
    have hB := hid hB.out
    clear hok
    go_enter Tryz.func44, Tryz.ntmps44
    go_wp2_with fail
    (with_reducible refine hB.out.mono ?_); rintro e w1 ⟨g1, s1, n1, c1, rfl, hb1, -⟩
    have hsz := hb1.size
    go_wp2
    go_ret2
    exact ⟨by rw [HR.out]; rfl, hb1.alloc hsz _⟩
  | true =>
    have HR0 := fun x' hc => hid (show absRes a = resOf (((Int.natAbs x' : Nat)) : Int) from oneRes_cut (x' := x') hok hc (by rw [Int.natAbs_natCast]; exact id) (fun e => by rw [e]))
    rw [hok] at hB
    have hB := hid hB.out
    clear hok
    go_enter Tryz.func44, Tryz.ntmps44
    go_wp2_with fail
    (with_reducible refine hB.out.mono ?_); rintro e w1 ⟨g1, s1, n1, c1, rfl, hb, hn⟩
    obtain ⟨x', hx, hlx, hcx⟩ := hn (by first | rfl | trivial)
    have HCX := hid hcx
    clear hn hB hcx
    have kX := Blk.new w1 #[.bool g1, .slice s1 n1 c1] 56
    have gg : Below w1.heap.size w1 (w1.alloc (.cells #[.bool g1, .slice s1 n1 c1] 56)) := (Below.refl _ _).alloc (Nat.le_refl _) _
    replace hx := hx.below gg
    replace hb := hb.trans (gg.mono hb.size)
    clear gg
    obtain ⟨⟨p1, p2⟩, q1, q2⟩ := kX.two
    have HR := HR0 _ HCX.out
    have hxr := hx.rep
    have HO := hid (num_fn hxr (by omega) false)
    rw [Bool.false_and] at HO
    go_wp2_with fail
    (with_reducible refine HO.out.mono ?_); rintro e w2 ⟨rfl, gg⟩
    replace hb := hb.trans (gg.mono hb.size)
    have hxr := hxr.below gg
    have hD : DNum w2 (.agg #[.bool false, .slice s1 n1 c1]) ((x'.natAbs : Nat) : Int) := ⟨_, by rw [decide_eq_false (show ¬ ((x'.natAbs : Nat) : Int) < 0 by omega)], by rw [Int.natAbs_natCast]; exact hxr⟩
    have HTO := hid (told_fn hD (by rw [Int.natAbs_natCast]; omega) (Nums.nil _) (fun x h => by cases h) (by decide))
    rw [toldRes_nil] at HTO
    clear gg
    go_wp2_with fail
    (with_reducible refine HTO.out.mono ?_); rintro e w3 ⟨rfl, gg⟩
    replace hb := hb.trans (gg.mono hb.size)
    go_wp2
    go_ret2
    exact ⟨by rw [HR.out]; rfl, hb⟩
set_option maxRecDepth 100000 in
set_option maxHeartbeats 4000000 in
theorem notR_fn (a : List UInt8) (ha : a.length ≤ 2000000) (w : World) :
    Calls Tryz.prog 45 #[.string ⟨a.toArray⟩] w fun e w' => e = .returned (.tuple #[.string ⟨(notRes a).1.toArray⟩, .int .i64 (notRes a).2]) ∧ Below w.heap.size w w' := by
  have hB := hid (oneR_fn a ha w)
  unfold OneQ at hB
  clear ha
  cases hok : pOK a with
  | false =>
    have HR := hid (show notRes a = ([], 2) by unfold notRes oneRes; rw [if_neg (by rw [hok]; decide)])
    rw [hok] at hB
    have hB := hid hB.out
    clear hok
    go_enter Tryz.func45, Tryz.ntmps45
    go_wp2_with fail
    (with_reducible refine hB.out.mono ?_); rintro e w1 ⟨g1, s1, n1, c1, rfl, hb1, -⟩
    have hsz := hb1.size
    go_wp2
    go_ret2
    exact ⟨by rw [HR.out]; rfl, hb1.alloc hsz _⟩
  | true =>
    have HR0 := fun x' hc => hid (show notRes a = toldRes (-x' + -1) [x'] from oneRes_told (x' := x') hok hc (fun e => by rw [e]; omega))
    rw [hok] at hB
    have hB := hid hB.out
    clear hok
    go_enter Tryz.func45, Tryz.ntmps45
    go_wp2_with fail
    (with_reducible refine hB.out.mono ?_); rintro e w1 ⟨g1, s1, n1, c1, rfl, hb, hn⟩
    obtain ⟨x', hx, hlx, hcx⟩ := hn (by first | rfl | trivial)
    have HCX := hid hcx
    clear hn hB hcx
    have kX := Blk.new w1 #[.bool g1, .slice s1 n1 c1] 56
    have gg : Below w1.heap.size w1 (w1.alloc (.cells #[.bool g1, .slice s1 n1 c1] 56)) := (Below.refl _ _).alloc (Nat.le_refl _) _
    replace hx := hx.below gg
    replace hb := hb.trans (gg.mono hb.size)
    clear gg
    have HR := HR0 _ HCX.out
    obtain ⟨⟨p1, p2⟩, q1, q2⟩ := kX.two
    go_wp2_with fail
    clear p1 p2 q1 q2
    generalize w1.alloc (.cells #[.bool g1, .slice s1 n1 c1] 56) = w0 at *
    generalize w1.heap.size = B1 at *
    replace kX := kX.drew
    replace hx := hx.below ((Below.refl w0.heap.size w0).drew)
    replace hb := hb.drew
    refine U_begin (late := fun i => decide (9 ≤ i)) (S := fun u => Blk u B1 #[.bool g1, .slice s1 n1 c1] 56) (by kernel_rfl) ?_
    generalize w0.drew = wd at *
    refine U_take (i := 0) (v := .agg #[.bool g1, .slice s1 n1 c1]) rfl (by kernel_rfl) (by kernel_rfl) (by kernel_rfl) (by kernel_rfl) (by kernel_rfl) (fun _ _ _ h => h) (.inl ⟨rfl, fun u hu => (by obtain ⟨⟨h1, h2⟩, _⟩ := hu.two; go_simp)⟩) kX ?_
    refine U_take (i := 4) (v := .agg #[.bool g1, .slice s1 n1 c1]) rfl (by kernel_rfl) (by kernel_rfl) (by kernel_rfl) (by kernel_rfl) (by kernel_rfl) (fun _ _ _ h => h) (.inl ⟨rfl, fun u hu => (by obtain ⟨⟨h1, h2⟩, _⟩ := hu.two; go_simp)⟩) kX ?_
    refine U_two (j1 := 1) (j2 := 5) (by kernel_rfl) rfl rfl (fun K hK => ?_) (fun K hK => ?_)
    · go_simp
      have hc := hid (oppR_fn hx (by omega))
      (with_reducible refine hc.out.mono ?_); rintro e v1 ⟨r, rfl, hr, gg⟩
      clear hc
      replace hb := hb.trans (gg.mono hb.size)
      replace kX := kX.later gg
      have hx := hx.below gg
      obtain ⟨rg, ra, rn, rc, rfl⟩ := hr.shape4
      clear gg
      refine hK.out _ _ (.inr kX) ?_
      clear hK K
      refine U_two (j1 := 2) (j2 := 5) (by kernel_rfl) rfl rfl (fun K hK => ?_) (fun K hK => ?_)
      · go_simp
        have hc := fun w => hid (whole_fn (-1) (by decide) (by decide) w)
        (with_reducible refine (hc _).out.mono ?_); rintro e v2 ⟨m, rfl, hm, gg⟩
        clear hc
        have hm := hm.num
        replace hb := hb.trans (gg.mono hb.size)
        replace kX := kX.later gg
        have hx := hx.below gg
        have hr := hr.below gg
        obtain ⟨mg, ma, mn, mc, rfl⟩ := hm.shape4
        clear gg
        refine hK.out _ _ (.inr kX) ?_
        clear hK K
        refine U_two (j1 := 3) (j2 := 5) (by kernel_rfl) rfl rfl (fun K hK => ?_) (fun K hK => ?_)
        · go_simp
          have hc := hid (plusR_fn hr hm (by rw [Int.natAbs_neg]; omega) (by decide))
          (with_reducible refine hc.out.mono ?_); rintro e v3 ⟨q, rfl, hq, gg⟩
          clear hc
          replace hq := hq.num
          replace hb := hb.trans (gg.mono hb.size)
          replace kX := kX.later gg
          have hx := hx.below gg
          have hr := hr.below gg
          have hm := hm.below gg
          obtain ⟨qg, qa, qn, qc, rfl⟩ := hq.shape4
          clear gg
          refine hK.out _ _ (.inr kX) ?_
          clear hK K
          refine U_step (j := 5) (by kernel_rfl) rfl (fun K hK => ?_)
          go_simp
          have gg : Below v3.heap.size v3 (v3.alloc (.cells #[.bool g1, .slice s1 n1 c1] 56)) := (Below.refl _ _).alloc (Nat.le_refl _) _
          have kN := Blk.new v3 #[.bool g1, .slice s1 n1 c1] 56
          replace hb := hb.trans (gg.mono hb.size)
          replace kX := kX.later gg
          have hx := hx.below gg
          have hr := hr.below gg
          have hm := hm.below gg
          have hq := hq.below gg
          have hN := Nums.mk1 kN hx
          clear gg
          refine hK.out _ _ (.inr kX) ?_
          clear hK K
          generalize v3.alloc (.cells #[.bool g1, .slice s1 n1 c1] 56) = v4 at *
          generalize v3.heap.size = b4 at *
          refine U_step (j := 6) (by kernel_rfl) rfl (fun K hK => ?_)
          go_simp
          have hc := hid (told_fn hq (by have := dlen_abs_add (-x') (-1); rw [Int.natAbs_neg] at this; have h1 : dlen 10 (-1 : Int).natAbs ≤ 1 := (by decide); omega) hN (fun x hm => by simp at hm; subst hm; omega) (by simp))
          (with_reducible refine hc.out.mono ?_); rintro e v5 ⟨rfl, gg⟩
          clear hc
          replace hb := hb.trans (gg.mono hb.size)
          replace kX := kX.later gg
          have hx := hx.below gg
          have hr := hr.below gg
          have hm := hm.below gg
          have hq := hq.below gg
          have hN := hN.below gg
          clear gg
          refine hK.out _ _ (.inr kX) ?_
          clear hK K
          refine U_take (i := 7) (v := .string ⟨(toldRes (-x' + -1) [x']).1.toArray⟩) rfl (by kernel_rfl) (by kernel_rfl) (by kernel_rfl) (by kernel_rfl) (by kernel_rfl) (fun _ _ _ h => h) (.inl ⟨rfl, fun u hu => (by go_simp)⟩) kX ?_
          refine U_take (i := 8) (v := .int .i64 (toldRes (-x' + -1) [x']).2) rfl (by kernel_rfl) (by kernel_rfl) (by kernel_rfl) (by kernel_rfl) (by kernel_rfl) (fun _ _ _ h => h) (.inl ⟨rfl, fun u hu => (by go_simp)⟩) kX ?_
          refine U_step (j := 9) (by kernel_rfl) rfl (fun K hK => ?_)
          go_simp
          refine hK.out _ _ (.inl rfl) ?_
          clear hK K
          refine U_step (j := 10) (by kernel_rfl) rfl (fun K hK => ?_)
          go_simp
          refine hK.out _ _ (.inl rfl) ?_
          clear hK K
          refine U_done (by kernel_rfl) ?_ _
          go_wp2
          go_ret2
          exact ⟨by rw [HR.out]; rfl, hb⟩
        · go_simp
          have gg : Below v2.heap.size v2 (v2.alloc (.cells #[.bool g1, .slice s1 n1 c1] 56)) := (Below.refl _ _).alloc (Nat.le_refl _) _
          have kN := Blk.new v2 #[.bool g1, .slice s1 n1 c1] 56
          replace hb := hb.trans (gg.mono hb.size)
          replace kX := kX.later gg
          have hx := hx.below gg
          have hr := hr.below gg
          have hm := hm.below gg
          have hN := Nums.mk1 kN hx
          clear gg
          refine hK.out _ _ (.inr kX) ?_
          clear hK K
          generalize v2.alloc (.cells #[.bool g1, .slice s1 n1 c1] 56) = v3 at *
          generalize v2.heap.size = b3 at *
          refine U_step (j := 3) (by kernel_rfl) rfl (fun K hK => ?_)
          go_simp
          have hc := hid (plusR_fn hr hm (by rw [Int.natAbs_neg]; omega) (by decide))
          (with_reducible refine hc.out.mono ?_); rintro e v4 ⟨q, rfl, hq, gg⟩
          clear hc
          replace hq := hq.num
          replace hb := hb.trans (gg.mono hb.size)
          replace kX := kX.later gg
          have hx := hx.below gg
          have hr := hr.below gg
          have hm := hm.below gg
          have hN := hN.below gg
          obtain ⟨qg, qa, qn, qc, rfl⟩ := hq.shape4
          clear gg
          refine hK.out _ _ (.inr kX) ?_
          clear hK K
          refine U_step (j := 6) (by kernel_rfl) rfl (fun K hK => ?_)
          go_simp
          have hc := hid (told_fn hq (by have := dlen_abs_add (-x') (-1); rw [Int.natAbs_neg] at this; have h1 : dlen 10 (-1 : Int).natAbs ≤ 1 := (by decide); omega) hN (fun x hm => by simp at hm; subst hm; omega) (by simp))
          (with_reducible refine hc.out.mono ?_); rintro e v5 ⟨rfl, gg⟩
          clear hc
          replace hb := hb.trans (gg.mono hb.size)
          replace kX := kX.later gg
          have hx := hx.below gg
          have hr := hr.below gg
          have hm := hm.below gg
          have hN := hN.below gg
          have hq := hq.below gg
          clear gg
          refine hK.out _ _ (.inr kX) ?_
          clear hK K
          refine U_take (i := 7) (v := .string ⟨(toldRes (-x' + -1) [x']).1.toArray⟩) rfl (by kernel_rfl) (by kernel_rfl) (by kernel_rfl) (by kernel_rfl) (by kernel_rfl) (fun _ _ _ h => h) (.inl ⟨rfl, fun u hu => (by go_simp)⟩) kX ?_
          refine U_take (i := 8) (v := .int .i64 (toldRes (-x' + -1) [x']).2) rfl (by kernel_rfl) (by kernel_rfl) (by kernel_rfl) (by kernel_rfl) (by kernel_rfl) (fun _ _ _ h => h) (.inl ⟨rfl, fun u hu => (by go_simp)⟩) kX ?_
          refine U_step (j := 9) (by kernel_rfl) rfl (fun K hK => ?_)
          go_simp
          refine hK.out _ _ (.inl rfl) ?_
          clear hK K
          refine U_step (j := 10) (by kernel_rfl) rfl (fun K hK => ?_)
          go_simp
          refine hK.out _ _ (.inl rfl) ?_
          clear hK K
          refine U_done (by kernel_rfl) ?_ _
          go_wp2
          go_ret2
          exact ⟨by rw [HR.out]; rfl, hb⟩
      · go_simp
        have gg : Below v1.heap.size v1 (v1.alloc (.cells #[.bool g1, .slice s1 n1 c1] 56)) := (Below.refl _ _).alloc (Nat.le_refl _) _
        have kN := Blk.new v1 #[.bool g1, .slice s1 n1 c1] 56
        replace hb := hb.trans (gg.mono hb.size)
        replace kX := kX.later gg
        have hx := hx.below gg
        have hr := hr.below gg
        have hN := Nums.mk1 kN hx
        clear gg
        refine hK.out _ _ (.inr kX) ?_
        clear hK K
        generalize v1.alloc (.cells #[.bool g1, .slice s1 n1 c1] 56) = v2 at *
        generalize v1.heap.size = b2 at *
        refine U_step (j := 2) (by kernel_rfl) rfl (fun K hK => ?_)
        go_simp
        have hc := fun w => hid (whole_fn (-1) (by decide) (by decide) w)
        (with_reducible refine (hc _).out.mono ?_); rintro e v3 ⟨m, rfl, hm, gg⟩
        clear hc
        have hm := hm.num
        replace hb := hb.trans (gg.mono hb.size)
        replace kX := kX.later gg
        have hx := hx.below gg
        have hr := hr.below gg
        have hN := hN.below gg
        obtain ⟨mg, ma, mn, mc, rfl⟩ := hm.shape4
        clear gg
        refine hK.out _ _ (.inr kX) ?_
        clear hK K
        refine U_step (j := 3) (by kernel_rfl) rfl (fun K hK => ?_)
        go_simp
        have hc := hid (plusR_fn hr hm (by rw [Int.natAbs_neg]; omega) (by decide))
        (with_reducible refine hc.out.mono ?_); rintro e v4 ⟨q, rfl, hq, gg⟩
        clear hc
        replace hq := hq.num
        replace hb := hb.trans (gg.mono hb.size)
        replace kX := kX.later gg
        have hx := hx.below gg
        have hr := hr.below gg
        have hN := hN.below gg
        have hm := hm.below gg
        obtain ⟨qg, qa, qn, qc, rfl⟩ := hq.shape4
        clear gg
        refine hK.out _ _ (.inr kX) ?_
        clear hK K
        refine U_step (j := 6) (by kernel_rfl) rfl (fun K hK => ?_)
        go_simp
        have hc := hid (told_fn hq (by have := dlen_abs_add (-x') (-1); rw [Int.natAbs_neg] at this; have h1 : dlen 10 (-1 : Int).natAbs ≤ 1 := (by decide); omega) hN (fun x hm => by simp at hm; subst hm; omega) (by simp))
        (with_reducible refine hc.out.mono ?_); rintro e v5 ⟨rfl, gg⟩
        clear hc
        replace hb := hb.trans (gg.mono hb.size)
        replace kX := kX.later gg
        have hx := hx.below gg
        have hr := hr.below gg
        have hN := hN.below gg
        have hm := hm.below gg
        have hq := hq.below gg
        clear gg
        refine hK.out _ _ (.inr kX) ?_
        clear hK K
        refine U_take (i := 7) (v := .string ⟨(toldRes (-x' + -1) [x']).1.toArray⟩) rfl (by kernel_rfl) (by kernel_rfl) (by kernel_rfl) (by kernel_rfl) (by kernel_rfl) (fun _ _ _ h => h) (.inl ⟨rfl, fun u hu => (by go_simp)⟩) kX ?_
        refine U_take (i := 8) (v := .int .i64 (toldRes (-x' + -1) [x']).2) rfl (by kernel_rfl) (by kernel_rfl) (by kernel_rfl) (by kernel_rfl) (by kernel_rfl) (fun _ _ _ h => h) (.inl ⟨rfl, fun u hu => (by go_simp)⟩) kX ?_
        refine U_step (j := 9) (by kernel_rfl) rfl (fun K hK => ?_)
        go_simp
        refine hK.out _ _ (.inl rfl) ?_
        clear hK K
        refine U_step (j := 10) (by kernel_rfl) rfl (fun K hK => ?_)
        go_simp
        refine hK.out _ _ (.inl rfl) ?_
        clear hK K
        refine U_done (by kernel_rfl) ?_ _
        go_wp2
        go_ret2
        exact ⟨by rw [HR.out]; rfl, hb⟩
    · go_simp
      have gg : Below wd.heap.size wd (wd.alloc (.cells #[.bool g1, .slice s1 n1 c1] 56)) := (Below.refl _ _).alloc (Nat.le_refl _) _
      have kN := Blk.new wd #[.bool g1, .slice s1 n1 c1] 56
      replace hb := hb.trans (gg.mono hb.size)
      replace kX := kX.later gg
      have hx := hx.below gg
      have hN := Nums.mk1 kN hx
      clear gg
      refine hK.out _ _ (.inr kX) ?_
      clear hK K
      generalize wd.alloc (.cells #[.bool g1, .slice s1 n1 c1] 56) = v1 at *
      generalize wd.heap.size = b1 at *
      refine U_step (j := 1) (by kernel_rfl) rfl (fun K hK => ?_)
      go_simp
      have hc := hid (oppR_fn hx (by omega))
      (with_reducible refine hc.out.mono ?_); rintro e v2 ⟨r, rfl, hr, gg⟩
      clear hc
      replace hb := hb.trans (gg.mono hb.size)
      replace kX := kX.later gg
      have hx := hx.below gg
      have hN := hN.below gg
      obtain ⟨rg, ra, rn, rc, rfl⟩ := hr.shape4
      clear gg
      refine hK.out _ _ (.inr kX) ?_
      clear hK K
      refine U_step (j := 2) (by kernel_rfl) rfl (fun K hK => ?_)
      go_simp
      have hc := fun w => hid (whole_fn (-1) (by decide) (by decide) w)
      (with_reducible refine (hc _).out.mono ?_); rintro e v3 ⟨m, rfl, hm, gg⟩
      clear hc
      have hm := hm.num
      replace hb := hb.trans (gg.mono hb.size)
      replace kX := kX.later gg
      have hx := hx.below gg
      have hN := hN.below gg
      have hr := hr.below gg
      obtain ⟨mg, ma, mn, mc, rfl⟩ := hm.shape4
      clear gg
      refine hK.out _ _ (.inr kX) ?_
      clear hK K
      refine U_step (j := 3) (by kernel_rfl) rfl (fun K hK => ?_)
      go_simp
      have hc := hid (plusR_fn hr hm (by rw [Int.natAbs_neg]; omega) (by decide))
      (with_reducible refine hc.out.mono ?_); rintro e v4 ⟨q, rfl, hq, gg⟩
      clear hc
      replace hq := hq.num
      replace hb := hb.trans (gg.mono hb.size)
      replace kX := kX.later gg
      have hx := hx.below gg
      have hN := hN.below gg
      have hr := hr.below gg
      have hm := hm.below gg
      obtain ⟨qg, qa, qn, qc, rfl⟩ := hq.shape4
      clear gg
      refine hK.out _ _ (.inr kX) ?_
      clear hK K
      refine U_step (j := 6) (by kernel_rfl) rfl (fun K hK => ?_)
      go_simp
      have hc := hid (told_fn hq (by have := dlen_abs_add (-x') (-1); rw [Int.natAbs_neg] at this; have h1 : dlen 10 (-1 : Int).natAbs ≤ 1 := (by decide); omega) hN (fun x hm => by simp at hm; subst hm; omega) (by simp))
      (with_reducible refine hc.out.mono ?_); rintro e v5 ⟨rfl, gg⟩
      clear hc
      replace hb := hb.trans (gg.mono hb.size)
      replace kX := kX.later gg
      have hx := hx.below gg
      have hN := hN.below gg
      have hr := hr.below gg
      have hm := hm.below gg
      have hq := hq.below gg
      clear gg
      refine hK.out _ _ (.inr kX) ?_
      clear hK K
      refine U_take (i := 7) (v := .string ⟨(toldRes (-x' + -1) [x']).1.toArray⟩) rfl (by kernel_rfl) (by kernel_rfl) (by kernel_rfl) (by kernel_rfl) (by kernel_rfl) (fun _ _ _ h => h) (.inl ⟨rfl, fun u hu => (by go_simp)⟩) kX ?_
      refine U_take (i := 8) (v := .int .i64 (toldRes (-x' + -1) [x']).2) rfl (by kernel_rfl) (by kernel_rfl) (by kernel_rfl) (by kernel_rfl) (by kernel_rfl) (fun _ _ _ h => h) (.inl ⟨rfl, fun u hu => (by go_simp)⟩) kX ?_
      refine U_step (j := 9) (by kernel_rfl) rfl (fun K hK => ?_)
      go_simp
      refine hK.out _ _ (.inl rfl) ?_
      clear hK K
      refine U_step (j := 10) (by kernel_rfl) rfl (fun K hK => ?_)
      go_simp
      refine hK.out _ _ (.inl rfl) ?_
      clear hK K
      refine U_done (by kernel_rfl) ?_ _
      go_wp2
      go_ret2
      exact ⟨by rw [HR.out]; rfl, hb⟩
end Go.Proofs.YtkhgoeippamobaaGreatDoor
/-
  Pow of big.
-/
namespace Go.Proofs.YtkhgoeippamobaaGreatDoor
open Go.RowKit
theorem D_zero_of_one (n : Nat) (h : nlen n = 1) : D n 0 = n := by
  have h1 := (nlen_le_iff n 1).1 (by omega)
  unfold D
  rw [Nat.mul_zero, Nat.pow_zero, Nat.div_one]
  exact Nat.mod_eq_of_lt h1
theorem own_one (w : World) : Own .u32 75 (w.alloc (.cells #[.int .u32 1] 75)) w.heap.size (.slice (some ⟨w.heap.size, 0, none⟩) 1 1) 1 (D 1) := by
  have := World.ownsRow_lit (e := 75) (size := 1) w #[.int .u32 1] 1 (Nat.le_refl _) (by unfold maxLen; omega) rfl
  have e : cellsK .u32 (D 1) 1 = [Value.int .u32 1] := by
    rw [cellsK_succ, cellsK_zero, D_one]; rfl
  unfold Own
  rw [e]
  exact this
theorem nlen_mul_le (m n : Nat) : nlen (m * n) ≤ nlen m + nlen n := by
  rw [nlen_le_iff, Nat.mul_add, Nat.pow_add]
  exact Nat.mul_lt_mul'' (lt_nlen m) (lt_nlen n)
set_option maxRecDepth 100000 in
set_option maxHeartbeats 2000000 in
theorem unit_fn {v : Value} {n : Nat} {neg lg : Bool} {w : World} (h : NumV w v n neg lg) (hl : nlen n ≤ 1000000) :
    Calls Tryz.prog 81 #[v] w fun e w' => e = .returned (.bool (!lg && decide (n = 1))) ∧ Below w.heap.size w w' := by
  obtain ⟨s, rfl, h⟩ := h
  obtain ⟨a, cap, rfl⟩ := h.shape
  have hb0 : Below w.heap.size w (w.alloc (.cells #[.slice a (nlen n) cap, .bool neg, .bool lg] 49)) := (Below.refl _ _).alloc (Nat.le_refl _) _
  have k1 := Blk.new w #[.slice a (nlen n) cap, .bool neg, .bool lg] 49
  cases lg with
  | true =>
    go_enter Tryz.func81, Tryz.ntmps81
    go_wp2
    go_ret
    exact ⟨rfl, hb0⟩
  | false =>
    by_cases h1 : nlen n = 1
    · obtain ⟨a', cap', hv, _, hc⟩ := NatRep.below h hb0
      simp only [Value.slice.injEq, true_and] at hv
      obtain ⟨rfl, rfl⟩ := hv
      obtain ⟨b, off, rfl, _, hc0⟩ := hc (by omega)
      have hcell := hc0 0 (by omega)
      rw [Nat.add_zero, D_zero_of_one n h1] at hcell
      rw [h1] at k1 hb0 hcell ⊢
      clear hc hc0 h h1
      by_cases hn : n = 1
      · subst hn
        go_enter Tryz.func81, Tryz.ntmps81
        go_wp2
        go_ret
        exact ⟨rfl, hb0⟩
      · have HN := hid (show (!false && decide (n = 1)) = false by rw [decide_eq_false hn]; rfl)
        have hn2 : (((n : Nat) : Int) == 1) = false := by rw [beq_eq_false_iff_ne]; omega
        rw [HN.out]
        clear hn
        go_enter Tryz.func81, Tryz.ntmps81
        go_wp2
        go_ret
        exact ⟨rfl, hb0⟩
    · have HN := hid (show (!false && decide (n = 1)) = false by rw [decide_eq_false (fun hn => h1 (by rw [hn]; exact nlen_one))]; rfl)
      rw [HN.out]
      clear h
      generalize nlen n = L at *
      go_enter Tryz.func81, Tryz.ntmps81
      go_wp2
      go_ret
      exact ⟨rfl, hb0⟩
theorem PNum.unit {w : World} {v : Value} {z : Int} (h : PNum w v z) : Calls Tryz.prog 81 #[v] w fun e w' => e = .returned (.bool (decide (z.natAbs = 1))) ∧ Below w.heap.size w w' := by
  obtain ⟨n, lg, h1, h2, h3, h4⟩ := h
  have h5 := unit_fn h1 (by omega)
  have e : (!lg && decide (n = 1)) = decide (z.natAbs = 1) := by
    cases lg with
    | false => rw [h2 rfl]; rfl
    | true =>
      have h6 : big600 ≤ z.natAbs := of_decide_eq_true h3.symm
      have := big600_two
      rw [decide_eq_false (show ¬ z.natAbs = 1 by omega)]
      rfl
  rw [e] at h5
  exact h5
theorem PNum.shape {w : World} {v : Value} {z : Int} (h : PNum w v z) : ∃ a n c l, v = .agg #[.slice a n c, .bool (decide (z < 0)), .bool l] := by
  obtain ⟨n, lg, ⟨s, rfl, h1⟩, _⟩ := h
  obtain ⟨a, c, rfl⟩ := h1.shape
  exact ⟨_, _, _, _, rfl⟩
set_option maxRecDepth 100000 in
set_option maxHeartbeats 2000000 in
theorem pow1 {v u : Value} {x y : Int} {w : World} (hv : PNum w v x) (hu : PNum w u y) : Calls Tryz.prog 80 #[v, u] w fun e w' => e = .returned (.int .i64 (powE x y)) ∧ Below w.heap.size w w' := by
  obtain ⟨a1, n1, c1, l1, rfl⟩ := hv.shape
  obtain ⟨a2, n2, c2, l2, rfl⟩ := hu.shape
  have hb0 : Below w.heap.size w ((w.alloc (.cells #[.slice a1 n1 c1, .bool (decide (x < 0)), .bool l1] 49)).alloc (.cells #[.slice a2 n2 c2, .bool (decide (y < 0)), .bool l2] 49)) := ((Below.refl _ _).alloc (Nat.le_refl _) _).alloc (by simp) _
  have hc := hid (PNum.unit (hv.below hb0))
  clear hv hu
  by_cases hy : y < 0
  · by_cases hx : x.natAbs = 1
    · have HE := hid (show powE x y = 0 by unfold powE; rw [if_neg (fun h => h.2 hx)])
      rw [decide_eq_true hx] at hc
      rw [decide_eq_true hy] at hc hb0 ⊢
      generalize decide (x < 0) = sx at *
      clear hy hx
      go_enter Tryz.func80, Tryz.ntmps80
      go_wp2_with fail
      (with_reducible refine hc.out.mono ?_); rintro e w1 ⟨rfl, gg⟩
      have hb := hb0.trans (gg.mono hb0.size)
      go_wp2
      go_ret
      exact ⟨by rw [HE.out]; rfl, hb⟩
    · have HE := hid (show powE x y = 7 by unfold powE; rw [if_pos ⟨hy, hx⟩])
      rw [decide_eq_false hx] at hc
      rw [decide_eq_true hy] at hc hb0 ⊢
      generalize decide (x < 0) = sx at *
      clear hy hx
      go_enter Tryz.func80, Tryz.ntmps80
      go_wp2_with fail
      (with_reducible refine hc.out.mono ?_); rintro e w1 ⟨rfl, gg⟩
      have hb := hb0.trans (gg.mono hb0.size)
      go_wp2
      go_ret
      exact ⟨by rw [HE.out]; rfl, hb⟩
  · have HE := hid (show powE x y = 0 by unfold powE; rw [if_neg (fun h => hy h.1)])
    rw [decide_eq_false hy] at hc hb0 ⊢
    generalize decide (x < 0) = sx at *
    clear hy hc
    go_enter Tryz.func80, Tryz.ntmps80
    go_wp2
    go_ret
    exact ⟨by rw [HE.out]; rfl, hb0⟩
end Go.Proofs.YtkhgoeippamobaaGreatDoor
