/-
  Part K8 of the proofs of this seat: contracts of functions and plain facts, merged from 2 texts.
-/
import Derived.Test.YtkhgoeippamobaaGreatDoorK1
import Derived.Test.YtkhgoeippamobaaGreatDoorK2
import Derived.Test.YtkhgoeippamobaaGreatDoorK3
import Derived.Test.YtkhgoeippamobaaGreatDoorK4
import Derived.Test.YtkhgoeippamobaaGreatDoorK5
import Derived.Test.YtkhgoeippamobaaGreatDoorK6
import Derived.Test.YtkhgoeippamobaaGreatDoorK7a
/-
  Bits of integers one by one (plain).
-/
namespace Go.Proofs.YtkhgoeippamobaaGreatDoor
open Go.RowKit
/-- what is left of a number behind i bits -/
def zq (z : Int) (i : Nat) : Int := z / ((2 ^ i : Nat) : Int)
/-- bit i of a number -/
def zb (z : Int) (i : Nat) : Bool := decide (zq z i % 2 ≠ 0)
theorem zq_zero (z : Int) : zq z 0 = z := by unfold zq; simp
theorem zq_succ (z : Int) (i : Nat) : zq z (i + 1) = zq z i / 2 := by
  unfold zq
  rw [Nat.pow_succ, Int.natCast_mul, ← Int.ediv_ediv_of_nonneg (Int.natCast_nonneg _)]
  rfl
theorem zq_step (z : Int) (i : Nat) : zq z i = 2 * zq z (i + 1) + (if zb z i = true then 1 else 0) := by
  rw [zq_succ]
  unfold zb
  by_cases h : zq z i % 2 = 0
  · rw [if_neg (by simp [h])]
    omega
  · rw [if_pos (decide_eq_true h)]
    omega
theorem fdiv_two (z : Int) : z.fdiv 2 = z / 2 := Int.fdiv_eq_ediv_of_nonneg z (by decide)
theorem fmod_two (z : Int) : z.fmod 2 = z % 2 := Int.fmod_eq_emod_of_nonneg z (by decide)
/-- far up there is the sign alone -/
theorem zq_far (z : Int) (m i : Nat) (hm : m ≤ i) (h1 : -((2 ^ m : Nat) : Int) ≤ z) (h2 : z < ((2 ^ m : Nat) : Int)) : zq z i = if z < 0 then -1 else 0 := by
  have hle : 2 ^ m ≤ 2 ^ i := Nat.pow_le_pow_right (by decide) hm
  have hp : 0 < 2 ^ i := Nat.two_pow_pos i
  unfold zq
  generalize 2 ^ m = q at *
  generalize 2 ^ i = p at *
  by_cases hz : z < 0
  · rw [if_pos hz]
    have a1 : z / (p : Int) < 0 := Int.ediv_neg_of_neg_of_pos hz (by omega)
    have a2 : -1 ≤ z / (p : Int) := (Int.le_ediv_iff_mul_le (by omega)).2 (by omega)
    omega
  · rw [if_neg hz]
    exact Int.ediv_eq_zero_of_lt (by omega) (by omega)
/-- what is done bit by bit -/
def BitBy (f : Nat → Nat → Nat) (g : Bool → Bool → Bool) : Prop := ∀ m n i, (f m n).testBit i = g (m.testBit i) (n.testBit i)
theorem by_and : BitBy (· &&& ·) (fun a b => a && b) := fun m n i => Nat.testBit_and m n i
theorem by_or : BitBy (· ||| ·) (fun a b => a || b) := fun m n i => Nat.testBit_or m n i
theorem by_xor : BitBy (· ^^^ ·) (fun a b => a != b) := fun m n i => by
  rw [Nat.testBit_xor]
theorem zb_of_nat (N i k : Nat) (t : Bool) (z : Int) (h : z = (N : Int) - (if t then ((2 ^ k : Nat) : Int) else 0)) (hi : i < k) : zb z i = N.testBit i := by
  have hk : 2 ^ k = 2 ^ i * (2 * 2 ^ (k - i - 1)) := by
    rw [← Nat.mul_assoc, Nat.mul_comm (2 ^ i) 2, Nat.mul_assoc, ← Nat.pow_add, ← Nat.pow_succ', show (i + (k - i - 1)).succ = k by omega]
  have hp : 0 < 2 ^ i := Nat.two_pow_pos i
  have hq : ∃ c : Int, zq z i = ((N / 2 ^ i : Nat) : Int) - 2 * c := by
    unfold zq
    cases t
    · refine ⟨0, ?_⟩
      rw [h]
      simp
    · refine ⟨((2 ^ (k - i - 1) : Nat) : Int), ?_⟩
      rw [h, hk, if_pos rfl]
      generalize 2 ^ (k - i - 1) = c at *
      generalize 2 ^ i = p at *
      have e : ((p * (2 * c) : Nat) : Int) = (2 * (c : Int)) * (p : Int) := by
        rw [Int.natCast_mul, Int.natCast_mul, Int.mul_comm]; rfl
      rw [e, Int.sub_eq_add_neg, ← Int.neg_mul, Int.add_mul_ediv_right _ _ (by omega)]
      rw [← Int.natCast_ediv]
      omega
  obtain ⟨c, hq⟩ := hq
  unfold zb
  rw [hq, Nat.testBit_eq_decide_div_mod_eq]
  generalize N / 2 ^ i = M
  apply decide_eq_decide.2
  omega
theorem kOf_ge (x y : Int) : nlen x.natAbs ≤ kOf x y - 1 ∧ nlen y.natAbs ≤ kOf x y - 1 ∧ 1 ≤ kOf x y := by unfold kOf; omega
theorem zb_far (z : Int) (m i j : Nat) (hi : m ≤ i) (hj : m ≤ j) (h1 : -((2 ^ m : Nat) : Int) ≤ z) (h2 : z < ((2 ^ m : Nat) : Int)) : zb z i = zb z j := by
  unfold zb
  rw [zq_far z m i hi h1 h2, zq_far z m j hj h1 h2]
theorem zb_bitI (f : Nat → Nat → Nat) (g : Bool → Bool → Bool) (hf : BitLike f) (hg : BitBy f g) (x y : Int) (i : Nat) : zb (bitI f x y) i = g (zb x i) (zb y i) := by
  obtain ⟨t, ez, lz, uz, _⟩ := ofTc_parts f hf x y
  obtain ⟨j, hj⟩ : ∃ j, kOf x y = j + 1 := ⟨_, rfl⟩
  obtain ⟨hx, hy, _⟩ := kOf_ge x y
  rw [hj, Nat.add_sub_cancel] at hx hy lz uz
  obtain ⟨s1, -, _, _, ex, lx, ux⟩ := tcI_parts x j hx
  obtain ⟨s2, -, _, _, ey, ly, uy⟩ := tcI_parts y j hy
  rw [hj] at ez
  have low : ∀ i, i < 32 * (j + 1) → zb (bitI f x y) i = g (zb x i) (zb y i) := by
    intro i hi
    rw [zb_of_nat _ i _ t _ ez hi, zb_of_nat _ i _ s1 _ ex hi, zb_of_nat _ i _ s2 _ ey hi]
    exact hg _ _ _
  by_cases hi : i < 32 * (j + 1)
  · exact low i hi
  · have h := low (32 * j) (by omega)
    rw [zb_far _ (32 * j) i (32 * j) (by omega) (by omega) lz uz, zb_far _ (32 * j) i (32 * j) (by omega) (by omega) lx ux, zb_far _ (32 * j) i (32 * j) (by omega) (by omega) ly uy]
    exact h
/-- from a place on at which the bits of both no longer change the result is its sign -/
theorem zq_top (f : Nat → Nat → Nat) (g : Bool → Bool → Bool) (hf : BitLike f) (hg : BitBy f g) (x y : Int) (m i : Nat) (hi : m ≤ i)
    (lx : -((2 ^ m : Nat) : Int) ≤ x) (ux : x < ((2 ^ m : Nat) : Int)) (ly : -((2 ^ m : Nat) : Int) ≤ y) (uy : y < ((2 ^ m : Nat) : Int)) :
    zq (bitI f x y) i = if zb (bitI f x y) m = true then -1 else 0 := by
  obtain ⟨t, ez, lz, uz, _⟩ := ofTc_parts f hf x y
  generalize hM : 32 * (kOf x y - 1) = M at *
  have hsame : ∀ j, m ≤ j → zb (bitI f x y) j = zb (bitI f x y) m := by
    intro j hj
    rw [zb_bitI f g hf hg, zb_bitI f g hf hg, zb_far x m j m hj (Nat.le_refl _) lx ux, zb_far y m j m hj (Nat.le_refl _) ly uy]
  have hz : ∀ d, m + M - d ≥ m → zq (bitI f x y) (m + M - d) = if zb (bitI f x y) m = true then -1 else 0 := by
    intro d
    induction d with
    | zero =>
      intro _
      rw [Nat.sub_zero]
      have h1 := zq_far _ M (m + M) (by omega) lz uz
      have h2 := hsame (m + M) (by omega)
      rw [← h2]
      unfold zb
      rw [h1]
      split <;> simp
    | succ d ih =>
      intro hd
      have hd' : m + M - d ≥ m := by omega
      by_cases he : m + M - d = m + M - (d + 1)
      · rw [← he]; exact ih hd'
      · have h1 := ih hd'
        have h2 := zq_step (bitI f x y) (m + M - (d + 1))
        rw [show m + M - (d + 1) + 1 = m + M - d by omega, h1, hsame _ hd] at h2
        rw [h2]
        split <;> omega
  by_cases hiM : i ≤ m + M
  · have h := hz (m + M - i) (by omega)
    rw [show m + M - (m + M - i) = i by omega] at h
    exact h
  · have h1 := zq_far _ M i (by omega) lz uz
    have h2 := hsame i hi
    rw [← h2]
    unfold zb
    rw [h1]
    split <;> simp
theorem dec_two (L : Nat) : 10 ^ L ≤ 2 ^ (4 * L) := by
  rw [Nat.pow_mul]
  exact Nat.pow_le_pow_left (by decide) L
end Go.Proofs.YtkhgoeippamobaaGreatDoor
/-
  The reference: bits, of.
-/
namespace Go.Proofs.YtkhgoeippamobaaGreatDoor
open Go.RowKit
/-- a slice of bools -/
def RowB (w : World) (v : Value) (l : List Bool) : Prop :=
  ∃ (a : Option Addr) (cap : Nat), v = .slice a l.length cap ∧ l.length ≤ cap ∧ (0 < l.length → ∃ b off, a = some ⟨b, off, none⟩ ∧ b < w.heap.size ∧ ∀ i, i < l.length → w.cell? ⟨b, off + i, none⟩ = some (.bool (l.getD i false)))
theorem RowB.below {w w' : World} {v : Value} {l : List Bool} (h : RowB w v l) (hb : Below w.heap.size w w') : RowB w' v l := by
  obtain ⟨a, cap, rfl, hc, h⟩ := h
  refine ⟨a, cap, rfl, hc, fun h0 => ?_⟩
  obtain ⟨b, off, rfl, hlt, hcell⟩ := h h0
  exact ⟨b, off, rfl, Nat.lt_of_lt_of_le hlt hb.size, fun i hi => (hb.cell (p := ⟨b, off + i, none⟩) hlt).trans (hcell i hi)⟩
/-- the like, of the call's own -/
def OwnB (w : World) (base : Nat) (v : Value) (l : List Bool) : Prop := w.ownsRow base 4 1 v l.length (l.map Value.bool)
theorem OwnB.row {w : World} {base : Nat} {v : Value} {l : List Bool} (h : OwnB w base v l) : RowB w v l := by
  have hown : w.ownsRow base 4 1 v l.length (l.map Value.bool) := h
  obtain ⟨hl, ⟨rfl, h0⟩ | ⟨g, cap, cur, rfl, hb, hh, hc, hm, hs, ht⟩⟩ := h
  · have : l = [] := by simpa using h0
    subst this
    exact ⟨none, 0, rfl, Nat.le_refl _, fun h => absurd h (by decide)⟩
  · refine ⟨some ⟨g, 0, none⟩, cap, rfl, hc, fun h => ⟨g, 0, rfl, (Array.getElem?_eq_some_iff.1 hh).1, fun i hi => ?_⟩⟩
    have := World.ownsRow.cellAt hown i (by simpa using hi)
    rw [Nat.zero_add]
    rw [this]
    simp [hi]
theorem OwnB.nil {w : World} {base : Nat} : OwnB w base (.slice none 0 0) [] := World.ownsRow_nil _ _ _ _
theorem OwnB.mono {w : World} {base base' : Nat} {v : Value} {l : List Bool} (h : OwnB w base v l) (hb : base' ≤ base) : OwnB w base' v l := by
  obtain ⟨hl, ⟨hv, h0⟩ | ⟨g, cap, cur, hv, hg, hr⟩⟩ := h
  · exact ⟨hl, .inl ⟨hv, h0⟩⟩
  · exact ⟨hl, .inr ⟨g, cap, cur, hv, Nat.le_trans hb hg, hr⟩⟩
theorem OwnB.keep {w w' : World} {base : Nat} {v : Value} {l : List Bool} (h : OwnB w base v l) (hb : Below w.heap.size w w') : OwnB w' base v l := by
  obtain ⟨hl, ⟨hv, h0⟩ | ⟨g', cap', cur, hv, hg, hh, hr⟩⟩ := h
  · exact ⟨hl, .inl ⟨hv, h0⟩⟩
  · exact ⟨hl, .inr ⟨g', cap', cur, hv, hg, by rw [hb.block g' (Array.getElem?_eq_some_iff.1 hh).1]; exact hh, hr⟩⟩
theorem OwnB.set2 {w : World} {base b : Nat} {v : Value} {l : List Bool} (h : OwnB w base v l) (hb : b < base) (x y : Value) : OwnB ((w.setCell ⟨b, 0, none⟩ x).setCell ⟨b, 1, none⟩ y) base v l :=
  ownsRow_setCell_below (ownsRow_setCell_below h (a := ⟨b, 0, none⟩) hb x) (a := ⟨b, 1, none⟩) hb y
theorem OwnB.block_lt {w : World} {base : Nat} {v : Value} {l : List Bool} (h : OwnB w base v l) (g : Nat) (hg : v.ownBlock = some g) : g < w.heap.size := by
  obtain ⟨hl, ⟨hv, _⟩ | ⟨g', cap, cur, hv, _, hh, _⟩⟩ := h
  · subst hv; simp [Value.ownBlock] at hg
  · subst hv
    simp [Value.ownBlock] at hg
    subst hg
    exact (Array.getElem?_eq_some_iff.1 hh).1
theorem OwnB.shape {w : World} {base : Nat} {v : Value} {l : List Bool} (h : OwnB w base v l) : ∃ a cap, v = .slice a l.length cap := by
  obtain ⟨a, cap, rfl, _⟩ := h.row
  exact ⟨a, cap, rfl⟩
theorem Tryz.infoBool : (Tryz.prog.info? 4).map (fun i => (i.zero, i.size, i.bytes)) = some (some (.bool false), 1, 1) := by kernel_rfl
section
variable {w : World} {ops : Array Oper} {rest : List Oper} {o : Oper} {a : Act} {Q : Exit → Act → World → Prop}
/-- 'append(s, x)', s a row of bools of the call's own -/
theorem app_bool (hgd : o.guard = none) (s x : Operand)
    (ho : o.op = .call { callee := .builtin .append, args := #[s, x], argTypes := #[112, 112] })
    (base : Nat) (v : Value) (l : List Bool) (hs : a.eval s = v) (hown : OwnB w base v l)
    (X y : Bool) (hx : a.eval x = .slice (some ⟨w.heap.size, 0, none⟩) 1 1) (hX : X = y) (hn : l.length ≤ 1000000000000) (hbase : base ≤ w.heap.size)
    (h : ∀ v' w', OwnB w' base v' (l ++ [y]) → Below base w w' → KeepBut w w' v → wpList Tryz.prog ops Q rest (a.put o.dst v') w') :
    wpList Tryz.prog ops Q (o :: rest) a (w.alloc (.cells #[.bool X] 4)) := by
  subst hX
  obtain ⟨i0, hi, hz0, hz1, hz2⟩ := info_parts Tryz.infoBool
  refine wpList_append_own _ hgd s x 112 ho base 4 i0 (.bool false) 1 1 Tryz.underlying112 hi hz0 hz1 hz2 rfl (by decide) v l.length _ hs (World.ownsRow.alloc hown _)
    ⟨w.heap.size, 0, none⟩ 1 1 [.bool X] hx rfl (cell_one_new _ _ _) (by intro u hu; simp at hu; subst hu; rfl) (by unfold maxLen; omega) (by omega) (by simp; omega) ?_
  intro v' w' hown' hgrow _
  refine h v' w' (by unfold OwnB; rw [List.map_append, List.length_append]; exact hown') ?_ ⟨by have := hgrow.size; simp at this; omega, fun k hk hne => (hgrow.block k (by simp; omega) hne).trans (Below.heap_alloc _ _ _ hk)⟩
  refine (((Below.refl base w).alloc hbase _).grown hgrow (by simp; omega) ?_)
  intro k hk
  obtain ⟨hl, ⟨hv, h0⟩ | ⟨g, cap, cur, hv, hg, hr⟩⟩ := hown
  · subst hv; cases hk
  · subst hv
    simp [Value.ownBlock] at hk
    omega
end
theorem KeepBut.blk {w w' : World} {v : Value} {b : Nat} {cs : Array Value} {t : TypeId} (h : Blk w b cs t) (hk : KeepBut w w' v) (hne : ∀ g, v.ownBlock = some g → g ≠ b) : Blk w' b cs t := by
  have h0 : w.heap[b]? = _ := h
  exact (hk.2 b h.lt (fun e => hne b e.symm rfl)).trans h0
theorem KeepBut.own {w w' : World} {u v : Value} {base : Nat} {z : Int} (h : OwnDNum w base u z) (hk : KeepBut w w' v) (hne : ∀ g, v.ownBlock = some g → g < base) : OwnDNum w' base u z := by
  obtain ⟨s, h0, h1⟩ := h
  exact ⟨s, h0, h1.keepBut hk hne⟩
theorem zq_abs (z : Int) (i : Nat) : (zq z i).natAbs ≤ z.natAbs := by
  induction i with
  | zero => rw [zq_zero]; exact Nat.le_refl _
  | succ i ih =>
    rw [zq_succ]
    generalize zq z i = y at *
    omega
theorem dlen_zq (z : Int) (i k : Nat) (h : dlen 10 z.natAbs ≤ k) : dlen 10 (zq z i).natAbs ≤ k := Nat.le_trans (dlen_mono _ _ (zq_abs z i)) h
/-- the bits of a number, the lowest first -/
def bitsL (z : Int) (n : Nat) : List Bool := (List.range n).map (zb z)
theorem bitsL_length (z : Int) (n : Nat) : (bitsL z n).length = n := by simp [bitsL]
theorem bitsL_succ (z : Int) (n : Nat) : bitsL z (n + 1) = bitsL z n ++ [zb z n] := by simp [bitsL, List.range_succ]
theorem bitsL_get (z : Int) (n i : Nat) (h : i < n) : (bitsL z n).getD i false = zb z i := by simp [bitsL, h]
set_option maxRecDepth 100000 in
set_option maxHeartbeats 16000000 in
theorem bits_fn' {v : Value} {z : Int} {w : World} (h : DNum w v z) (hl : dlen 10 z.natAbs ≤ 1000) (count : Nat) (hc : count ≤ 100000) :
    Calls Tryz.prog 133 #[v, .int .i64 count] w fun e w' => ∃ u, e = .returned u ∧ OwnB w' w.heap.size u (bitsL z count) ∧ Below w.heap.size w w' := by
  obtain ⟨g1, s1, n1, c1, rfl⟩ := h.shape4
  have kA := Blk.new w #[.bool g1, .slice s1 n1 c1] 56
  have hb0 : Below w.heap.size w (w.alloc (.cells #[.bool g1, .slice s1 n1 c1] 56)) := (Below.refl _ _).alloc (Nat.le_refl _) _
  have hA := h.below hb0
  have hsz0 : (w.alloc (.cells #[.bool g1, .slice s1 n1 c1] 56)).heap.size = w.heap.size + 1 := by simp
  rw [← zq_zero z] at hA
  clear h
  go_enter Tryz.func133, Tryz.ntmps133
  go_wp2_with fail
  generalize w.alloc (.cells #[.bool g1, .slice s1 n1 c1] 56) = w0 at *
  go_loopw [5, 9] (fun ov iv wr => ∃ j : Nat, iv = .int .i64 j ∧ j ≤ count ∧ OwnB wr (w.heap.size + 1) ov (bitsL z j) ∧ ∃ g s n c, Blk wr w.heap.size #[.bool g, .slice s n c] 56 ∧ DNum wr (.agg #[.bool g, .slice s n c]) (zq z j) ∧ Below w.heap.size w wr) (fun _ iv _ => count - (intOf iv).toNat)
  case atStart => exact ⟨0, rfl, Nat.zero_le _, OwnB.nil, _, _, _, _, kA, hA, hb0⟩
  case round =>
    obtain ⟨j, rfl, hj, hown, g1, s1, n1, c1, kA, hA, hb⟩ := hrel
    obtain ⟨oa, oc, rfl⟩ := hown.shape
    rw [bitsL_length] at hown ⊢
    have hrsz := hb.size
    have hltA := kA.lt
    have hla := dlen_zq z j 1000 hl
    by_cases hlt : j < count
    · have HQ := hid (show (zq z j).fdiv 2 = zq z (j + 1) by rw [fdiv_two, zq_succ])
      have HM := hid (show (zq z j).fmod 2 = zq z j % 2 from fmod_two _)
      have HBIT := hid (show zb z j = decide (zq z j % 2 ≠ 0) from rfl)
      obtain ⟨⟨p1, p2⟩, q1, q2⟩ := kA.two
      go_wp2_with fail
      clear p1 p2 q1 q2
      apply U_cutD (R := fun bq br qg qa qn qc rg ra rn rc w' => Blk w' bq #[.bool qg, .slice qa qn qc] 56 ∧ Blk w' br #[.bool rg, .slice ra rn rc] 56 ∧ OwnDNum w' (wr.heap.size) (.agg #[.bool qg, .slice qa qn qc]) ((zq z j).fdiv 2) ∧ OwnDNum w' (wr.heap.size) (.agg #[.bool rg, .slice ra rn rc]) ((zq z j).fmod 2) ∧ wr.heap.size ≤ bq ∧ wr.heap.size ≤ br ∧ Below (wr.heap.size) wr w')
      case h =>
        replace kA := kA.drew
        have hA := hA.below ((Below.refl wr.heap.size wr).drew)
        have hb : Below wr.heap.size wr wr.drew := (Below.refl _ _).drew
        refine U_begin (late := fun i => decide (9 ≤ i)) (S := fun u => Blk u w.heap.size #[.bool g1, .slice s1 n1 c1] 56) (by kernel_rfl) ?_
        generalize wr.drew = wd at *
        refine U_take2 9 (i := 0) (v := .agg #[.bool g1, .slice s1 n1 c1]) rfl (by kernel_rfl) (by kernel_rfl) (by kernel_rfl) (by kernel_rfl) (by kernel_rfl) (fun _ _ _ h => h) (.inl ⟨rfl, fun u hu => (by obtain ⟨⟨h1, h2⟩, _⟩ := hu.two; go_simp)⟩) kA ?_
        refine U_three (j1 := 1) (j2 := 6) (j3 := 7) (by kernel_rfl) rfl rfl rfl (fun K hK => ?_) (fun K hK => ?_) (fun K hK => ?_)
        · go_simp
          have hc := fun w => hid (whole_fn 2 (by decide) (by decide) w)
          (with_reducible refine (hc _).out.mono ?_); rintro e v3 ⟨z2, rfl, hz, gg⟩
          clear hc
          replace hz := hz.num
          replace hb := hb.trans (gg.mono hb.size)
          replace kA := kA.later gg
          replace hA := hA.below gg
          obtain ⟨zg, za, zn, zc, rfl⟩ := hz.shape4
          clear gg
          refine hK.out _ _ (.inr kA) ?_
          clear hK K
          refine U_three (j1 := 2) (j2 := 6) (j3 := 7) (by kernel_rfl) rfl rfl rfl (fun K hK => ?_) (fun K hK => ?_) (fun K hK => ?_)
          · go_simp
            have hc := hid (divR_fn hA hz (by omega) (by decide) (by decide))
            (with_reducible refine hc.out.mono ?_); rintro e v4 ⟨q, r, rfl, hq, hr, gg⟩
            clear hc
            have hszd := hb.size
            replace hq := hq.mono hszd
            replace hr := hr.mono hszd
            replace hb := hb.trans (gg.mono hb.size)
            replace kA := kA.later gg
            replace hA := hA.below gg
            replace hz := hz.below gg
            obtain ⟨qg, qa, qn, qc, rfl⟩ := hq.num.shape4
            obtain ⟨rg, ra, rn, rc, rfl⟩ := hr.num.shape4
            clear gg
            refine hK.out _ _ (.inr kA) ?_
            clear hK K
            refine U_take2 5 (i := 3) (v := .tuple #[.agg #[.bool qg, .slice qa qn qc], .agg #[.bool rg, .slice ra rn rc]]) rfl (by kernel_rfl) (by kernel_rfl) (by kernel_rfl) (by kernel_rfl) (by kernel_rfl) (fun _ _ _ h => h) (.inl ⟨rfl, fun u hu => (by go_simp)⟩) kA ?_
            refine U_take2 5 (i := 4) (v := .agg #[.bool qg, .slice qa qn qc]) rfl (by kernel_rfl) (by kernel_rfl) (by kernel_rfl) (by kernel_rfl) (by kernel_rfl) (fun _ _ _ h => h) (.inl ⟨rfl, fun u hu => (by go_simp)⟩) kA ?_
            refine U_take2 5 (i := 5) (v := .agg #[.bool rg, .slice ra rn rc]) rfl (by kernel_rfl) (by kernel_rfl) (by kernel_rfl) (by kernel_rfl) (by kernel_rfl) (fun _ _ _ h => h) (.inl ⟨rfl, fun u hu => (by go_simp)⟩) kA ?_
            refine U_two (j1 := 6) (j2 := 7) (by kernel_rfl) rfl rfl (fun K hK => ?_) (fun K hK => ?_)
            · go_simp
              have gg : Below v4.heap.size v4 (v4.alloc (.cells #[.bool false, .slice none 0 0] 56)) := (Below.refl _ _).alloc (Nat.le_refl _) _
              have kq := Blk.new v4 #[.bool false, .slice none 0 0] 56
              have szq := hb.size
              have nxqkA := kA.lt
              have nqq := hq.notin_new (b := v4.heap.size) (Nat.le_refl _)
              have nrq := hr.notin_new (b := v4.heap.size) (Nat.le_refl _)
              replace hb := hb.trans (gg.mono hb.size)
              replace kA := kA.later gg
              replace hA := hA.below gg
              replace hz := hz.below gg
              replace hq := hq.keep gg
              replace hr := hr.keep gg
              clear gg
              refine hK.out _ _ (.inr kA) ?_
              clear hK K
              generalize v4.alloc (.cells #[.bool false, .slice none 0 0] 56) = v5 at *
              generalize v4.heap.size = bq at *
              refine U_step (j := 7) (by kernel_rfl) rfl (fun K hK => ?_)
              go_simp
              have gg : Below v5.heap.size v5 (v5.alloc (.cells #[.bool false, .slice none 0 0] 56)) := (Below.refl _ _).alloc (Nat.le_refl _) _
              have kr := Blk.new v5 #[.bool false, .slice none 0 0] 56
              have szr := hb.size
              have nxrkA := kA.lt
              have hne : bq ≠ v5.heap.size := by have := kq.lt; omega
              have nqr := hq.notin_new (b := v5.heap.size) (Nat.le_refl _)
              have nrr := hr.notin_new (b := v5.heap.size) (Nat.le_refl _)
              replace hb := hb.trans (gg.mono hb.size)
              replace kA := kA.later gg
              replace kq := kq.later gg
              replace hA := hA.below gg
              replace hz := hz.below gg
              replace hq := hq.keep gg
              replace hr := hr.keep gg
              clear gg
              refine hK.out _ _ (.inr kA) ?_
              clear hK K
              generalize v5.alloc (.cells #[.bool false, .slice none 0 0] 56) = v6 at *
              generalize v5.heap.size = br at *
              refine U_step (j := 8) (by kernel_rfl) rfl (fun K hK => ?_)
              obtain ⟨⟨e1, e2⟩, e3, e4⟩ := kq.two
              go_simp
              replace kq := kq.set2 (.bool qg) (.slice qa qn qc)
              replace kr := kr.set2_ne (hne.symm) (.bool qg) (.slice qa qn qc)
              replace kA := kA.set2_ne (b := bq) (by omega) (.bool qg) (.slice qa qn qc)
              replace hq := hq.set2n nqq (.bool qg) (.slice qa qn qc)
              replace hr := hr.set2n nrq (.bool qg) (.slice qa qn qc)
              replace hb := (hb.setCell (p := ⟨bq, 0, none⟩) (by show wr.heap.size ≤ bq; omega) (.bool qg)).setCell (p := ⟨bq, 1, none⟩) (by show wr.heap.size ≤ bq; omega) (.slice qa qn qc)
              refine hK.out _ _ (.inr kA) ?_
              clear hK K e1 e2 e3 e4
              refine U_step (j := 9) (by kernel_rfl) rfl (fun K hK => ?_)
              obtain ⟨⟨e1, e2⟩, e3, e4⟩ := kr.two
              go_simp
              replace kr := kr.set2 (.bool rg) (.slice ra rn rc)
              replace kq := kq.set2_ne (hne) (.bool rg) (.slice ra rn rc)
              replace kA := kA.set2_ne (b := br) (by omega) (.bool rg) (.slice ra rn rc)
              replace hq := hq.set2n nqr (.bool rg) (.slice ra rn rc)
              replace hr := hr.set2n nrr (.bool rg) (.slice ra rn rc)
              replace hb := (hb.setCell (p := ⟨br, 0, none⟩) (by show wr.heap.size ≤ br; omega) (.bool rg)).setCell (p := ⟨br, 1, none⟩) (by show wr.heap.size ≤ br; omega) (.slice ra rn rc)
              refine hK.out _ _ (.inl rfl) ?_
              clear hK K e1 e2 e3 e4
              refine U_done (by kernel_rfl) ?_ _
              exact ⟨bq, br, qg, qa, qn, qc, rg, ra, rn, rc, zg, za, zn, zc, rfl, kq, kr, hq, hr, szq, szr, hb⟩
            · go_simp
              have gg : Below v4.heap.size v4 (v4.alloc (.cells #[.bool false, .slice none 0 0] 56)) := (Below.refl _ _).alloc (Nat.le_refl _) _
              have kr := Blk.new v4 #[.bool false, .slice none 0 0] 56
              have szr := hb.size
              have nxrkA := kA.lt
              have nqr := hq.notin_new (b := v4.heap.size) (Nat.le_refl _)
              have nrr := hr.notin_new (b := v4.heap.size) (Nat.le_refl _)
              replace hb := hb.trans (gg.mono hb.size)
              replace kA := kA.later gg
              replace hA := hA.below gg
              replace hz := hz.below gg
              replace hq := hq.keep gg
              replace hr := hr.keep gg
              clear gg
              refine hK.out _ _ (.inr kA) ?_
              clear hK K
              generalize v4.alloc (.cells #[.bool false, .slice none 0 0] 56) = v5 at *
              generalize v4.heap.size = br at *
              refine U_step (j := 6) (by kernel_rfl) rfl (fun K hK => ?_)
              go_simp
              have gg : Below v5.heap.size v5 (v5.alloc (.cells #[.bool false, .slice none 0 0] 56)) := (Below.refl _ _).alloc (Nat.le_refl _) _
              have kq := Blk.new v5 #[.bool false, .slice none 0 0] 56
              have szq := hb.size
              have nxqkA := kA.lt
              have hne : br ≠ v5.heap.size := by have := kr.lt; omega
              have nqq := hq.notin_new (b := v5.heap.size) (Nat.le_refl _)
              have nrq := hr.notin_new (b := v5.heap.size) (Nat.le_refl _)
              replace hb := hb.trans (gg.mono hb.size)
              replace kA := kA.later gg
              replace kr := kr.later gg
              replace hA := hA.below gg
              replace hz := hz.below gg
              replace hq := hq.keep gg
              replace hr := hr.keep gg
              clear gg
              refine hK.out _ _ (.inr kA) ?_
              clear hK K
              generalize v5.alloc (.cells #[.bool false, .slice none 0 0] 56) = v6 at *
              generalize v5.heap.size = bq at *
              refine U_step (j := 8) (by kernel_rfl) rfl (fun K hK => ?_)
              obtain ⟨⟨e1, e2⟩, e3, e4⟩ := kq.two
              go_simp
              replace kq := kq.set2 (.bool qg) (.slice qa qn qc)
              replace kr := kr.set2_ne (hne) (.bool qg) (.slice qa qn qc)
              replace kA := kA.set2_ne (b := bq) (by omega) (.bool qg) (.slice qa qn qc)
              replace hq := hq.set2n nqq (.bool qg) (.slice qa qn qc)
              replace hr := hr.set2n nrq (.bool qg) (.slice qa qn qc)
              replace hb := (hb.setCell (p := ⟨bq, 0, none⟩) (by show wr.heap.size ≤ bq; omega) (.bool qg)).setCell (p := ⟨bq, 1, none⟩) (by show wr.heap.size ≤ bq; omega) (.slice qa qn qc)
              refine hK.out _ _ (.inr kA) ?_
              clear hK K e1 e2 e3 e4
              refine U_step (j := 9) (by kernel_rfl) rfl (fun K hK => ?_)
              obtain ⟨⟨e1, e2⟩, e3, e4⟩ := kr.two
              go_simp
              replace kr := kr.set2 (.bool rg) (.slice ra rn rc)
              replace kq := kq.set2_ne (hne.symm) (.bool rg) (.slice ra rn rc)
              replace kA := kA.set2_ne (b := br) (by omega) (.bool rg) (.slice ra rn rc)
              replace hq := hq.set2n nqr (.bool rg) (.slice ra rn rc)
              replace hr := hr.set2n nrr (.bool rg) (.slice ra rn rc)
              replace hb := (hb.setCell (p := ⟨br, 0, none⟩) (by show wr.heap.size ≤ br; omega) (.bool rg)).setCell (p := ⟨br, 1, none⟩) (by show wr.heap.size ≤ br; omega) (.slice ra rn rc)
              refine hK.out _ _ (.inl rfl) ?_
              clear hK K e1 e2 e3 e4
              refine U_done (by kernel_rfl) ?_ _
              exact ⟨bq, br, qg, qa, qn, qc, rg, ra, rn, rc, zg, za, zn, zc, rfl, kq, kr, hq, hr, szq, szr, hb⟩
          · go_simp
            have gg : Below v3.heap.size v3 (v3.alloc (.cells #[.bool false, .slice none 0 0] 56)) := (Below.refl _ _).alloc (Nat.le_refl _) _
            have kq := Blk.new v3 #[.bool false, .slice none 0 0] 56
            have szq := hb.size
            have nxqkA := kA.lt
            replace hb := hb.trans (gg.mono hb.size)
            replace kA := kA.later gg
            replace hA := hA.below gg
            replace hz := hz.below gg
            clear gg
            refine hK.out _ _ (.inr kA) ?_
            clear hK K
            generalize v3.alloc (.cells #[.bool false, .slice none 0 0] 56) = v4 at *
            generalize v3.heap.size = bq at *
            refine U_two (j1 := 2) (j2 := 7) (by kernel_rfl) rfl rfl (fun K hK => ?_) (fun K hK => ?_)
            · go_simp
              have hc := hid (divR_fn hA hz (by omega) (by decide) (by decide))
              (with_reducible refine hc.out.mono ?_); rintro e v5 ⟨q, r, rfl, hq, hr, gg⟩
              clear hc
              have nqq := hq.notin (b := bq) (by have := kq.lt; omega)
              have nrq := hr.notin (b := bq) (by have := kq.lt; omega)
              have hszd := hb.size
              replace hq := hq.mono hszd
              replace hr := hr.mono hszd
              replace hb := hb.trans (gg.mono hb.size)
              replace kA := kA.later gg
              replace kq := kq.later gg
              replace hA := hA.below gg
              replace hz := hz.below gg
              obtain ⟨qg, qa, qn, qc, rfl⟩ := hq.num.shape4
              obtain ⟨rg, ra, rn, rc, rfl⟩ := hr.num.shape4
              clear gg
              refine hK.out _ _ (.inr kA) ?_
              clear hK K
              refine U_take2 5 (i := 3) (v := .tuple #[.agg #[.bool qg, .slice qa qn qc], .agg #[.bool rg, .slice ra rn rc]]) rfl (by kernel_rfl) (by kernel_rfl) (by kernel_rfl) (by kernel_rfl) (by kernel_rfl) (fun _ _ _ h => h) (.inl ⟨rfl, fun u hu => (by go_simp)⟩) kA ?_
              refine U_take2 5 (i := 4) (v := .agg #[.bool qg, .slice qa qn qc]) rfl (by kernel_rfl) (by kernel_rfl) (by kernel_rfl) (by kernel_rfl) (by kernel_rfl) (fun _ _ _ h => h) (.inl ⟨rfl, fun u hu => (by go_simp)⟩) kA ?_
              refine U_take2 5 (i := 5) (v := .agg #[.bool rg, .slice ra rn rc]) rfl (by kernel_rfl) (by kernel_rfl) (by kernel_rfl) (by kernel_rfl) (by kernel_rfl) (fun _ _ _ h => h) (.inl ⟨rfl, fun u hu => (by go_simp)⟩) kA ?_
              refine U_step (j := 7) (by kernel_rfl) rfl (fun K hK => ?_)
              go_simp
              have gg : Below v5.heap.size v5 (v5.alloc (.cells #[.bool false, .slice none 0 0] 56)) := (Below.refl _ _).alloc (Nat.le_refl _) _
              have kr := Blk.new v5 #[.bool false, .slice none 0 0] 56
              have szr := hb.size
              have nxrkA := kA.lt
              have hne : bq ≠ v5.heap.size := by have := kq.lt; omega
              have nqr := hq.notin_new (b := v5.heap.size) (Nat.le_refl _)
              have nrr := hr.notin_new (b := v5.heap.size) (Nat.le_refl _)
              replace hb := hb.trans (gg.mono hb.size)
              replace kA := kA.later gg
              replace kq := kq.later gg
              replace hA := hA.below gg
              replace hz := hz.below gg
              replace hq := hq.keep gg
              replace hr := hr.keep gg
              clear gg
              refine hK.out _ _ (.inr kA) ?_
              clear hK K
              generalize v5.alloc (.cells #[.bool false, .slice none 0 0] 56) = v6 at *
              generalize v5.heap.size = br at *
              refine U_step (j := 8) (by kernel_rfl) rfl (fun K hK => ?_)
              obtain ⟨⟨e1, e2⟩, e3, e4⟩ := kq.two
              go_simp
              replace kq := kq.set2 (.bool qg) (.slice qa qn qc)
              replace kr := kr.set2_ne (hne.symm) (.bool qg) (.slice qa qn qc)
              replace kA := kA.set2_ne (b := bq) (by omega) (.bool qg) (.slice qa qn qc)
              replace hq := hq.set2n nqq (.bool qg) (.slice qa qn qc)
              replace hr := hr.set2n nrq (.bool qg) (.slice qa qn qc)
              replace hb := (hb.setCell (p := ⟨bq, 0, none⟩) (by show wr.heap.size ≤ bq; omega) (.bool qg)).setCell (p := ⟨bq, 1, none⟩) (by show wr.heap.size ≤ bq; omega) (.slice qa qn qc)
              refine hK.out _ _ (.inr kA) ?_
              clear hK K e1 e2 e3 e4
              refine U_step (j := 9) (by kernel_rfl) rfl (fun K hK => ?_)
              obtain ⟨⟨e1, e2⟩, e3, e4⟩ := kr.two
              go_simp
              replace kr := kr.set2 (.bool rg) (.slice ra rn rc)
              replace kq := kq.set2_ne (hne) (.bool rg) (.slice ra rn rc)
              replace kA := kA.set2_ne (b := br) (by omega) (.bool rg) (.slice ra rn rc)
              replace hq := hq.set2n nqr (.bool rg) (.slice ra rn rc)
              replace hr := hr.set2n nrr (.bool rg) (.slice ra rn rc)
              replace hb := (hb.setCell (p := ⟨br, 0, none⟩) (by show wr.heap.size ≤ br; omega) (.bool rg)).setCell (p := ⟨br, 1, none⟩) (by show wr.heap.size ≤ br; omega) (.slice ra rn rc)
              refine hK.out _ _ (.inl rfl) ?_
              clear hK K e1 e2 e3 e4
              refine U_done (by kernel_rfl) ?_ _
              exact ⟨bq, br, qg, qa, qn, qc, rg, ra, rn, rc, zg, za, zn, zc, rfl, kq, kr, hq, hr, szq, szr, hb⟩
            · go_simp
              have gg : Below v4.heap.size v4 (v4.alloc (.cells #[.bool false, .slice none 0 0] 56)) := (Below.refl _ _).alloc (Nat.le_refl _) _
              have kr := Blk.new v4 #[.bool false, .slice none 0 0] 56
              have szr := hb.size
              have nxrkA := kA.lt
              have hne : bq ≠ v4.heap.size := by have := kq.lt; omega
              replace hb := hb.trans (gg.mono hb.size)
              replace kA := kA.later gg
              replace kq := kq.later gg
              replace hA := hA.below gg
              replace hz := hz.below gg
              clear gg
              refine hK.out _ _ (.inr kA) ?_
              clear hK K
              generalize v4.alloc (.cells #[.bool false, .slice none 0 0] 56) = v5 at *
              generalize v4.heap.size = br at *
              refine U_step (j := 2) (by kernel_rfl) rfl (fun K hK => ?_)
              go_simp
              have hc := hid (divR_fn hA hz (by omega) (by decide) (by decide))
              (with_reducible refine hc.out.mono ?_); rintro e v6 ⟨q, r, rfl, hq, hr, gg⟩
              clear hc
              have nqq := hq.notin (b := bq) (by have := kq.lt; omega)
              have nrq := hr.notin (b := bq) (by have := kq.lt; omega)
              have nqr := hq.notin (b := br) (by have := kr.lt; omega)
              have nrr := hr.notin (b := br) (by have := kr.lt; omega)
              have hszd := hb.size
              replace hq := hq.mono hszd
              replace hr := hr.mono hszd
              replace hb := hb.trans (gg.mono hb.size)
              replace kA := kA.later gg
              replace kq := kq.later gg
              replace kr := kr.later gg
              replace hA := hA.below gg
              replace hz := hz.below gg
              obtain ⟨qg, qa, qn, qc, rfl⟩ := hq.num.shape4
              obtain ⟨rg, ra, rn, rc, rfl⟩ := hr.num.shape4
              clear gg
              refine hK.out _ _ (.inr kA) ?_
              clear hK K
              refine U_take2 5 (i := 3) (v := .tuple #[.agg #[.bool qg, .slice qa qn qc], .agg #[.bool rg, .slice ra rn rc]]) rfl (by kernel_rfl) (by kernel_rfl) (by kernel_rfl) (by kernel_rfl) (by kernel_rfl) (fun _ _ _ h => h) (.inl ⟨rfl, fun u hu => (by go_simp)⟩) kA ?_
              refine U_take2 5 (i := 4) (v := .agg #[.bool qg, .slice qa qn qc]) rfl (by kernel_rfl) (by kernel_rfl) (by kernel_rfl) (by kernel_rfl) (by kernel_rfl) (fun _ _ _ h => h) (.inl ⟨rfl, fun u hu => (by go_simp)⟩) kA ?_
              refine U_take2 5 (i := 5) (v := .agg #[.bool rg, .slice ra rn rc]) rfl (by kernel_rfl) (by kernel_rfl) (by kernel_rfl) (by kernel_rfl) (by kernel_rfl) (fun _ _ _ h => h) (.inl ⟨rfl, fun u hu => (by go_simp)⟩) kA ?_
              refine U_step (j := 8) (by kernel_rfl) rfl (fun K hK => ?_)
              obtain ⟨⟨e1, e2⟩, e3, e4⟩ := kq.two
              go_simp
              replace kq := kq.set2 (.bool qg) (.slice qa qn qc)
              replace kr := kr.set2_ne (hne.symm) (.bool qg) (.slice qa qn qc)
              replace kA := kA.set2_ne (b := bq) (by omega) (.bool qg) (.slice qa qn qc)
              replace hq := hq.set2n nqq (.bool qg) (.slice qa qn qc)
              replace hr := hr.set2n nrq (.bool qg) (.slice qa qn qc)
              replace hb := (hb.setCell (p := ⟨bq, 0, none⟩) (by show wr.heap.size ≤ bq; omega) (.bool qg)).setCell (p := ⟨bq, 1, none⟩) (by show wr.heap.size ≤ bq; omega) (.slice qa qn qc)
              refine hK.out _ _ (.inr kA) ?_
              clear hK K e1 e2 e3 e4
              refine U_step (j := 9) (by kernel_rfl) rfl (fun K hK => ?_)
              obtain ⟨⟨e1, e2⟩, e3, e4⟩ := kr.two
              go_simp
              replace kr := kr.set2 (.bool rg) (.slice ra rn rc)
              replace kq := kq.set2_ne (hne) (.bool rg) (.slice ra rn rc)
              replace kA := kA.set2_ne (b := br) (by omega) (.bool rg) (.slice ra rn rc)
              replace hq := hq.set2n nqr (.bool rg) (.slice ra rn rc)
              replace hr := hr.set2n nrr (.bool rg) (.slice ra rn rc)
              replace hb := (hb.setCell (p := ⟨br, 0, none⟩) (by show wr.heap.size ≤ br; omega) (.bool rg)).setCell (p := ⟨br, 1, none⟩) (by show wr.heap.size ≤ br; omega) (.slice ra rn rc)
              refine hK.out _ _ (.inl rfl) ?_
              clear hK K e1 e2 e3 e4
              refine U_done (by kernel_rfl) ?_ _
              exact ⟨bq, br, qg, qa, qn, qc, rg, ra, rn, rc, zg, za, zn, zc, rfl, kq, kr, hq, hr, szq, szr, hb⟩
          · go_simp
            have gg : Below v3.heap.size v3 (v3.alloc (.cells #[.bool false, .slice none 0 0] 56)) := (Below.refl _ _).alloc (Nat.le_refl _) _
            have kr := Blk.new v3 #[.bool false, .slice none 0 0] 56
            have szr := hb.size
            have nxrkA := kA.lt
            replace hb := hb.trans (gg.mono hb.size)
            replace kA := kA.later gg
            replace hA := hA.below gg
            replace hz := hz.below gg
            clear gg
            refine hK.out _ _ (.inr kA) ?_
            clear hK K
            generalize v3.alloc (.cells #[.bool false, .slice none 0 0] 56) = v4 at *
            generalize v3.heap.size = br at *
            refine U_two (j1 := 2) (j2 := 6) (by kernel_rfl) rfl rfl (fun K hK => ?_) (fun K hK => ?_)
            · go_simp
              have hc := hid (divR_fn hA hz (by omega) (by decide) (by decide))
              (with_reducible refine hc.out.mono ?_); rintro e v5 ⟨q, r, rfl, hq, hr, gg⟩
              clear hc
              have nqr := hq.notin (b := br) (by have := kr.lt; omega)
              have nrr := hr.notin (b := br) (by have := kr.lt; omega)
              have hszd := hb.size
              replace hq := hq.mono hszd
              replace hr := hr.mono hszd
              replace hb := hb.trans (gg.mono hb.size)
              replace kA := kA.later gg
              replace kr := kr.later gg
              replace hA := hA.below gg
              replace hz := hz.below gg
              obtain ⟨qg, qa, qn, qc, rfl⟩ := hq.num.shape4
              obtain ⟨rg, ra, rn, rc, rfl⟩ := hr.num.shape4
              clear gg
              refine hK.out _ _ (.inr kA) ?_
              clear hK K
              refine U_take2 5 (i := 3) (v := .tuple #[.agg #[.bool qg, .slice qa qn qc], .agg #[.bool rg, .slice ra rn rc]]) rfl (by kernel_rfl) (by kernel_rfl) (by kernel_rfl) (by kernel_rfl) (by kernel_rfl) (fun _ _ _ h => h) (.inl ⟨rfl, fun u hu => (by go_simp)⟩) kA ?_
              refine U_take2 5 (i := 4) (v := .agg #[.bool qg, .slice qa qn qc]) rfl (by kernel_rfl) (by kernel_rfl) (by kernel_rfl) (by kernel_rfl) (by kernel_rfl) (fun _ _ _ h => h) (.inl ⟨rfl, fun u hu => (by go_simp)⟩) kA ?_
              refine U_take2 5 (i := 5) (v := .agg #[.bool rg, .slice ra rn rc]) rfl (by kernel_rfl) (by kernel_rfl) (by kernel_rfl) (by kernel_rfl) (by kernel_rfl) (fun _ _ _ h => h) (.inl ⟨rfl, fun u hu => (by go_simp)⟩) kA ?_
              refine U_step (j := 6) (by kernel_rfl) rfl (fun K hK => ?_)
              go_simp
              have gg : Below v5.heap.size v5 (v5.alloc (.cells #[.bool false, .slice none 0 0] 56)) := (Below.refl _ _).alloc (Nat.le_refl _) _
              have kq := Blk.new v5 #[.bool false, .slice none 0 0] 56
              have szq := hb.size
              have nxqkA := kA.lt
              have hne : br ≠ v5.heap.size := by have := kr.lt; omega
              have nqq := hq.notin_new (b := v5.heap.size) (Nat.le_refl _)
              have nrq := hr.notin_new (b := v5.heap.size) (Nat.le_refl _)
              replace hb := hb.trans (gg.mono hb.size)
              replace kA := kA.later gg
              replace kr := kr.later gg
              replace hA := hA.below gg
              replace hz := hz.below gg
              replace hq := hq.keep gg
              replace hr := hr.keep gg
              clear gg
              refine hK.out _ _ (.inr kA) ?_
              clear hK K
              generalize v5.alloc (.cells #[.bool false, .slice none 0 0] 56) = v6 at *
              generalize v5.heap.size = bq at *
              refine U_step (j := 8) (by kernel_rfl) rfl (fun K hK => ?_)
              obtain ⟨⟨e1, e2⟩, e3, e4⟩ := kq.two
              go_simp
              replace kq := kq.set2 (.bool qg) (.slice qa qn qc)
              replace kr := kr.set2_ne (hne) (.bool qg) (.slice qa qn qc)
              replace kA := kA.set2_ne (b := bq) (by omega) (.bool qg) (.slice qa qn qc)
              replace hq := hq.set2n nqq (.bool qg) (.slice qa qn qc)
              replace hr := hr.set2n nrq (.bool qg) (.slice qa qn qc)
              replace hb := (hb.setCell (p := ⟨bq, 0, none⟩) (by show wr.heap.size ≤ bq; omega) (.bool qg)).setCell (p := ⟨bq, 1, none⟩) (by show wr.heap.size ≤ bq; omega) (.slice qa qn qc)
              refine hK.out _ _ (.inr kA) ?_
              clear hK K e1 e2 e3 e4
              refine U_step (j := 9) (by kernel_rfl) rfl (fun K hK => ?_)
              obtain ⟨⟨e1, e2⟩, e3, e4⟩ := kr.two
              go_simp
              replace kr := kr.set2 (.bool rg) (.slice ra rn rc)
              replace kq := kq.set2_ne (hne.symm) (.bool rg) (.slice ra rn rc)
              replace kA := kA.set2_ne (b := br) (by omega) (.bool rg) (.slice ra rn rc)
              replace hq := hq.set2n nqr (.bool rg) (.slice ra rn rc)
              replace hr := hr.set2n nrr (.bool rg) (.slice ra rn rc)
              replace hb := (hb.setCell (p := ⟨br, 0, none⟩) (by show wr.heap.size ≤ br; omega) (.bool rg)).setCell (p := ⟨br, 1, none⟩) (by show wr.heap.size ≤ br; omega) (.slice ra rn rc)
              refine hK.out _ _ (.inl rfl) ?_
              clear hK K e1 e2 e3 e4
              refine U_done (by kernel_rfl) ?_ _
              exact ⟨bq, br, qg, qa, qn, qc, rg, ra, rn, rc, zg, za, zn, zc, rfl, kq, kr, hq, hr, szq, szr, hb⟩
            · go_simp
              have gg : Below v4.heap.size v4 (v4.alloc (.cells #[.bool false, .slice none 0 0] 56)) := (Below.refl _ _).alloc (Nat.le_refl _) _
              have kq := Blk.new v4 #[.bool false, .slice none 0 0] 56
              have szq := hb.size
              have nxqkA := kA.lt
              have hne : br ≠ v4.heap.size := by have := kr.lt; omega
              replace hb := hb.trans (gg.mono hb.size)
              replace kA := kA.later gg
              replace kr := kr.later gg
              replace hA := hA.below gg
              replace hz := hz.below gg
              clear gg
              refine hK.out _ _ (.inr kA) ?_
              clear hK K
              generalize v4.alloc (.cells #[.bool false, .slice none 0 0] 56) = v5 at *
              generalize v4.heap.size = bq at *
              refine U_step (j := 2) (by kernel_rfl) rfl (fun K hK => ?_)
              go_simp
              have hc := hid (divR_fn hA hz (by omega) (by decide) (by decide))
              (with_reducible refine hc.out.mono ?_); rintro e v6 ⟨q, r, rfl, hq, hr, gg⟩
              clear hc
              have nqr := hq.notin (b := br) (by have := kr.lt; omega)
              have nrr := hr.notin (b := br) (by have := kr.lt; omega)
              have nqq := hq.notin (b := bq) (by have := kq.lt; omega)
              have nrq := hr.notin (b := bq) (by have := kq.lt; omega)
              have hszd := hb.size
              replace hq := hq.mono hszd
              replace hr := hr.mono hszd
              replace hb := hb.trans (gg.mono hb.size)
              replace kA := kA.later gg
              replace kr := kr.later gg
              replace kq := kq.later gg
              replace hA := hA.below gg
              replace hz := hz.below gg
              obtain ⟨qg, qa, qn, qc, rfl⟩ := hq.num.shape4
              obtain ⟨rg, ra, rn, rc, rfl⟩ := hr.num.shape4
              clear gg
              refine hK.out _ _ (.inr kA) ?_
              clear hK K
              refine U_take2 5 (i := 3) (v := .tuple #[.agg #[.bool qg, .slice qa qn qc], .agg #[.bool rg, .slice ra rn rc]]) rfl (by kernel_rfl) (by kernel_rfl) (by kernel_rfl) (by kernel_rfl) (by kernel_rfl) (fun _ _ _ h => h) (.inl ⟨rfl, fun u hu => (by go_simp)⟩) kA ?_
              refine U_take2 5 (i := 4) (v := .agg #[.bool qg, .slice qa qn qc]) rfl (by kernel_rfl) (by kernel_rfl) (by kernel_rfl) (by kernel_rfl) (by kernel_rfl) (fun _ _ _ h => h) (.inl ⟨rfl, fun u hu => (by go_simp)⟩) kA ?_
              refine U_take2 5 (i := 5) (v := .agg #[.bool rg, .slice ra rn rc]) rfl (by kernel_rfl) (by kernel_rfl) (by kernel_rfl) (by kernel_rfl) (by kernel_rfl) (fun _ _ _ h => h) (.inl ⟨rfl, fun u hu => (by go_simp)⟩) kA ?_
              refine U_step (j := 8) (by kernel_rfl) rfl (fun K hK => ?_)
              obtain ⟨⟨e1, e2⟩, e3, e4⟩ := kq.two
              go_simp
              replace kq := kq.set2 (.bool qg) (.slice qa qn qc)
              replace kr := kr.set2_ne (hne) (.bool qg) (.slice qa qn qc)
              replace kA := kA.set2_ne (b := bq) (by omega) (.bool qg) (.slice qa qn qc)
              replace hq := hq.set2n nqq (.bool qg) (.slice qa qn qc)
              replace hr := hr.set2n nrq (.bool qg) (.slice qa qn qc)
              replace hb := (hb.setCell (p := ⟨bq, 0, none⟩) (by show wr.heap.size ≤ bq; omega) (.bool qg)).setCell (p := ⟨bq, 1, none⟩) (by show wr.heap.size ≤ bq; omega) (.slice qa qn qc)
              refine hK.out _ _ (.inr kA) ?_
              clear hK K e1 e2 e3 e4
              refine U_step (j := 9) (by kernel_rfl) rfl (fun K hK => ?_)
              obtain ⟨⟨e1, e2⟩, e3, e4⟩ := kr.two
              go_simp
              replace kr := kr.set2 (.bool rg) (.slice ra rn rc)
              replace kq := kq.set2_ne (hne.symm) (.bool rg) (.slice ra rn rc)
              replace kA := kA.set2_ne (b := br) (by omega) (.bool rg) (.slice ra rn rc)
              replace hq := hq.set2n nqr (.bool rg) (.slice ra rn rc)
              replace hr := hr.set2n nrr (.bool rg) (.slice ra rn rc)
              replace hb := (hb.setCell (p := ⟨br, 0, none⟩) (by show wr.heap.size ≤ br; omega) (.bool rg)).setCell (p := ⟨br, 1, none⟩) (by show wr.heap.size ≤ br; omega) (.slice ra rn rc)
              refine hK.out _ _ (.inl rfl) ?_
              clear hK K e1 e2 e3 e4
              refine U_done (by kernel_rfl) ?_ _
              exact ⟨bq, br, qg, qa, qn, qc, rg, ra, rn, rc, zg, za, zn, zc, rfl, kq, kr, hq, hr, szq, szr, hb⟩
        · go_simp
          have gg : Below wd.heap.size wd (wd.alloc (.cells #[.bool false, .slice none 0 0] 56)) := (Below.refl _ _).alloc (Nat.le_refl _) _
          have kq := Blk.new wd #[.bool false, .slice none 0 0] 56
          have szq := hb.size
          have nxqkA := kA.lt
          replace hb := hb.trans (gg.mono hb.size)
          replace kA := kA.later gg
          replace hA := hA.below gg
          clear gg
          refine hK.out _ _ (.inr kA) ?_
          clear hK K
          generalize wd.alloc (.cells #[.bool false, .slice none 0 0] 56) = v3 at *
          generalize wd.heap.size = bq at *
          refine U_two (j1 := 1) (j2 := 7) (by kernel_rfl) rfl rfl (fun K hK => ?_) (fun K hK => ?_)
          · go_simp
            have hc := fun w => hid (whole_fn 2 (by decide) (by decide) w)
            (with_reducible refine (hc _).out.mono ?_); rintro e v4 ⟨z2, rfl, hz, gg⟩
            clear hc
            replace hz := hz.num
            replace hb := hb.trans (gg.mono hb.size)
            replace kA := kA.later gg
            replace kq := kq.later gg
            replace hA := hA.below gg
            obtain ⟨zg, za, zn, zc, rfl⟩ := hz.shape4
            clear gg
            refine hK.out _ _ (.inr kA) ?_
            clear hK K
            refine U_two (j1 := 2) (j2 := 7) (by kernel_rfl) rfl rfl (fun K hK => ?_) (fun K hK => ?_)
            · go_simp
              have hc := hid (divR_fn hA hz (by omega) (by decide) (by decide))
              (with_reducible refine hc.out.mono ?_); rintro e v5 ⟨q, r, rfl, hq, hr, gg⟩
              clear hc
              have nqq := hq.notin (b := bq) (by have := kq.lt; omega)
              have nrq := hr.notin (b := bq) (by have := kq.lt; omega)
              have hszd := hb.size
              replace hq := hq.mono hszd
              replace hr := hr.mono hszd
              replace hb := hb.trans (gg.mono hb.size)
              replace kA := kA.later gg
              replace kq := kq.later gg
              replace hA := hA.below gg
              replace hz := hz.below gg
              obtain ⟨qg, qa, qn, qc, rfl⟩ := hq.num.shape4
              obtain ⟨rg, ra, rn, rc, rfl⟩ := hr.num.shape4
              clear gg
              refine hK.out _ _ (.inr kA) ?_
              clear hK K
              refine U_take2 5 (i := 3) (v := .tuple #[.agg #[.bool qg, .slice qa qn qc], .agg #[.bool rg, .slice ra rn rc]]) rfl (by kernel_rfl) (by kernel_rfl) (by kernel_rfl) (by kernel_rfl) (by kernel_rfl) (fun _ _ _ h => h) (.inl ⟨rfl, fun u hu => (by go_simp)⟩) kA ?_
              refine U_take2 5 (i := 4) (v := .agg #[.bool qg, .slice qa qn qc]) rfl (by kernel_rfl) (by kernel_rfl) (by kernel_rfl) (by kernel_rfl) (by kernel_rfl) (fun _ _ _ h => h) (.inl ⟨rfl, fun u hu => (by go_simp)⟩) kA ?_
              refine U_take2 5 (i := 5) (v := .agg #[.bool rg, .slice ra rn rc]) rfl (by kernel_rfl) (by kernel_rfl) (by kernel_rfl) (by kernel_rfl) (by kernel_rfl) (fun _ _ _ h => h) (.inl ⟨rfl, fun u hu => (by go_simp)⟩) kA ?_
              refine U_step (j := 7) (by kernel_rfl) rfl (fun K hK => ?_)
              go_simp
              have gg : Below v5.heap.size v5 (v5.alloc (.cells #[.bool false, .slice none 0 0] 56)) := (Below.refl _ _).alloc (Nat.le_refl _) _
              have kr := Blk.new v5 #[.bool false, .slice none 0 0] 56
              have szr := hb.size
              have nxrkA := kA.lt
              have hne : bq ≠ v5.heap.size := by have := kq.lt; omega
              have nqr := hq.notin_new (b := v5.heap.size) (Nat.le_refl _)
              have nrr := hr.notin_new (b := v5.heap.size) (Nat.le_refl _)
              replace hb := hb.trans (gg.mono hb.size)
              replace kA := kA.later gg
              replace kq := kq.later gg
              replace hA := hA.below gg
              replace hz := hz.below gg
              replace hq := hq.keep gg
              replace hr := hr.keep gg
              clear gg
              refine hK.out _ _ (.inr kA) ?_
              clear hK K
              generalize v5.alloc (.cells #[.bool false, .slice none 0 0] 56) = v6 at *
              generalize v5.heap.size = br at *
              refine U_step (j := 8) (by kernel_rfl) rfl (fun K hK => ?_)
              obtain ⟨⟨e1, e2⟩, e3, e4⟩ := kq.two
              go_simp
              replace kq := kq.set2 (.bool qg) (.slice qa qn qc)
              replace kr := kr.set2_ne (hne.symm) (.bool qg) (.slice qa qn qc)
              replace kA := kA.set2_ne (b := bq) (by omega) (.bool qg) (.slice qa qn qc)
              replace hq := hq.set2n nqq (.bool qg) (.slice qa qn qc)
              replace hr := hr.set2n nrq (.bool qg) (.slice qa qn qc)
              replace hb := (hb.setCell (p := ⟨bq, 0, none⟩) (by show wr.heap.size ≤ bq; omega) (.bool qg)).setCell (p := ⟨bq, 1, none⟩) (by show wr.heap.size ≤ bq; omega) (.slice qa qn qc)
              refine hK.out _ _ (.inr kA) ?_
              clear hK K e1 e2 e3 e4
              refine U_step (j := 9) (by kernel_rfl) rfl (fun K hK => ?_)
              obtain ⟨⟨e1, e2⟩, e3, e4⟩ := kr.two
              go_simp
              replace kr := kr.set2 (.bool rg) (.slice ra rn rc)
              replace kq := kq.set2_ne (hne) (.bool rg) (.slice ra rn rc)
              replace kA := kA.set2_ne (b := br) (by omega) (.bool rg) (.slice ra rn rc)
              replace hq := hq.set2n nqr (.bool rg) (.slice ra rn rc)
              replace hr := hr.set2n nrr (.bool rg) (.slice ra rn rc)
              replace hb := (hb.setCell (p := ⟨br, 0, none⟩) (by show wr.heap.size ≤ br; omega) (.bool rg)).setCell (p := ⟨br, 1, none⟩) (by show wr.heap.size ≤ br; omega) (.slice ra rn rc)
              refine hK.out _ _ (.inl rfl) ?_
              clear hK K e1 e2 e3 e4
              refine U_done (by kernel_rfl) ?_ _
              exact ⟨bq, br, qg, qa, qn, qc, rg, ra, rn, rc, zg, za, zn, zc, rfl, kq, kr, hq, hr, szq, szr, hb⟩
            · go_simp
              have gg : Below v4.heap.size v4 (v4.alloc (.cells #[.bool false, .slice none 0 0] 56)) := (Below.refl _ _).alloc (Nat.le_refl _) _
              have kr := Blk.new v4 #[.bool false, .slice none 0 0] 56
              have szr := hb.size
              have nxrkA := kA.lt
              have hne : bq ≠ v4.heap.size := by have := kq.lt; omega
              replace hb := hb.trans (gg.mono hb.size)
              replace kA := kA.later gg
              replace kq := kq.later gg
              replace hA := hA.below gg
              replace hz := hz.below gg
              clear gg
              refine hK.out _ _ (.inr kA) ?_
              clear hK K
              generalize v4.alloc (.cells #[.bool false, .slice none 0 0] 56) = v5 at *
              generalize v4.heap.size = br at *
              refine U_step (j := 2) (by kernel_rfl) rfl (fun K hK => ?_)
              go_simp
              have hc := hid (divR_fn hA hz (by omega) (by decide) (by decide))
              (with_reducible refine hc.out.mono ?_); rintro e v6 ⟨q, r, rfl, hq, hr, gg⟩
              clear hc
              have nqq := hq.notin (b := bq) (by have := kq.lt; omega)
              have nrq := hr.notin (b := bq) (by have := kq.lt; omega)
              have nqr := hq.notin (b := br) (by have := kr.lt; omega)
              have nrr := hr.notin (b := br) (by have := kr.lt; omega)
              have hszd := hb.size
              replace hq := hq.mono hszd
              replace hr := hr.mono hszd
              replace hb := hb.trans (gg.mono hb.size)
              replace kA := kA.later gg
              replace kq := kq.later gg
              replace kr := kr.later gg
              replace hA := hA.below gg
              replace hz := hz.below gg
              obtain ⟨qg, qa, qn, qc, rfl⟩ := hq.num.shape4
              obtain ⟨rg, ra, rn, rc, rfl⟩ := hr.num.shape4
              clear gg
              refine hK.out _ _ (.inr kA) ?_
              clear hK K
              refine U_take2 5 (i := 3) (v := .tuple #[.agg #[.bool qg, .slice qa qn qc], .agg #[.bool rg, .slice ra rn rc]]) rfl (by kernel_rfl) (by kernel_rfl) (by kernel_rfl) (by kernel_rfl) (by kernel_rfl) (fun _ _ _ h => h) (.inl ⟨rfl, fun u hu => (by go_simp)⟩) kA ?_
              refine U_take2 5 (i := 4) (v := .agg #[.bool qg, .slice qa qn qc]) rfl (by kernel_rfl) (by kernel_rfl) (by kernel_rfl) (by kernel_rfl) (by kernel_rfl) (fun _ _ _ h => h) (.inl ⟨rfl, fun u hu => (by go_simp)⟩) kA ?_
              refine U_take2 5 (i := 5) (v := .agg #[.bool rg, .slice ra rn rc]) rfl (by kernel_rfl) (by kernel_rfl) (by kernel_rfl) (by kernel_rfl) (by kernel_rfl) (fun _ _ _ h => h) (.inl ⟨rfl, fun u hu => (by go_simp)⟩) kA ?_
              refine U_step (j := 8) (by kernel_rfl) rfl (fun K hK => ?_)
              obtain ⟨⟨e1, e2⟩, e3, e4⟩ := kq.two
              go_simp
              replace kq := kq.set2 (.bool qg) (.slice qa qn qc)
              replace kr := kr.set2_ne (hne.symm) (.bool qg) (.slice qa qn qc)
              replace kA := kA.set2_ne (b := bq) (by omega) (.bool qg) (.slice qa qn qc)
              replace hq := hq.set2n nqq (.bool qg) (.slice qa qn qc)
              replace hr := hr.set2n nrq (.bool qg) (.slice qa qn qc)
              replace hb := (hb.setCell (p := ⟨bq, 0, none⟩) (by show wr.heap.size ≤ bq; omega) (.bool qg)).setCell (p := ⟨bq, 1, none⟩) (by show wr.heap.size ≤ bq; omega) (.slice qa qn qc)
              refine hK.out _ _ (.inr kA) ?_
              clear hK K e1 e2 e3 e4
              refine U_step (j := 9) (by kernel_rfl) rfl (fun K hK => ?_)
              obtain ⟨⟨e1, e2⟩, e3, e4⟩ := kr.two
              go_simp
              replace kr := kr.set2 (.bool rg) (.slice ra rn rc)
              replace kq := kq.set2_ne (hne) (.bool rg) (.slice ra rn rc)
              replace kA := kA.set2_ne (b := br) (by omega) (.bool rg) (.slice ra rn rc)
              replace hq := hq.set2n nqr (.bool rg) (.slice ra rn rc)
              replace hr := hr.set2n nrr (.bool rg) (.slice ra rn rc)
              replace hb := (hb.setCell (p := ⟨br, 0, none⟩) (by show wr.heap.size ≤ br; omega) (.bool rg)).setCell (p := ⟨br, 1, none⟩) (by show wr.heap.size ≤ br; omega) (.slice ra rn rc)
              refine hK.out _ _ (.inl rfl) ?_
              clear hK K e1 e2 e3 e4
              refine U_done (by kernel_rfl) ?_ _
              exact ⟨bq, br, qg, qa, qn, qc, rg, ra, rn, rc, zg, za, zn, zc, rfl, kq, kr, hq, hr, szq, szr, hb⟩
          · go_simp
            have gg : Below v3.heap.size v3 (v3.alloc (.cells #[.bool false, .slice none 0 0] 56)) := (Below.refl _ _).alloc (Nat.le_refl _) _
            have kr := Blk.new v3 #[.bool false, .slice none 0 0] 56
            have szr := hb.size
            have nxrkA := kA.lt
            have hne : bq ≠ v3.heap.size := by have := kq.lt; omega
            replace hb := hb.trans (gg.mono hb.size)
            replace kA := kA.later gg
            replace kq := kq.later gg
            replace hA := hA.below gg
            clear gg
            refine hK.out _ _ (.inr kA) ?_
            clear hK K
            generalize v3.alloc (.cells #[.bool false, .slice none 0 0] 56) = v4 at *
            generalize v3.heap.size = br at *
            refine U_step (j := 1) (by kernel_rfl) rfl (fun K hK => ?_)
            go_simp
            have hc := fun w => hid (whole_fn 2 (by decide) (by decide) w)
            (with_reducible refine (hc _).out.mono ?_); rintro e v5 ⟨z2, rfl, hz, gg⟩
            clear hc
            replace hz := hz.num
            replace hb := hb.trans (gg.mono hb.size)
            replace kA := kA.later gg
            replace kq := kq.later gg
            replace kr := kr.later gg
            replace hA := hA.below gg
            obtain ⟨zg, za, zn, zc, rfl⟩ := hz.shape4
            clear gg
            refine hK.out _ _ (.inr kA) ?_
            clear hK K
            refine U_step (j := 2) (by kernel_rfl) rfl (fun K hK => ?_)
            go_simp
            have hc := hid (divR_fn hA hz (by omega) (by decide) (by decide))
            (with_reducible refine hc.out.mono ?_); rintro e v6 ⟨q, r, rfl, hq, hr, gg⟩
            clear hc
            have nqq := hq.notin (b := bq) (by have := kq.lt; omega)
            have nrq := hr.notin (b := bq) (by have := kq.lt; omega)
            have nqr := hq.notin (b := br) (by have := kr.lt; omega)
            have nrr := hr.notin (b := br) (by have := kr.lt; omega)
            have hszd := hb.size
            replace hq := hq.mono hszd
            replace hr := hr.mono hszd
            replace hb := hb.trans (gg.mono hb.size)
            replace kA := kA.later gg
            replace kq := kq.later gg
            replace kr := kr.later gg
            replace hA := hA.below gg
            replace hz := hz.below gg
            obtain ⟨qg, qa, qn, qc, rfl⟩ := hq.num.shape4
            obtain ⟨rg, ra, rn, rc, rfl⟩ := hr.num.shape4
            clear gg
            refine hK.out _ _ (.inr kA) ?_
            clear hK K
            refine U_take2 5 (i := 3) (v := .tuple #[.agg #[.bool qg, .slice qa qn qc], .agg #[.bool rg, .slice ra rn rc]]) rfl (by kernel_rfl) (by kernel_rfl) (by kernel_rfl) (by kernel_rfl) (by kernel_rfl) (fun _ _ _ h => h) (.inl ⟨rfl, fun u hu => (by go_simp)⟩) kA ?_
            refine U_take2 5 (i := 4) (v := .agg #[.bool qg, .slice qa qn qc]) rfl (by kernel_rfl) (by kernel_rfl) (by kernel_rfl) (by kernel_rfl) (by kernel_rfl) (fun _ _ _ h => h) (.inl ⟨rfl, fun u hu => (by go_simp)⟩) kA ?_
            refine U_take2 5 (i := 5) (v := .agg #[.bool rg, .slice ra rn rc]) rfl (by kernel_rfl) (by kernel_rfl) (by kernel_rfl) (by kernel_rfl) (by kernel_rfl) (fun _ _ _ h => h) (.inl ⟨rfl, fun u hu => (by go_simp)⟩) kA ?_
            refine U_step (j := 8) (by kernel_rfl) rfl (fun K hK => ?_)
            obtain ⟨⟨e1, e2⟩, e3, e4⟩ := kq.two
            go_simp
            replace kq := kq.set2 (.bool qg) (.slice qa qn qc)
            replace kr := kr.set2_ne (hne.symm) (.bool qg) (.slice qa qn qc)
            replace kA := kA.set2_ne (b := bq) (by omega) (.bool qg) (.slice qa qn qc)
            replace hq := hq.set2n nqq (.bool qg) (.slice qa qn qc)
            replace hr := hr.set2n nrq (.bool qg) (.slice qa qn qc)
            replace hb := (hb.setCell (p := ⟨bq, 0, none⟩) (by show wr.heap.size ≤ bq; omega) (.bool qg)).setCell (p := ⟨bq, 1, none⟩) (by show wr.heap.size ≤ bq; omega) (.slice qa qn qc)
            refine hK.out _ _ (.inr kA) ?_
            clear hK K e1 e2 e3 e4
            refine U_step (j := 9) (by kernel_rfl) rfl (fun K hK => ?_)
            obtain ⟨⟨e1, e2⟩, e3, e4⟩ := kr.two
            go_simp
            replace kr := kr.set2 (.bool rg) (.slice ra rn rc)
            replace kq := kq.set2_ne (hne) (.bool rg) (.slice ra rn rc)
            replace kA := kA.set2_ne (b := br) (by omega) (.bool rg) (.slice ra rn rc)
            replace hq := hq.set2n nqr (.bool rg) (.slice ra rn rc)
            replace hr := hr.set2n nrr (.bool rg) (.slice ra rn rc)
            replace hb := (hb.setCell (p := ⟨br, 0, none⟩) (by show wr.heap.size ≤ br; omega) (.bool rg)).setCell (p := ⟨br, 1, none⟩) (by show wr.heap.size ≤ br; omega) (.slice ra rn rc)
            refine hK.out _ _ (.inl rfl) ?_
            clear hK K e1 e2 e3 e4
            refine U_done (by kernel_rfl) ?_ _
            exact ⟨bq, br, qg, qa, qn, qc, rg, ra, rn, rc, zg, za, zn, zc, rfl, kq, kr, hq, hr, szq, szr, hb⟩
        · go_simp
          have gg : Below wd.heap.size wd (wd.alloc (.cells #[.bool false, .slice none 0 0] 56)) := (Below.refl _ _).alloc (Nat.le_refl _) _
          have kr := Blk.new wd #[.bool false, .slice none 0 0] 56
          have szr := hb.size
          have nxrkA := kA.lt
          replace hb := hb.trans (gg.mono hb.size)
          replace kA := kA.later gg
          replace hA := hA.below gg
          clear gg
          refine hK.out _ _ (.inr kA) ?_
          clear hK K
          generalize wd.alloc (.cells #[.bool false, .slice none 0 0] 56) = v3 at *
          generalize wd.heap.size = br at *
          refine U_two (j1 := 1) (j2 := 6) (by kernel_rfl) rfl rfl (fun K hK => ?_) (fun K hK => ?_)
          · go_simp
            have hc := fun w => hid (whole_fn 2 (by decide) (by decide) w)
            (with_reducible refine (hc _).out.mono ?_); rintro e v4 ⟨z2, rfl, hz, gg⟩
            clear hc
            replace hz := hz.num
            replace hb := hb.trans (gg.mono hb.size)
            replace kA := kA.later gg
            replace kr := kr.later gg
            replace hA := hA.below gg
            obtain ⟨zg, za, zn, zc, rfl⟩ := hz.shape4
            clear gg
            refine hK.out _ _ (.inr kA) ?_
            clear hK K
            refine U_two (j1 := 2) (j2 := 6) (by kernel_rfl) rfl rfl (fun K hK => ?_) (fun K hK => ?_)
            · go_simp
              have hc := hid (divR_fn hA hz (by omega) (by decide) (by decide))
              (with_reducible refine hc.out.mono ?_); rintro e v5 ⟨q, r, rfl, hq, hr, gg⟩
              clear hc
              have nqr := hq.notin (b := br) (by have := kr.lt; omega)
              have nrr := hr.notin (b := br) (by have := kr.lt; omega)
              have hszd := hb.size
              replace hq := hq.mono hszd
              replace hr := hr.mono hszd
              replace hb := hb.trans (gg.mono hb.size)
              replace kA := kA.later gg
              replace kr := kr.later gg
              replace hA := hA.below gg
              replace hz := hz.below gg
              obtain ⟨qg, qa, qn, qc, rfl⟩ := hq.num.shape4
              obtain ⟨rg, ra, rn, rc, rfl⟩ := hr.num.shape4
              clear gg
              refine hK.out _ _ (.inr kA) ?_
              clear hK K
              refine U_take2 5 (i := 3) (v := .tuple #[.agg #[.bool qg, .slice qa qn qc], .agg #[.bool rg, .slice ra rn rc]]) rfl (by kernel_rfl) (by kernel_rfl) (by kernel_rfl) (by kernel_rfl) (by kernel_rfl) (fun _ _ _ h => h) (.inl ⟨rfl, fun u hu => (by go_simp)⟩) kA ?_
              refine U_take2 5 (i := 4) (v := .agg #[.bool qg, .slice qa qn qc]) rfl (by kernel_rfl) (by kernel_rfl) (by kernel_rfl) (by kernel_rfl) (by kernel_rfl) (fun _ _ _ h => h) (.inl ⟨rfl, fun u hu => (by go_simp)⟩) kA ?_
              refine U_take2 5 (i := 5) (v := .agg #[.bool rg, .slice ra rn rc]) rfl (by kernel_rfl) (by kernel_rfl) (by kernel_rfl) (by kernel_rfl) (by kernel_rfl) (fun _ _ _ h => h) (.inl ⟨rfl, fun u hu => (by go_simp)⟩) kA ?_
              refine U_step (j := 6) (by kernel_rfl) rfl (fun K hK => ?_)
              go_simp
              have gg : Below v5.heap.size v5 (v5.alloc (.cells #[.bool false, .slice none 0 0] 56)) := (Below.refl _ _).alloc (Nat.le_refl _) _
              have kq := Blk.new v5 #[.bool false, .slice none 0 0] 56
              have szq := hb.size
              have nxqkA := kA.lt
              have hne : br ≠ v5.heap.size := by have := kr.lt; omega
              have nqq := hq.notin_new (b := v5.heap.size) (Nat.le_refl _)
              have nrq := hr.notin_new (b := v5.heap.size) (Nat.le_refl _)
              replace hb := hb.trans (gg.mono hb.size)
              replace kA := kA.later gg
              replace kr := kr.later gg
              replace hA := hA.below gg
              replace hz := hz.below gg
              replace hq := hq.keep gg
              replace hr := hr.keep gg
              clear gg
              refine hK.out _ _ (.inr kA) ?_
              clear hK K
              generalize v5.alloc (.cells #[.bool false, .slice none 0 0] 56) = v6 at *
              generalize v5.heap.size = bq at *
              refine U_step (j := 8) (by kernel_rfl) rfl (fun K hK => ?_)
              obtain ⟨⟨e1, e2⟩, e3, e4⟩ := kq.two
              go_simp
              replace kq := kq.set2 (.bool qg) (.slice qa qn qc)
              replace kr := kr.set2_ne (hne) (.bool qg) (.slice qa qn qc)
              replace kA := kA.set2_ne (b := bq) (by omega) (.bool qg) (.slice qa qn qc)
              replace hq := hq.set2n nqq (.bool qg) (.slice qa qn qc)
              replace hr := hr.set2n nrq (.bool qg) (.slice qa qn qc)
              replace hb := (hb.setCell (p := ⟨bq, 0, none⟩) (by show wr.heap.size ≤ bq; omega) (.bool qg)).setCell (p := ⟨bq, 1, none⟩) (by show wr.heap.size ≤ bq; omega) (.slice qa qn qc)
              refine hK.out _ _ (.inr kA) ?_
              clear hK K e1 e2 e3 e4
              refine U_step (j := 9) (by kernel_rfl) rfl (fun K hK => ?_)
              obtain ⟨⟨e1, e2⟩, e3, e4⟩ := kr.two
              go_simp
              replace kr := kr.set2 (.bool rg) (.slice ra rn rc)
              replace kq := kq.set2_ne (hne.symm) (.bool rg) (.slice ra rn rc)
              replace kA := kA.set2_ne (b := br) (by omega) (.bool rg) (.slice ra rn rc)
              replace hq := hq.set2n nqr (.bool rg) (.slice ra rn rc)
              replace hr := hr.set2n nrr (.bool rg) (.slice ra rn rc)
              replace hb := (hb.setCell (p := ⟨br, 0, none⟩) (by show wr.heap.size ≤ br; omega) (.bool rg)).setCell (p := ⟨br, 1, none⟩) (by show wr.heap.size ≤ br; omega) (.slice ra rn rc)
              refine hK.out _ _ (.inl rfl) ?_
              clear hK K e1 e2 e3 e4
              refine U_done (by kernel_rfl) ?_ _
              exact ⟨bq, br, qg, qa, qn, qc, rg, ra, rn, rc, zg, za, zn, zc, rfl, kq, kr, hq, hr, szq, szr, hb⟩
            · go_simp
              have gg : Below v4.heap.size v4 (v4.alloc (.cells #[.bool false, .slice none 0 0] 56)) := (Below.refl _ _).alloc (Nat.le_refl _) _
              have kq := Blk.new v4 #[.bool false, .slice none 0 0] 56
              have szq := hb.size
              have nxqkA := kA.lt
              have hne : br ≠ v4.heap.size := by have := kr.lt; omega
              replace hb := hb.trans (gg.mono hb.size)
              replace kA := kA.later gg
              replace kr := kr.later gg
              replace hA := hA.below gg
              replace hz := hz.below gg
              clear gg
              refine hK.out _ _ (.inr kA) ?_
              clear hK K
              generalize v4.alloc (.cells #[.bool false, .slice none 0 0] 56) = v5 at *
              generalize v4.heap.size = bq at *
              refine U_step (j := 2) (by kernel_rfl) rfl (fun K hK => ?_)
              go_simp
              have hc := hid (divR_fn hA hz (by omega) (by decide) (by decide))
              (with_reducible refine hc.out.mono ?_); rintro e v6 ⟨q, r, rfl, hq, hr, gg⟩
              clear hc
              have nqr := hq.notin (b := br) (by have := kr.lt; omega)
              have nrr := hr.notin (b := br) (by have := kr.lt; omega)
              have nqq := hq.notin (b := bq) (by have := kq.lt; omega)
              have nrq := hr.notin (b := bq) (by have := kq.lt; omega)
              have hszd := hb.size
              replace hq := hq.mono hszd
              replace hr := hr.mono hszd
              replace hb := hb.trans (gg.mono hb.size)
              replace kA := kA.later gg
              replace kr := kr.later gg
              replace kq := kq.later gg
              replace hA := hA.below gg
              replace hz := hz.below gg
              obtain ⟨qg, qa, qn, qc, rfl⟩ := hq.num.shape4
              obtain ⟨rg, ra, rn, rc, rfl⟩ := hr.num.shape4
              clear gg
              refine hK.out _ _ (.inr kA) ?_
              clear hK K
              refine U_take2 5 (i := 3) (v := .tuple #[.agg #[.bool qg, .slice qa qn qc], .agg #[.bool rg, .slice ra rn rc]]) rfl (by kernel_rfl) (by kernel_rfl) (by kernel_rfl) (by kernel_rfl) (by kernel_rfl) (fun _ _ _ h => h) (.inl ⟨rfl, fun u hu => (by go_simp)⟩) kA ?_
              refine U_take2 5 (i := 4) (v := .agg #[.bool qg, .slice qa qn qc]) rfl (by kernel_rfl) (by kernel_rfl) (by kernel_rfl) (by kernel_rfl) (by kernel_rfl) (fun _ _ _ h => h) (.inl ⟨rfl, fun u hu => (by go_simp)⟩) kA ?_
              refine U_take2 5 (i := 5) (v := .agg #[.bool rg, .slice ra rn rc]) rfl (by kernel_rfl) (by kernel_rfl) (by kernel_rfl) (by kernel_rfl) (by kernel_rfl) (fun _ _ _ h => h) (.inl ⟨rfl, fun u hu => (by go_simp)⟩) kA ?_
              refine U_step (j := 8) (by kernel_rfl) rfl (fun K hK => ?_)
              obtain ⟨⟨e1, e2⟩, e3, e4⟩ := kq.two
              go_simp
              replace kq := kq.set2 (.bool qg) (.slice qa qn qc)
              replace kr := kr.set2_ne (hne) (.bool qg) (.slice qa qn qc)
              replace kA := kA.set2_ne (b := bq) (by omega) (.bool qg) (.slice qa qn qc)
              replace hq := hq.set2n nqq (.bool qg) (.slice qa qn qc)
              replace hr := hr.set2n nrq (.bool qg) (.slice qa qn qc)
              replace hb := (hb.setCell (p := ⟨bq, 0, none⟩) (by show wr.heap.size ≤ bq; omega) (.bool qg)).setCell (p := ⟨bq, 1, none⟩) (by show wr.heap.size ≤ bq; omega) (.slice qa qn qc)
              refine hK.out _ _ (.inr kA) ?_
              clear hK K e1 e2 e3 e4
              refine U_step (j := 9) (by kernel_rfl) rfl (fun K hK => ?_)
              obtain ⟨⟨e1, e2⟩, e3, e4⟩ := kr.two
              go_simp
              replace kr := kr.set2 (.bool rg) (.slice ra rn rc)
              replace kq := kq.set2_ne (hne.symm) (.bool rg) (.slice ra rn rc)
              replace kA := kA.set2_ne (b := br) (by omega) (.bool rg) (.slice ra rn rc)
              replace hq := hq.set2n nqr (.bool rg) (.slice ra rn rc)
              replace hr := hr.set2n nrr (.bool rg) (.slice ra rn rc)
              replace hb := (hb.setCell (p := ⟨br, 0, none⟩) (by show wr.heap.size ≤ br; omega) (.bool rg)).setCell (p := ⟨br, 1, none⟩) (by show wr.heap.size ≤ br; omega) (.slice ra rn rc)
              refine hK.out _ _ (.inl rfl) ?_
              clear hK K e1 e2 e3 e4
              refine U_done (by kernel_rfl) ?_ _
              exact ⟨bq, br, qg, qa, qn, qc, rg, ra, rn, rc, zg, za, zn, zc, rfl, kq, kr, hq, hr, szq, szr, hb⟩
          · go_simp
            have gg : Below v3.heap.size v3 (v3.alloc (.cells #[.bool false, .slice none 0 0] 56)) := (Below.refl _ _).alloc (Nat.le_refl _) _
            have kq := Blk.new v3 #[.bool false, .slice none 0 0] 56
            have szq := hb.size
            have nxqkA := kA.lt
            have hne : br ≠ v3.heap.size := by have := kr.lt; omega
            replace hb := hb.trans (gg.mono hb.size)
            replace kA := kA.later gg
            replace kr := kr.later gg
            replace hA := hA.below gg
            clear gg
            refine hK.out _ _ (.inr kA) ?_
            clear hK K
            generalize v3.alloc (.cells #[.bool false, .slice none 0 0] 56) = v4 at *
            generalize v3.heap.size = bq at *
            refine U_step (j := 1) (by kernel_rfl) rfl (fun K hK => ?_)
            go_simp
            have hc := fun w => hid (whole_fn 2 (by decide) (by decide) w)
            (with_reducible refine (hc _).out.mono ?_); rintro e v5 ⟨z2, rfl, hz, gg⟩
            clear hc
            replace hz := hz.num
            replace hb := hb.trans (gg.mono hb.size)
            replace kA := kA.later gg
            replace kr := kr.later gg
            replace kq := kq.later gg
            replace hA := hA.below gg
            obtain ⟨zg, za, zn, zc, rfl⟩ := hz.shape4
            clear gg
            refine hK.out _ _ (.inr kA) ?_
            clear hK K
            refine U_step (j := 2) (by kernel_rfl) rfl (fun K hK => ?_)
            go_simp
            have hc := hid (divR_fn hA hz (by omega) (by decide) (by decide))
            (with_reducible refine hc.out.mono ?_); rintro e v6 ⟨q, r, rfl, hq, hr, gg⟩
            clear hc
            have nqr := hq.notin (b := br) (by have := kr.lt; omega)
            have nrr := hr.notin (b := br) (by have := kr.lt; omega)
            have nqq := hq.notin (b := bq) (by have := kq.lt; omega)
            have nrq := hr.notin (b := bq) (by have := kq.lt; omega)
            have hszd := hb.size
            replace hq := hq.mono hszd
            replace hr := hr.mono hszd
            replace hb := hb.trans (gg.mono hb.size)
            replace kA := kA.later gg
            replace kr := kr.later gg
            replace kq := kq.later gg
            replace hA := hA.below gg
            replace hz := hz.below gg
            obtain ⟨qg, qa, qn, qc, rfl⟩ := hq.num.shape4
            obtain ⟨rg, ra, rn, rc, rfl⟩ := hr.num.shape4
            clear gg
            refine hK.out _ _ (.inr kA) ?_
            clear hK K
            refine U_take2 5 (i := 3) (v := .tuple #[.agg #[.bool qg, .slice qa qn qc], .agg #[.bool rg, .slice ra rn rc]]) rfl (by kernel_rfl) (by kernel_rfl) (by kernel_rfl) (by kernel_rfl) (by kernel_rfl) (fun _ _ _ h => h) (.inl ⟨rfl, fun u hu => (by go_simp)⟩) kA ?_
            refine U_take2 5 (i := 4) (v := .agg #[.bool qg, .slice qa qn qc]) rfl (by kernel_rfl) (by kernel_rfl) (by kernel_rfl) (by kernel_rfl) (by kernel_rfl) (fun _ _ _ h => h) (.inl ⟨rfl, fun u hu => (by go_simp)⟩) kA ?_
            refine U_take2 5 (i := 5) (v := .agg #[.bool rg, .slice ra rn rc]) rfl (by kernel_rfl) (by kernel_rfl) (by kernel_rfl) (by kernel_rfl) (by kernel_rfl) (fun _ _ _ h => h) (.inl ⟨rfl, fun u hu => (by go_simp)⟩) kA ?_
            refine U_step (j := 8) (by kernel_rfl) rfl (fun K hK => ?_)
            obtain ⟨⟨e1, e2⟩, e3, e4⟩ := kq.two
            go_simp
            replace kq := kq.set2 (.bool qg) (.slice qa qn qc)
            replace kr := kr.set2_ne (hne) (.bool qg) (.slice qa qn qc)
            replace kA := kA.set2_ne (b := bq) (by omega) (.bool qg) (.slice qa qn qc)
            replace hq := hq.set2n nqq (.bool qg) (.slice qa qn qc)
            replace hr := hr.set2n nrq (.bool qg) (.slice qa qn qc)
            replace hb := (hb.setCell (p := ⟨bq, 0, none⟩) (by show wr.heap.size ≤ bq; omega) (.bool qg)).setCell (p := ⟨bq, 1, none⟩) (by show wr.heap.size ≤ bq; omega) (.slice qa qn qc)
            refine hK.out _ _ (.inr kA) ?_
            clear hK K e1 e2 e3 e4
            refine U_step (j := 9) (by kernel_rfl) rfl (fun K hK => ?_)
            obtain ⟨⟨e1, e2⟩, e3, e4⟩ := kr.two
            go_simp
            replace kr := kr.set2 (.bool rg) (.slice ra rn rc)
            replace kq := kq.set2_ne (hne.symm) (.bool rg) (.slice ra rn rc)
            replace kA := kA.set2_ne (b := br) (by omega) (.bool rg) (.slice ra rn rc)
            replace hq := hq.set2n nqr (.bool rg) (.slice ra rn rc)
            replace hr := hr.set2n nrr (.bool rg) (.slice ra rn rc)
            replace hb := (hb.setCell (p := ⟨br, 0, none⟩) (by show wr.heap.size ≤ br; omega) (.bool rg)).setCell (p := ⟨br, 1, none⟩) (by show wr.heap.size ≤ br; omega) (.slice ra rn rc)
            refine hK.out _ _ (.inl rfl) ?_
            clear hK K e1 e2 e3 e4
            refine U_done (by kernel_rfl) ?_ _
            exact ⟨bq, br, qg, qa, qn, qc, rg, ra, rn, rc, zg, za, zn, zc, rfl, kq, kr, hq, hr, szq, szr, hb⟩
      case hr =>
        rintro bq br qg qa qn qc rg ra rn rc zg za zn zc w8 ⟨kq, kr, hq, hr, szq, szr, hbw⟩
        have hba := hb.trans (hbw.mono hrsz)
        replace kA := kA.later hbw
        have hown9 := hown.keep hbw
        obtain ⟨⟨t1, t2⟩, t3, t4⟩ := kq.two
        obtain ⟨⟨y1, y2⟩, y3, y4⟩ := kr.two
        obtain ⟨-, hrn⟩ := hr.num.parts
        have hX : decide (0 < rn) = zb z j := by
          rw [HBIT.out, hrn]
          apply decide_eq_decide.2
          have h1 := dlen_pos_iff ((zq z j).fmod 2).natAbs
          rw [HM.out] at h1 ⊢
          omega
        have HX := hid hX
        have hsb := hbw.size
        clear hX hrn
        go_wp2_with (at_builtin; go_loud (refine app_bool rfl _ _ rfl (w.heap.size + 1) _ (bitsL z j) rfl hown9 _ (zb z j) rfl HX.out (by rw [bitsL_length]; omega) (by omega) ?_); intro v' w9 hown' hb9 hkb; refine Hid.out ?_)
        have hb9' := hba.trans (hb9.mono (by omega))
        have kq := KeepBut.blk kq hkb (fun g hg => by have := hown.block_lt g hg; omega)
        have hq := KeepBut.own hq hkb (fun g hg => hown.block_lt g hg)
        have kA := kA.below hb9 (by omega)
        rw [HQ.out] at hq
        rw [← bitsL_succ] at hown'
        clear t1 t2 t3 t4 y1 y2 y3 y4
        obtain ⟨⟨t1, t2⟩, t3, t4⟩ := kq.two
        obtain ⟨⟨y1, y2⟩, y3, y4⟩ := kA.two
        have nA := hq.notin (b := w.heap.size) (by omega)
        refine hid ?_
        go_wp2
        have kA := kA.set2 (.bool qg) (.slice qa qn qc)
        have hq := hq.num.set2n nA (.bool qg) (.slice qa qn qc)
        have hown' := hown'.set2 (b := w.heap.size) (by omega) (.bool qg) (.slice qa qn qc)
        have hb9' := (hb9'.setCell (p := ⟨w.heap.size, 0, none⟩) (Nat.le_refl _) (.bool qg)).setCell (p := ⟨w.heap.size, 1, none⟩) (Nat.le_refl _) (.slice qa qn qc)
        go_roundw
        case rel => exact ⟨j + 1, by go_num, by omega, hown', _, _, _, _, kA, hq, hb9'⟩
        case measure => simp [intOf] <;> omega
    · obtain rfl : j = count := by omega
      go_wp2
      go_ret
      refine ⟨_, rfl, ?_, hb⟩
      exact hown.mono (by omega)
set_option maxRecDepth 100000 in
set_option maxHeartbeats 8000000 in
theorem of_fn' {v : Value} {l : List Bool} {z : Int} {w : World} (h : RowB w v l) (h0 : 0 < l.length) (hl : l.length ≤ 100000) (hbit : ∀ i, i < l.length → l.getD i false = zb z i) (htop : zq z l.length = if l.getD (l.length - 1) false = true then -1 else 0) (hz : dlen 10 z.natAbs ≤ 100000) :
    Calls Tryz.prog 134 #[v] w (FreshD z w) := by
  obtain ⟨la, lc, rfl, _, hcell⟩ := h
  obtain ⟨lb, lo, rfl, hlb, hcell⟩ := hcell h0
  have kR := Blk.new w #[.bool false, .slice none 0 0] 56
  have hb0 : Below w.heap.size w (w.alloc (.cells #[.bool false, .slice none 0 0] 56)) := (Below.refl _ _).alloc (Nat.le_refl _) _
  have hsz0 : (w.alloc (.cells #[.bool false, .slice none 0 0] 56)).heap.size = w.heap.size + 1 := by simp
  have HW := fun w => hid (whole_fn 0 (by decide) (by decide) w)
  have HW1 := fun w => hid (whole_fn (-1) (by decide) (by decide) w)
  have hbitH := hid hbit
  have HT := hid htop
  have hlast := hcell (l.length - 1) (by omega)
  clear hbit htop
  go_enter Tryz.func134, Tryz.ntmps134
  go_wp2_with fail
  generalize w.alloc (.cells #[.bool false, .slice none 0 0] 56) = w0 at *
  (with_reducible refine (HW _).out.mono ?_); rintro e w1 ⟨v, rfl, hv, gg⟩
  obtain ⟨g1, s1, n1, c1, rfl⟩ := hv.num.shape4
  have hb := hb0.trans (gg.mono hb0.size)
  replace kR := kR.later gg
  have hs1 := gg.size
  have hlt1 := kR.lt
  clear gg
  have gg : Below w1.heap.size w1 (w1.alloc (.cells #[.bool g1, .slice s1 n1 c1] 56)) := (Below.refl _ _).alloc (Nat.le_refl _) _
  have kO := Blk.new w1 #[.bool g1, .slice s1 n1 c1] 56
  replace kR := kR.later gg
  replace hb := hb.trans (gg.mono hb.size)
  have hv := (hv.keep gg).mono (show w.heap.size + 1 ≤ w0.heap.size by omega)
  have hlt2 := kO.lt
  have hlast := (hb.cell (p := ⟨lb, lo + (l.length - 1), none⟩) hlb).trans hlast
  have hli : ((l.length : Nat) : Int) - 1 = ((l.length - 1 : Nat) : Int) := by omega
  have hlj : lo + (((l.length : Nat) : Int) - 1).toNat = lo + (l.length - 1) := by omega
  clear gg
  cases hL : l.getD (l.length - 1) false with
  | false =>
    rw [hL] at hlast
    have HV := hid (show zq z l.length = 0 by rw [HT.out, hL]; rfl)
    rw [← HV.out] at hv
    clear hL HT HW HW1
    go_wp2_with fail
    generalize w1.alloc (.cells #[.bool g1, .slice s1 n1 c1] 56) = w2 at *
    generalize hB : w1.heap.size = B at *
    clear hb0 hsz0 hlast hli hlj
    go_loopw [4] (fun iv wr => ∃ j : Nat, iv = .int .i64 ((j : Int) - 1) ∧ j ≤ l.length ∧ ∃ g s m c, Blk wr B #[.bool g, .slice s m c] 56 ∧ OwnDNum wr (w.heap.size + 1) (.agg #[.bool g, .slice s m c]) (zq z j) ∧ Blk wr w.heap.size #[.bool false, .slice none 0 0] 56 ∧ Below w.heap.size w wr) (fun iv _ => (intOf iv + 1).toNat)
    case atStart => exact ⟨l.length, by go_num, Nat.le_refl _, _, _, _, _, kO, hv, kR, hb⟩
    case round =>
      obtain ⟨j, rfl, hj, g, s, m, c, kO, hO, kR, hb⟩ := hrel
      obtain ⟨⟨p1, p2⟩, q1, q2⟩ := kO.two
      have hla := dlen_zq z j _ hz
      by_cases hj0 : j = 0
      · subst hj0
        rw [zq_zero] at hO
        obtain ⟨⟨r1, r2⟩, t1, t2⟩ := kR.two
        go_wp2
        replace kR := kR.set2 (.bool g) (.slice s m c)
        obtain ⟨⟨z1, z2⟩, _⟩ := kR.two
        have hO := (hO.set2 (b := w.heap.size) (by omega) (.bool g) (.slice s m c)).mono (show w.heap.size ≤ w.heap.size + 1 by omega)
        have hb := (hb.setCell (p := ⟨w.heap.size, 0, none⟩) (Nat.le_refl _) (.bool g)).setCell (p := ⟨w.heap.size, 1, none⟩) (Nat.le_refl _) (.slice s m c)
        exact bodyPost_ret (v := .agg #[.bool g, .slice s m c]) (by simp [results, Tryz.results134, go_sem, z1, z2]) rfl ⟨_, rfl, hO, hb⟩
      · obtain ⟨i, rfl⟩ : ∃ i, j = i + 1 := ⟨j - 1, by omega⟩
        have he : ((i + 1 : Nat) : Int) - 1 = i := by omega
        rw [he]
        clear he hj0
        have HP := hid (plusR_fn hO.num hO.num (by omega) (by omega))
        have HST := hid (zq_step z i)
        have hda := dlen_abs_add (zq z (i + 1)) (zq z (i + 1))
        have hbit := (hcell i (by omega))
        have HBI := hid (hbitH.out i (by omega))
        have hbit := (hb.cell (p := ⟨lb, lo + i, none⟩) hlb).trans hbit
        go_wp2_with fail
        (with_reducible refine HP.out.mono ?_); rintro e w3 ⟨q, rfl, hq, gg⟩
        obtain ⟨g', s', m', c', rfl⟩ := hq.num.shape4
        have hltO := kO.lt
        have hszr := hb.size
        replace kO := kO.later gg
        replace kR := kR.later gg
        replace hb := hb.trans (gg.mono hb.size)
        clear p1 p2 q1 q2 hbit
        obtain ⟨⟨p1, p2⟩, q1, q2⟩ := kO.two
        replace kO := kO.set2 (.bool g') (.slice s' m' c')
        replace kR := kR.set2_ne (b := B) (by omega) (.bool g') (.slice s' m' c')
        have hq := (hq.set2 hltO (.bool g') (.slice s' m' c')).mono (show w.heap.size + 1 ≤ wr.heap.size by omega)
        have hb := (hb.setCell (p := ⟨B, 0, none⟩) (by show w.heap.size ≤ B; omega) (.bool g')).setCell (p := ⟨B, 1, none⟩) (by show w.heap.size ≤ B; omega) (.slice s' m' c')
        have hbit := (hb.cell (p := ⟨lb, lo + i, none⟩) hlb).trans (hcell i (by omega))
        obtain ⟨⟨z1, z2⟩, z3, z4⟩ := kO.two
        cases hB : l.getD i false with
        | false =>
          rw [hB] at hbit
          have HQ := hid (show zq z (i + 1) + zq z (i + 1) = zq z i by rw [HST.out, if_neg (by rw [← HBI.out, hB]; decide)]; omega)
          rw [HQ.out] at hq
          clear hB
          go_wp2
          go_roundw
          case rel => exact ⟨i, by go_num, by omega, _, _, _, _, kO, hq, kR, hb⟩
          case measure => simp [intOf] <;> omega
        | true =>
          rw [hB] at hbit
          have HQ := hid (show zq z (i + 1) + zq z (i + 1) + 1 = zq z i by rw [HST.out, if_pos (by rw [← HBI.out, hB])]; omega)
          clear hB
          go_wp2_with fail
          clear p1 p2 q1 q2 hbit z1 z2 z3 z4
          generalize ((w3.setCell ⟨B, 0, none⟩ (.bool g')).setCell ⟨B, 1, none⟩ (.slice s' m' c')) = w4 at *
          replace kO := kO.drew
          replace kR := kR.drew
          replace hq := hq.drew
          replace hb := hb.drew
          refine U_begin (late := fun i => decide (3 ≤ i)) (S := fun u => Blk u B #[.bool g', .slice s' m' c'] 56) (by kernel_rfl) ?_
          generalize w4.drew = wd at *
          refine U_take2 3 (i := 0) (v := .agg #[.bool g', .slice s' m' c']) rfl (by kernel_rfl) (by kernel_rfl) (by kernel_rfl) (by kernel_rfl) (by kernel_rfl) (fun _ _ _ h => h) (.inl ⟨rfl, fun u hu => (by obtain ⟨⟨h1, h2⟩, _⟩ := hu.two; go_simp)⟩) kO ?_
          refine U_step (j := 1) (by kernel_rfl) rfl (fun K hK => ?_)
          go_simp
          have hc := fun w => hid (whole_fn 1 (by decide) (by decide) w)
          (with_reducible refine (hc _).out.mono ?_); rintro e w5 ⟨u, rfl, hu, gg⟩
          clear hc
          obtain ⟨ug, ua, un, uc, rfl⟩ := hu.num.shape4
          replace hq := hq.keep gg
          replace hb := hb.trans (gg.mono hb.size)
          replace kO := kO.later gg
          replace kR := kR.later gg
          refine hK.out _ _ (.inr kO) ?_
          clear hK K gg
          refine U_step (j := 2) (by kernel_rfl) rfl (fun K hK => ?_)
          go_simp
          have hc := hid (plusR_fn hq.num hu.num (by omega) (by decide))
          rw [HQ.out] at hc
          (with_reducible refine hc.out.mono ?_); rintro e w6 ⟨y, rfl, hy, gg⟩
          clear hc
          obtain ⟨yg, ya, yn, yc, rfl⟩ := hy.num.shape4
          have hlt5 := kO.lt
          have hs5 := hb.size
          replace hb := hb.trans (gg.mono hb.size)
          replace kO := kO.later gg
          replace kR := kR.later gg
          refine hK.out _ _ (.inr kO) ?_
          clear hK K gg
          refine U_step (j := 3) (by kernel_rfl) rfl (fun K hK => ?_)
          obtain ⟨⟨e1, e2⟩, e3, e4⟩ := kO.two
          go_simp
          replace kO := kO.set2 (.bool yg) (.slice ya yn yc)
          replace kR := kR.set2_ne (b := B) (by omega) (.bool yg) (.slice ya yn yc)
          have hy := (hy.set2 hlt5 (.bool yg) (.slice ya yn yc)).mono (show w.heap.size + 1 ≤ w5.heap.size by have := kR.lt; omega)
          have hb := (hb.setCell (p := ⟨B, 0, none⟩) (by show w.heap.size ≤ B; omega) (.bool yg)).setCell (p := ⟨B, 1, none⟩) (by show w.heap.size ≤ B; omega) (.slice ya yn yc)
          refine hK.out _ _ (.inl rfl) ?_
          clear hK K e1 e2 e3 e4
          refine U_done (by kernel_rfl) ?_ _
          go_wp2
          go_roundw
          case rel => exact ⟨i, by go_num, by omega, _, _, _, _, kO, hy, kR, hb⟩
          case measure => simp [intOf] <;> omega
  | true =>
    rw [hL] at hlast
    have HV := hid (show zq z l.length = -1 by rw [HT.out, hL]; rfl)
    clear hL HT HW
    go_wp2_with fail
    generalize w1.alloc (.cells #[.bool g1, .slice s1 n1 c1] 56) = w2 at *
    generalize hB : w1.heap.size = B at *
    (with_reducible refine (HW1 _).out.mono ?_); rintro e w3 ⟨v, rfl, hv, gg⟩
    rw [← HV.out] at hv
    clear hb0 hsz0 hlast hli hlj
    obtain ⟨g2, s2, n2, c2, rfl⟩ := hv.num.shape4
    have hsw2 := hb.size
    replace hb := hb.trans (gg.mono hb.size)
    replace kR := kR.later gg
    replace kO := kO.later gg
    clear gg
    obtain ⟨⟨p1, p2⟩, q1, q2⟩ := kO.two
    go_wp2_with fail
    clear p1 p2 q1 q2
    replace kO := kO.set2 (.bool g2) (.slice s2 n2 c2)
    replace kR := kR.set2_ne (b := B) (by omega) (.bool g2) (.slice s2 n2 c2)
    have hv := (hv.set2 hlt2 (.bool g2) (.slice s2 n2 c2)).mono (show w.heap.size + 1 ≤ w2.heap.size by omega)
    have hb := (hb.setCell (p := ⟨B, 0, none⟩) (by show w.heap.size ≤ B; omega) (.bool g2)).setCell (p := ⟨B, 1, none⟩) (by show w.heap.size ≤ B; omega) (.slice s2 n2 c2)
    generalize ((w3.setCell ⟨B, 0, none⟩ (.bool g2)).setCell ⟨B, 1, none⟩ (.slice s2 n2 c2)) = w4 at *
    go_loopw [4] (fun iv wr => ∃ j : Nat, iv = .int .i64 ((j : Int) - 1) ∧ j ≤ l.length ∧ ∃ g s m c, Blk wr B #[.bool g, .slice s m c] 56 ∧ OwnDNum wr (w.heap.size + 1) (.agg #[.bool g, .slice s m c]) (zq z j) ∧ Blk wr w.heap.size #[.bool false, .slice none 0 0] 56 ∧ Below w.heap.size w wr) (fun iv _ => (intOf iv + 1).toNat)
    case atStart => exact ⟨l.length, by go_num, Nat.le_refl _, _, _, _, _, kO, hv, kR, hb⟩
    case round =>
      obtain ⟨j, rfl, hj, g, s, m, c, kO, hO, kR, hb⟩ := hrel
      obtain ⟨⟨p1, p2⟩, q1, q2⟩ := kO.two
      have hla := dlen_zq z j _ hz
      by_cases hj0 : j = 0
      · subst hj0
        rw [zq_zero] at hO
        obtain ⟨⟨r1, r2⟩, t1, t2⟩ := kR.two
        go_wp2
        replace kR := kR.set2 (.bool g) (.slice s m c)
        obtain ⟨⟨z1, z2⟩, _⟩ := kR.two
        have hO := (hO.set2 (b := w.heap.size) (by omega) (.bool g) (.slice s m c)).mono (show w.heap.size ≤ w.heap.size + 1 by omega)
        have hb := (hb.setCell (p := ⟨w.heap.size, 0, none⟩) (Nat.le_refl _) (.bool g)).setCell (p := ⟨w.heap.size, 1, none⟩) (Nat.le_refl _) (.slice s m c)
        exact bodyPost_ret (v := .agg #[.bool g, .slice s m c]) (by simp [results, Tryz.results134, go_sem, z1, z2]) rfl ⟨_, rfl, hO, hb⟩
      · obtain ⟨i, rfl⟩ : ∃ i, j = i + 1 := ⟨j - 1, by omega⟩
        have he : ((i + 1 : Nat) : Int) - 1 = i := by omega
        rw [he]
        clear he hj0
        have HP := hid (plusR_fn hO.num hO.num (by omega) (by omega))
        have HST := hid (zq_step z i)
        have hda := dlen_abs_add (zq z (i + 1)) (zq z (i + 1))
        have hbit := (hcell i (by omega))
        have HBI := hid (hbitH.out i (by omega))
        have hbit := (hb.cell (p := ⟨lb, lo + i, none⟩) hlb).trans hbit
        go_wp2_with fail
        (with_reducible refine HP.out.mono ?_); rintro e w3 ⟨q, rfl, hq, gg⟩
        obtain ⟨g', s', m', c', rfl⟩ := hq.num.shape4
        have hltO := kO.lt
        have hszr := hb.size
        replace kO := kO.later gg
        replace kR := kR.later gg
        replace hb := hb.trans (gg.mono hb.size)
        clear p1 p2 q1 q2 hbit
        obtain ⟨⟨p1, p2⟩, q1, q2⟩ := kO.two
        replace kO := kO.set2 (.bool g') (.slice s' m' c')
        replace kR := kR.set2_ne (b := B) (by omega) (.bool g') (.slice s' m' c')
        have hq := (hq.set2 hltO (.bool g') (.slice s' m' c')).mono (show w.heap.size + 1 ≤ wr.heap.size by omega)
        have hb := (hb.setCell (p := ⟨B, 0, none⟩) (by show w.heap.size ≤ B; omega) (.bool g')).setCell (p := ⟨B, 1, none⟩) (by show w.heap.size ≤ B; omega) (.slice s' m' c')
        have hbit := (hb.cell (p := ⟨lb, lo + i, none⟩) hlb).trans (hcell i (by omega))
        obtain ⟨⟨z1, z2⟩, z3, z4⟩ := kO.two
        cases hB : l.getD i false with
        | false =>
          rw [hB] at hbit
          have HQ := hid (show zq z (i + 1) + zq z (i + 1) = zq z i by rw [HST.out, if_neg (by rw [← HBI.out, hB]; decide)]; omega)
          rw [HQ.out] at hq
          clear hB
          go_wp2
          go_roundw
          case rel => exact ⟨i, by go_num, by omega, _, _, _, _, kO, hq, kR, hb⟩
          case measure => simp [intOf] <;> omega
        | true =>
          rw [hB] at hbit
          have HQ := hid (show zq z (i + 1) + zq z (i + 1) + 1 = zq z i by rw [HST.out, if_pos (by rw [← HBI.out, hB])]; omega)
          clear hB
          go_wp2_with fail
          clear p1 p2 q1 q2 hbit z1 z2 z3 z4
          generalize ((w3.setCell ⟨B, 0, none⟩ (.bool g')).setCell ⟨B, 1, none⟩ (.slice s' m' c')) = w4 at *
          replace kO := kO.drew
          replace kR := kR.drew
          replace hq := hq.drew
          replace hb := hb.drew
          refine U_begin (late := fun i => decide (3 ≤ i)) (S := fun u => Blk u B #[.bool g', .slice s' m' c'] 56) (by kernel_rfl) ?_
          generalize w4.drew = wd at *
          refine U_take2 3 (i := 0) (v := .agg #[.bool g', .slice s' m' c']) rfl (by kernel_rfl) (by kernel_rfl) (by kernel_rfl) (by kernel_rfl) (by kernel_rfl) (fun _ _ _ h => h) (.inl ⟨rfl, fun u hu => (by obtain ⟨⟨h1, h2⟩, _⟩ := hu.two; go_simp)⟩) kO ?_
          refine U_step (j := 1) (by kernel_rfl) rfl (fun K hK => ?_)
          go_simp
          have hc := fun w => hid (whole_fn 1 (by decide) (by decide) w)
          (with_reducible refine (hc _).out.mono ?_); rintro e w5 ⟨u, rfl, hu, gg⟩
          clear hc
          obtain ⟨ug, ua, un, uc, rfl⟩ := hu.num.shape4
          replace hq := hq.keep gg
          replace hb := hb.trans (gg.mono hb.size)
          replace kO := kO.later gg
          replace kR := kR.later gg
          refine hK.out _ _ (.inr kO) ?_
          clear hK K gg
          refine U_step (j := 2) (by kernel_rfl) rfl (fun K hK => ?_)
          go_simp
          have hc := hid (plusR_fn hq.num hu.num (by omega) (by decide))
          rw [HQ.out] at hc
          (with_reducible refine hc.out.mono ?_); rintro e w6 ⟨y, rfl, hy, gg⟩
          clear hc
          obtain ⟨yg, ya, yn, yc, rfl⟩ := hy.num.shape4
          have hlt5 := kO.lt
          have hs5 := hb.size
          replace hb := hb.trans (gg.mono hb.size)
          replace kO := kO.later gg
          replace kR := kR.later gg
          refine hK.out _ _ (.inr kO) ?_
          clear hK K gg
          refine U_step (j := 3) (by kernel_rfl) rfl (fun K hK => ?_)
          obtain ⟨⟨e1, e2⟩, e3, e4⟩ := kO.two
          go_simp
          replace kO := kO.set2 (.bool yg) (.slice ya yn yc)
          replace kR := kR.set2_ne (b := B) (by omega) (.bool yg) (.slice ya yn yc)
          have hy := (hy.set2 hlt5 (.bool yg) (.slice ya yn yc)).mono (show w.heap.size + 1 ≤ w5.heap.size by have := kR.lt; omega)
          have hb := (hb.setCell (p := ⟨B, 0, none⟩) (by show w.heap.size ≤ B; omega) (.bool yg)).setCell (p := ⟨B, 1, none⟩) (by show w.heap.size ≤ B; omega) (.slice ya yn yc)
          refine hK.out _ _ (.inl rfl) ?_
          clear hK K e1 e2 e3 e4
          refine U_done (by kernel_rfl) ?_ _
          go_wp2
          go_roundw
          case rel => exact ⟨i, by go_num, by omega, _, _, _, _, kO, hy, kR, hb⟩
          case measure => simp [intOf] <;> omega
end Go.Proofs.YtkhgoeippamobaaGreatDoor
