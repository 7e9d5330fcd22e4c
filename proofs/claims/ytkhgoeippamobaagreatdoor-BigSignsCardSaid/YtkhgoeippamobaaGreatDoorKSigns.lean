/-
  SignsCard: the law's card and what it alone needs, merged from 10 texts. Conditions: the row's own.
-/
import Derived.Deep.LoopGhost
import Derived.Shelf.LaysM
import Derived.Shelf.Strconv.Itoa3
import Derived.Test.YtkhgoeippamobaaGreatDoorCards
import Derived.Test.YtkhgoeippamobaaGreatDoorTie
import Derived.Deep.DeepHandedRow
import Derived.ProofKit
import Derived.OpenShut
import Derived.Lay
import Derived.Stop.LaidErr
import Derived.Lib.LaidTab
import Derived.MakeChecks
import Derived.ChangeMaps5
import Derived.Test.YtkhgoeippamobaaGreatDoorK1
import Derived.Test.YtkhgoeippamobaaGreatDoorK2
import Derived.Test.YtkhgoeippamobaaGreatDoorK3
import Derived.Test.YtkhgoeippamobaaGreatDoorK4
import Derived.Test.YtkhgoeippamobaaGreatDoorK5
import Derived.Test.YtkhgoeippamobaaGreatDoorK6
import Derived.Test.YtkhgoeippamobaaGreatDoorK7a
/-
  Square roots (plain).
-/
namespace Go.Proofs.YtkhgoeippamobaaGreatDoor
open Go.RowKit
def rootF (N : Nat) : Nat → Nat
  | 0 => 0
  | f + 1 => if (f + 1) * (f + 1) ≤ N then f + 1 else rootF N f
/-- the root, rounded down -/
def rootN (N : Nat) : Nat := rootF N N
theorem rootF_spec (N : Nat) : ∀ f, rootF N f * rootF N f ≤ N ∧ ∀ r, r ≤ f → r * r ≤ N → r ≤ rootF N f := by
  intro f
  induction f with
  | zero => exact ⟨by simp [rootF], fun r hr _ => by simp [rootF]; omega⟩
  | succ f ih =>
    unfold rootF
    by_cases h : (f + 1) * (f + 1) ≤ N
    · rw [if_pos h]
      exact ⟨h, fun r hr _ => hr⟩
    · rw [if_neg h]
      refine ⟨ih.1, fun r hr hr2 => ih.2 r ?_ hr2⟩
      rcases Nat.lt_or_ge r (f + 1) with h1 | h1
      · omega
      · obtain rfl : r = f + 1 := by omega
        exact absurd hr2 h
theorem rootN_eq (N r : Nat) (h1 : r * r ≤ N) (h2 : N < (r + 1) * (r + 1)) : rootN N = r := by
  obtain ⟨a, b⟩ := rootF_spec N N
  have h3 : r ≤ rootN N := b r (Nat.le_trans (Nat.le_mul_self r) h1) h1
  have h4 : ¬ r + 1 ≤ rootN N := by
    intro h
    have h5 : (r + 1) * (r + 1) ≤ rootN N * rootN N := Nat.mul_le_mul h h
    unfold rootN at h5
    omega
  omega
theorem rootN_le (N : Nat) : rootN N ≤ N := by
  obtain ⟨a, _⟩ := rootF_spec N N
  exact Nat.le_trans (Nat.le_mul_self _) a
def rootE (x : Int) : Int := if x < 0 then 7 else 0
def rootRes (a : List UInt8) : List UInt8 × Int := oneRes a (rootE (pVal a)) ((rootN (pVal a).natAbs : Nat) : Int)
/-- bit by bit: one more bit -/
theorem root_bit (N r i : Nat) (_h1 : r * r ≤ N) (h2 : N < (r + 2 ^ (i + 1)) * (r + 2 ^ (i + 1))) (_h : (r + 2 ^ i) * (r + 2 ^ i) ≤ N) : N < (r + 2 ^ i + 2 ^ i) * (r + 2 ^ i + 2 ^ i) := by
  rw [Nat.add_assoc, ← Nat.two_mul, ← Nat.pow_succ']
  exact h2
end Go.Proofs.YtkhgoeippamobaaGreatDoor
/-
  Root of big.
-/
namespace Go.Proofs.YtkhgoeippamobaaGreatDoor
open Go.RowKit
theorem NatA.nil {w : World} {B : Nat} : NatA w B (.slice none 0 0) 0 := ⟨none, 0, rfl, Nat.le_refl _, fun h => absurd h (by decide)⟩
theorem root_top (N k : Nat) (h : nbits N = k) : N < (0 + 2 ^ (k / 2 + 1)) * (0 + 2 ^ (k / 2 + 1)) := by
  have h1 := (nbits_le_iff N k).1 (by omega)
  rw [Nat.zero_add, ← Nat.pow_add]
  exact Nat.lt_of_lt_of_le h1 (Nat.pow_le_pow_right (by decide) (by omega))
theorem sq_le (r N : Nat) (h : r * r ≤ N) : r ≤ N := Nat.le_trans (Nat.le_mul_self r) h
theorem nlen_pow (i k : Nat) (h : i < 32 * k) : nlen (2 ^ i) ≤ k := (nlen_le_iff _ _).2 (Nat.pow_lt_pow_right (by decide) h)
set_option maxRecDepth 100000 in
set_option maxHeartbeats 2000000 in
theorem root1 {v : Value} {x : Int} {w : World} (hv : PNum w v x) : Calls Tryz.prog 110 #[v] w fun e w' => e = .returned (.int .i64 (rootE x)) ∧ Below w.heap.size w w' := by
  obtain ⟨a1, n1, c1, l1, rfl⟩ := hv.shape
  have hb0 : Below w.heap.size w (w.alloc (.cells #[.slice a1 n1 c1, .bool (decide (x < 0)), .bool l1] 49)) := (Below.refl _ _).alloc (Nat.le_refl _) _
  clear hv
  by_cases hx : x < 0
  · have HE := hid (show rootE x = 7 by unfold rootE; rw [if_pos hx])
    rw [decide_eq_true hx] at hb0 ⊢
    clear hx
    go_enter Tryz.func110, Tryz.ntmps110
    go_wp2
    go_ret
    exact ⟨by rw [HE.out]; rfl, hb0⟩
  · have HE := hid (show rootE x = 0 by unfold rootE; rw [if_neg hx])
    rw [decide_eq_false hx] at hb0 ⊢
    clear hx
    go_enter Tryz.func110, Tryz.ntmps110
    go_wp2
    go_ret
    exact ⟨by rw [HE.out]; rfl, hb0⟩
set_option maxRecDepth 100000 in
set_option maxHeartbeats 4000000 in
theorem root2 {v : Value} {z : Int} {w : World} (h : IntV w v z) (hl : nlen z.natAbs ≤ 1000) : Calls Tryz.prog 111 #[v] w (RetInt ((rootN z.natAbs : Nat) : Int) w) := by
  obtain ⟨a1, c1, rfl, h1⟩ := h.shape
  generalize hs : decide (z < 0) = s at *
  clear hs h
  generalize z.natAbs = N at *
  have k1 := Blk.new w #[.slice a1 (nlen N) c1, .bool s, .bool false] 49
  have k2 := Blk.new (w.alloc (.cells #[.slice a1 (nlen N) c1, .bool s, .bool false] 49)) #[.slice none 0 0, .bool false, .bool false] 49
  simp only [World.size_alloc] at k2
  have k1 := k1.alloc (.cells #[.slice none 0 0, .bool false, .bool false] 49)
  have hb0 : Below w.heap.size w ((w.alloc (.cells #[.slice a1 (nlen N) c1, .bool s, .bool false] 49)).alloc (.cells #[.slice none 0 0, .bool false, .bool false] 49)) := ((Below.refl _ _).alloc (Nat.le_refl _) _).alloc (by simp) _
  have HB := hid (bits_nat (h1.below hb0) (by omega))
  have hnb := nbits_le_nlen N
  have HTOP := hid (root_top N (nbits N) rfl)
  go_enter Tryz.func111, Tryz.ntmps111
  go_wp2_with fail
  generalize (w.alloc (.cells #[.slice a1 (nlen N) c1, .bool s, .bool false] 49)).alloc (.cells #[.slice none 0 0, .bool false, .bool false] 49) = w0 at *
  obtain ⟨⟨p1, p2, p3⟩, _⟩ := k1.three
  go_wp2_with fail
  (with_reducible refine HB.out.mono ?_); rintro e w1 ⟨rfl, rfl⟩
  have hlt2 := k2.lt
  clear p1 p2 p3 HB
  generalize nbits N = K at *
  go_wp2_with fail
  go_loopw [3, 4] (fun rv iv wr => ∃ j G : Nat, iv = .int .i64 ((j : Int) - 1) ∧ j ≤ K / 2 + 1 ∧ G * G ≤ N ∧ N < (G + 2 ^ j) * (G + 2 ^ j) ∧ NatA wr (w.heap.size + 1) rv G ∧ Blk wr w.heap.size #[.slice a1 (nlen N) c1, .bool s, .bool false] 49 ∧ Blk wr (w.heap.size + 1) #[.slice none 0 0, .bool false, .bool false] 49 ∧ Below w.heap.size w wr) (fun _ iv _ => (intOf iv + 1).toNat)
  case atStart => exact ⟨K / 2 + 1, 0, by go_num, Nat.le_refl _, Nat.zero_le _, HTOP.out, NatA.nil, k1, k2, hb0⟩
  case round =>
    obtain ⟨j, G, rfl, hj, hg1, hg2, hG, k1, k2, hb⟩ := hrel
    have HG1 := hid hg1
    have HG2 := hid hg2
    have hGN := nlen_mono (sq_le G N hg1)
    obtain ⟨ga, gc, rfl⟩ := hG.rep.shape
    have hszr := hb.size
    clear hg1 hg2
    by_cases hj0 : j = 0
    · subst hj0
      have HE := hid (rootN_eq N G HG1.out (by have := HG2.out; rwa [Nat.pow_zero] at this))
      have HO := hid (of_nat hG.rep false (by omega))
      rw [Bool.false_and] at HO
      generalize hn : nlen G = n at *
      have HN := hid hn
      clear hn
      go_wp2_with fail
      (with_reducible refine HO.out.mono ?_); rintro e w3 ⟨rfl, gg⟩
      have k2 := k2.later gg
      have hG := hG.below gg
      have hb3 := hb.trans (gg.mono hszr)
      obtain ⟨⟨r1, r2, r3⟩, r4, r5, r6⟩ := k2.three
      go_wp2
      have k2 := k2.set3 (.slice ga n gc) (.bool false) (.bool false)
      obtain ⟨⟨z1, z2, z3⟩, _⟩ := k2.three
      have hF := hG.set3 (.slice ga n gc) (.bool false) (.bool false)
      have hbF := ((hb3.setCell (p := ⟨w.heap.size + 1, 0, none⟩) (by simp) (.slice ga n gc)).setCell (p := ⟨w.heap.size + 1, 1, none⟩) (by simp) (.bool false)).setCell (p := ⟨w.heap.size + 1, 2, none⟩) (by simp) (.bool false)
      refine bodyPost_ret (v := .agg #[.slice ga n gc, .bool false, .bool false]) (by simp [results, Tryz.results111, go_sem, z1, z2, z3]) rfl ⟨_, rfl, ?_, hbF⟩
      rw [HE.out]
      exact IntV.mk hF (Int.natAbs_natCast G).symm (decide_eq_false (by omega)).symm
    · obtain ⟨i, rfl⟩ : ∃ i, j = i + 1 := ⟨j - 1, by omega⟩
      have he : ((i + 1 : Nat) : Int) - 1 = i := by omega
      rw [he]
      clear he hj0
      have hi : i ≤ 16000 := by omega
      have hpn := nlen_pow i 1000 (by omega)
      have gg : Below wr.heap.size wr (wr.alloc (.cells #[.int .u32 1] 75)) := (Below.refl _ _).alloc (Nat.le_refl _) _
      have kq := Blk.new wr #[.int .u32 1] 75
      have HL := hid (left_nat (nat_one kq) (by rw [nlen_one]; decide) i (by omega))
      rw [Nat.one_mul] at HL
      have k1 := k1.later gg
      have k2 := k2.later gg
      have hG := hG.below gg
      have hb := hb.trans (gg.mono hszr)
      clear gg kq
      go_wp2_with fail
      generalize wr.alloc (.cells #[.int .u32 1] 75) = w3 at *
      (with_reducible refine HL.out.mono ?_); rintro e w4 ⟨l, rfl, hlo, gg⟩
      obtain ⟨la, lc, rfl⟩ := hlo.shape
      have k1 := k1.later gg
      have k2 := k2.later gg
      have hG := hG.below gg
      have hb := hb.trans (gg.mono hb.size)
      clear gg
      have HP := hid (plus_nat hG.rep hlo.nat (by omega) (by omega))
      have hnl := nlen_add_le G (2 ^ i)
      go_wp2_with fail
      (with_reducible refine HP.out.mono ?_); rintro e w5 ⟨nx, rfl, hnx, gg⟩
      obtain ⟨na, nc, rfl⟩ := hnx.shape
      have hlt4 := k2.lt
      have hN5 := NatA.of_own (B := w.heap.size + 1) hnx hlt4
      have k1 := k1.later gg
      have k2 := k2.later gg
      have hG := hG.below gg
      have hb := hb.trans (gg.mono hb.size)
      clear gg hlo hnx
      have h1r := h1.below hb
      obtain ⟨⟨p1, p2, p3⟩, _⟩ := k1.three
      go_wp2_with fail
      clear p1 p2 p3
      have k1 := k1.drew
      have k2 := k2.drew
      have h1r := h1r.below ((Below.refl w5.heap.size w5).drew)
      have hG := hG.below ((Below.refl w5.heap.size w5).drew)
      have hN5 := hN5.below ((Below.refl w5.heap.size w5).drew)
      have hb := hb.drew
      refine U_begin (late := fun i => decide (6 ≤ i)) (S := fun u => Blk u w.heap.size #[.slice a1 (nlen N) c1, .bool s, .bool false] 49) (by kernel_rfl) ?_
      generalize w5.drew = wd at *
      refine U_take2 4 (i := 0) (v := .slice na (nlen (G + 2 ^ i)) nc) rfl (by kernel_rfl) (by kernel_rfl) (by kernel_rfl) (by kernel_rfl) (by kernel_rfl) (fun _ _ _ h => h) (.inl ⟨rfl, fun u hu => (by go_simp)⟩) k1 ?_
      refine U_take2 4 (i := 1) (v := .slice na (nlen (G + 2 ^ i)) nc) rfl (by kernel_rfl) (by kernel_rfl) (by kernel_rfl) (by kernel_rfl) (by kernel_rfl) (fun _ _ _ h => h) (.inl ⟨rfl, fun u hu => (by go_simp)⟩) k1 ?_
      refine U_take2 4 (i := 3) (v := .pointer (some ⟨w.heap.size, 0, none⟩)) rfl (by kernel_rfl) (by kernel_rfl) (by kernel_rfl) (by kernel_rfl) (by kernel_rfl) (fun _ _ _ h => h) (.inl ⟨rfl, fun u hu => (by go_simp)⟩) k1 ?_
      refine U_take2 4 (i := 4) (v := .slice a1 (nlen N) c1) rfl (by kernel_rfl) (by kernel_rfl) (by kernel_rfl) (by kernel_rfl) (by kernel_rfl) (fun _ _ _ h => h) (.inl ⟨rfl, fun u hu => (by obtain ⟨⟨h1, h2, h3⟩, _⟩ := hu.three; go_simp)⟩) k1 ?_
      refine U_step (j := 2) (by kernel_rfl) rfl (fun K hK => ?_)
      go_simp
      have hc := hid (times_nat hN5.rep hN5.rep (by omega) (by omega))
      (with_reducible refine hc.out.mono ?_); rintro e w6 ⟨t, rfl, ht, gg⟩
      clear hc
      obtain ⟨ta, tc, rfl⟩ := ht.shape
      have k1 := k1.later gg
      have k2 := k2.later gg
      have hG := hG.below gg
      have hN5 := hN5.below gg
      have h1r := h1r.below gg
      have hb := hb.trans (gg.mono hb.size)
      refine hK.out _ _ (.inr k1) ?_
      clear hK K gg
      have hnm := nlen_mul_le (G + 2 ^ i) (G + 2 ^ i)
      refine U_step (j := 5) (by kernel_rfl) rfl (fun K hK => ?_)
      go_simp
      have hc := hid (compare_nat ht.nat h1r (by omega) (by omega))
      (with_reducible refine hc.out.mono ?_); rintro e w7 ⟨rfl, rfl⟩
      clear hc
      refine hK.out _ _ (.inr k1) ?_
      clear hK K
      refine U_step (j := 6) (by kernel_rfl) rfl (fun K hK => ?_)
      go_simp
      refine hK.out _ _ (.inl rfl) ?_
      clear hK K
      refine U_done (by kernel_rfl) ?_ _
      by_cases hle : (G + 2 ^ i) * (G + 2 ^ i) ≤ N
      · have hc : cmpN ((G + 2 ^ i) * (G + 2 ^ i)) N ≤ 0 := by
          unfold cmpN
          by_cases h1 : (G + 2 ^ i) * (G + 2 ^ i) < N
          · rw [if_pos h1]; decide
          · rw [if_neg h1, if_neg (by omega)]; decide
        have HLE := hid hle
        have HN2 := hid (root_bit N G i HG1.out HG2.out hle)
        clear hle hnm hnl
        generalize cmpN ((G + 2 ^ i) * (G + 2 ^ i)) N = C at *
        go_wp2
        go_roundw
        case rel => exact ⟨i, G + 2 ^ i, by go_num, by omega, HLE.out, HN2.out, hN5, k1, k2, hb⟩
        case measure => simp [intOf] <;> omega
      · have hc : ¬ cmpN ((G + 2 ^ i) * (G + 2 ^ i)) N ≤ 0 := by
          unfold cmpN
          rw [if_neg (by omega), if_pos (by omega)]; decide
        have HN2 := hid (show N < (G + 2 ^ i) * (G + 2 ^ i) by omega)
        clear hle hnm hnl
        generalize cmpN ((G + 2 ^ i) * (G + 2 ^ i)) N = C at *
        go_wp2
        go_roundw
        case rel => exact ⟨i, G, by go_num, by omega, HG1.out, HN2.out, hG, k1, k2, hb⟩
        case measure => simp [intOf] <;> omega
theorem root_fn (a : List UInt8) (ha : a.length ≤ 1000000000) (w : World) :
    Calls Tryz.prog 46 #[.string ⟨a.toArray⟩] w fun e w' => e = .returned (.tuple #[.string ⟨(rootRes a).1.toArray⟩, .int .i64 (rootRes a).2]) ∧ Below w.heap.size w w' := by
  have hc := hid (one_fn a ha 110 111 #[] #[] (rootE (pVal a)) ((rootN (pVal a).natAbs : Nat) : Int) w w.heap.size (Nat.le_refl _) (enters_of Tryz.func110 (by kernel_rfl) rfl) (enters_of Tryz.func111 (by kernel_rfl) rfl)
    (fun _ w1 v _ h1 => root1 h1)
    (fun _ _ _ w1 v hb h1 h2 => (root2 h1 h2).mono fun e w' h => by
      obtain ⟨u, rfl, h3, h4⟩ := h
      exact ⟨u, rfl, RNum.of_int h3 (by rw [Int.natAbs_natCast]; have := nlen_mono (rootN_le (pVal a).natAbs); omega), h4.mono hb.size⟩))
  go_enter Tryz.func46, Tryz.ntmps46
  go_wp2_with fail
  (with_reducible refine hc.out.mono ?_); rintro e w1 ⟨rfl, hb1⟩
  go_wp2
  go_ret2
  exact ⟨rfl, hb1⟩
end Go.Proofs.YtkhgoeippamobaaGreatDoor
/-
  The reference: the product of rows that may have zeros at their end.
-/
namespace Go.Proofs.YtkhgoeippamobaaGreatDoor
open Go.RowKit
theorem Row.shapeK {ik : IntKind} {w : World} {v : Value} {n : Nat} {f : Nat → Nat} (h : Row ik w v n f) : ∃ a cap, v = .slice a n cap := by
  obtain ⟨a, cap, rfl, _⟩ := h
  exact ⟨a, cap, rfl⟩
theorem sX_allK (m n km : Nat) (h : m < 10 ^ km) : sX m n km = m * n := by
  unfold sX; rw [Nat.mod_eq_of_lt h]
theorem mulX_ltK (m n km kn : Nat) (hm : m < 10 ^ km) (hn : n < 10 ^ kn) : m * n < 10 ^ (km + kn) := by
  rw [Nat.pow_add]; exact Nat.mul_lt_mul'' hm hn
theorem digK_fn {v : Value} {n k : Nat} {w : World} (hnk : n < 10 ^ k) (h : Row .i64 w v k (dgt 10 n)) (hl : k ≤ 1000000000) (i : Nat) (hi : i ≤ 1000000000) :
    Calls Tryz.prog 130 #[v, .int .i64 i] w fun e w' => e = .returned (.int .i64 (dgt 10 n i)) ∧ w' = w := by
  obtain ⟨a, cap, rfl, hc, hcell⟩ := h
  by_cases hlt : i < k
  · obtain ⟨b, off, rfl, _, hc0⟩ := hcell (by omega)
    exact dig_in b off k cap i _ w hlt (by omega) (hc0 i hlt)
  · have := dig_out a k cap i w (by omega) (by omega)
    rw [dgt_high n k i hnk (by omega)]
    exact this
set_option maxRecDepth 100000 in
set_option maxHeartbeats 4000000 in
theorem timesK_fn {v u : Value} {m n km kn : Nat} {w : World} (hv : Row .i64 w v km (dgt 10 m)) (hu : Row .i64 w u kn (dgt 10 n)) (hm : km ≤ 10000000) (hn : kn ≤ 10000000) (hmk : m < 10 ^ km) (hnk : n < 10 ^ kn) :
    Calls Tryz.prog 115 #[v, u] w (FreshDec (m * n) w) := by
  obtain ⟨a, cap, rfl⟩ := hv.shapeK
  obtain ⟨a', cap', rfl⟩ := hu.shapeK
  have hkm := (dlen_le_iff 10 m km (by decide)).2 hmk
  have hkn := (dlen_le_iff 10 n kn (by decide)).2 hnk
  have HMK := hid hmk
  have HNK := hid hnk
  clear hmk hnk
  go_enter Tryz.func115, Tryz.ntmps115
  go_wp2_with (at_make; refine mk_i64 _ rfl _ _ rfl w.heap.size (km + kn) _ _ rfl rfl (by simp) (by simp) (by omega) (Nat.le_refl _) ?_; intro w1 hown hb hz hb1)
  go_loopw [18] (fun i wr => ∃ j : Nat, i = .int .i64 j ∧ j ≤ km ∧ Own .i64 3 wr w.heap.size (.slice (some ⟨w.heap.size, 0, none⟩) (km + kn) (km + kn)) (km + kn) (dgt 10 (sX m n j)) ∧ Below w.heap.size w wr)
    (fun i _ => km - (intOf i).toNat)
  case atStart => exact ⟨0, rfl, Nat.zero_le _, hown.congr (fun t _ => by rw [sX_zero]; simp [dgt]), hb⟩
  case round =>
    obtain ⟨i, rfl, hi, hown1, hbr⟩ := hrel
    by_cases hlt : i < km
    · obtain ⟨a1, cap1, hv1, _, hcell⟩ := hv.below hbr
      simp only [Value.slice.injEq, true_and] at hv1
      obtain ⟨rfl, rfl⟩ := hv1
      obtain ⟨b, off, rfl, _, hc0⟩ := hcell (by omega)
      have hcj := hc0 i hlt
      have hd := dgt_lt 10 m i (by decide)
      clear hown hb hz hb1
      obtain ⟨wo, rfl⟩ : ∃ wo : World, wo = wr := ⟨_, rfl⟩
      go_wp2
      go_loopw [7, 8] (fun carry kv wr => ∃ k : Nat, kv = .int .i64 k ∧ i + k ≤ km + kn ∧ carry = .int .i64 (cX m n i k) ∧ Own .i64 3 wr w.heap.size (.slice (some ⟨w.heap.size, 0, none⟩) (km + kn) (km + kn)) (km + kn) (fun t => if t < i + k then dgt 10 (tX m n i k) t else dgt 10 (sX m n i) t) ∧ Below w.heap.size w wr)
        (fun _ k _ => km + kn + 1 - (intOf k).toNat)
      case atStart =>
        refine ⟨0, rfl, by omega, by rw [cX_zero]; rfl, hown1.congr (fun t _ => ?_), hbr⟩
        by_cases e : t < i
        · rw [if_pos (by omega), tX_start m n i t e]
        · rw [if_neg (by omega)]
      case round =>
        obtain ⟨k, rfl, hk, rfl, hown2, hbr2⟩ := hrel
        have hsz2 := hbr2.size
        by_cases hlt2 : k < kn
        · skip
          have hoc := hown2.cell (i + k) (by omega)
          rw [if_neg (by omega)] at hoc
          have hof := hown2.free (i + k)
          have hdn := dgt_lt 10 n k (by decide)
          have hds := dgt_lt 10 (sX m n i) (i + k) (by decide)
          have hcx := cX_lt m n i k
          have hpp : dgt 10 m i * dgt 10 n k ≤ 9 * 9 := Nat.mul_le_mul (by omega) (by omega)
          have hpc : ((dgt 10 m i : Nat) : Int) * ((dgt 10 n k : Nat) : Int) = ((dgt 10 m i * dgt 10 n k : Nat) : Int) := by rw [Int.natCast_mul]
          have HU1 := hid (uX_mod m n i k)
          have HU2 := hid (uX_div m n i k)
          have HU := hid (show uX m n i k = dgt 10 (sX m n i) (i + k) + dgt 10 m i * dgt 10 n k + cX m n i k from rfl)
          have hcd := hid (fun (q : Nat) => digK_fn HNK.out (hu.below (hbr2.trans (below_drewN (Below.refl w.heap.size wr) q))) (by omega) k (by omega))
          have hwik : IntKind.i64.wrap ((i : Int) + (k : Int)) = ((i + k : Nat) : Int) := by rw [← Int.natCast_add]; exact wrap_i64_nat _ (by omega)
          have hw2 : IntKind.i64.wrap (((dgt 10 m i : Nat) : Int) * ((dgt 10 n k : Nat) : Int)) = ((dgt 10 m i * dgt 10 n k : Nat) : Int) := by rw [hpc]; exact wrap_i64_nat _ (by omega)
          have hw3 : IntKind.i64.wrap (((dgt 10 (sX m n i) (i + k) : Nat) : Int) + ((dgt 10 m i * dgt 10 n k : Nat) : Int)) = ((dgt 10 (sX m n i) (i + k) + dgt 10 m i * dgt 10 n k : Nat) : Int) := by rw [← Int.natCast_add]; exact wrap_i64_nat _ (by omega)
          have hw4 : IntKind.i64.wrap (((dgt 10 (sX m n i) (i + k) + dgt 10 m i * dgt 10 n k : Nat) : Int) + ((cX m n i k : Nat) : Int)) = ((uX m n i k : Nat) : Int) := by rw [← Int.natCast_add, HU.out]; exact wrap_i64_nat _ (by omega)
          have hul : uX m n i k < 1000 := by rw [HU.out]; omega
          have hix1 : 0 ≤ (i : Int) + (k : Int) := by omega
          have hix2 : (i : Int) + (k : Int) < (km : Int) + (kn : Int) := by omega
          have hix3 : ((i : Int) + (k : Int)).toNat = i + k := by omega
          have hix4 : (0 ≤ (i : Int) + (k : Int) ∧ (i : Int) + (k : Int) < (km : Int) + (kn : Int)) = True := by simp [hix1, hix2]
          have hik : i + k < km + kn := by omega
          clear hcell hc0 hcj hpc
          obtain ⟨a2, cap2, hv2, _, hcell2⟩ := hv.below hbr2
          simp only [Value.slice.injEq, true_and] at hv2
          obtain ⟨rfl, rfl⟩ := hv2
          obtain ⟨b2, off2, hbo, _, hc2⟩ := hcell2 (by omega)
          simp only [Option.some.injEq, Addr.mk.injEq, and_true] at hbo
          obtain ⟨rfl, rfl⟩ := hbo
          have hcj := hc2 i hlt
          clear hc2 hcell2
          go_wp2_with fail
          go_quiet ((go_at_call 130; exact Calls.quiet_of_same (hcd.out _)))
          have hX : ((uX m n i k : Nat) : Int) = ((dgt 10 (sX m n i) (i + k) : Nat) : Int) + ((dgt 10 m i : Nat) : Int) * ((dgt 10 n k : Nat) : Int) + ((cX m n i k : Nat) : Int) := by rw [HU.out]; simp
          have HX := hid hX
          clear hX
          go_wp2
          go_roundw
          case rel =>
            refine ⟨k + 1, by go_num, by omega, ?_, ?_, (below_drewN hbr2 nq).setCell (Nat.le_refl _) _⟩
            · rw [← HU2.out, ← HX.out]; rfl
            · rw [← HX.out, show ((uX m n i k : Nat) : Int) % 10 = ((uX m n i k % 10 : Nat) : Int) by omega, HU1.out]
              have hown3 : Own .i64 3 (wr.drewN nq) w.heap.size (.slice (some ⟨w.heap.size, 0, none⟩) (km + kn) (km + kn)) (km + kn) (fun t => if t < i + k then dgt 10 (tX m n i k) t else dgt 10 (sX m n i) t) := hown2
              refine (hown3.store (i + k) _).congr ?_
              intro t ht
              show (if t = i + k then _ else if t < i + k then _ else _) = _
              by_cases e : t = i + k
              · rw [if_pos e, if_pos (by omega), e]
              · rw [if_neg e]
                by_cases e2 : t < i + k
                · rw [if_pos e2, if_pos (by omega), tX_low m n i k t e2]
                · rw [if_neg e2, if_neg (by omega)]
          case measure => simp [intOf] <;> omega
        · by_cases hc0' : 0 < cX m n i k
          · have hin := cX_in m n i k (by omega) hc0'
            have hoc := hown2.cell (i + k) (by omega)
            rw [if_neg (by omega)] at hoc
            have hof := hown2.free (i + k)
            have hdn := dgt_lt 10 n k (by decide)
            have hds := dgt_lt 10 (sX m n i) (i + k) (by decide)
            have hcx := cX_lt m n i k
            have hpp : dgt 10 m i * dgt 10 n k ≤ 9 * 9 := Nat.mul_le_mul (by omega) (by omega)
            have hpc : ((dgt 10 m i : Nat) : Int) * ((dgt 10 n k : Nat) : Int) = ((dgt 10 m i * dgt 10 n k : Nat) : Int) := by rw [Int.natCast_mul]
            have HU1 := hid (uX_mod m n i k)
            have HU2 := hid (uX_div m n i k)
            have HU := hid (show uX m n i k = dgt 10 (sX m n i) (i + k) + dgt 10 m i * dgt 10 n k + cX m n i k from rfl)
            have hcd := hid (fun (q : Nat) => digK_fn HNK.out (hu.below (hbr2.trans (below_drewN (Below.refl w.heap.size wr) q))) (by omega) k (by omega))
            have hwik : IntKind.i64.wrap ((i : Int) + (k : Int)) = ((i + k : Nat) : Int) := by rw [← Int.natCast_add]; exact wrap_i64_nat _ (by omega)
            have hw2 : IntKind.i64.wrap (((dgt 10 m i : Nat) : Int) * ((dgt 10 n k : Nat) : Int)) = ((dgt 10 m i * dgt 10 n k : Nat) : Int) := by rw [hpc]; exact wrap_i64_nat _ (by omega)
            have hw3 : IntKind.i64.wrap (((dgt 10 (sX m n i) (i + k) : Nat) : Int) + ((dgt 10 m i * dgt 10 n k : Nat) : Int)) = ((dgt 10 (sX m n i) (i + k) + dgt 10 m i * dgt 10 n k : Nat) : Int) := by rw [← Int.natCast_add]; exact wrap_i64_nat _ (by omega)
            have hw4 : IntKind.i64.wrap (((dgt 10 (sX m n i) (i + k) + dgt 10 m i * dgt 10 n k : Nat) : Int) + ((cX m n i k : Nat) : Int)) = ((uX m n i k : Nat) : Int) := by rw [← Int.natCast_add, HU.out]; exact wrap_i64_nat _ (by omega)
            have hul : uX m n i k < 1000 := by rw [HU.out]; omega
            have hix1 : 0 ≤ (i : Int) + (k : Int) := by omega
            have hix2 : (i : Int) + (k : Int) < (km : Int) + (kn : Int) := by omega
            have hix3 : ((i : Int) + (k : Int)).toNat = i + k := by omega
            have hix4 : (0 ≤ (i : Int) + (k : Int) ∧ (i : Int) + (k : Int) < (km : Int) + (kn : Int)) = True := by simp [hix1, hix2]
            have hik : i + k < km + kn := by omega
            clear hcell hc0 hcj hpc
            obtain ⟨a2, cap2, hv2, _, hcell2⟩ := hv.below hbr2
            simp only [Value.slice.injEq, true_and] at hv2
            obtain ⟨rfl, rfl⟩ := hv2
            obtain ⟨b2, off2, hbo, _, hc2⟩ := hcell2 (by omega)
            simp only [Option.some.injEq, Addr.mk.injEq, and_true] at hbo
            obtain ⟨rfl, rfl⟩ := hbo
            have hcj := hc2 i hlt
            clear hc2 hcell2
            go_wp2_with fail
            go_quiet ((go_at_call 130; exact Calls.quiet_of_same (hcd.out _)))
            have hX : ((uX m n i k : Nat) : Int) = ((dgt 10 (sX m n i) (i + k) : Nat) : Int) + ((dgt 10 m i : Nat) : Int) * ((dgt 10 n k : Nat) : Int) + ((cX m n i k : Nat) : Int) := by rw [HU.out]; simp
            have HX := hid hX
            clear hX
            go_wp2
            go_roundw
            case rel =>
              refine ⟨k + 1, by go_num, by omega, ?_, ?_, (below_drewN hbr2 nq).setCell (Nat.le_refl _) _⟩
              · rw [← HU2.out, ← HX.out]; rfl
              · rw [← HX.out, show ((uX m n i k : Nat) : Int) % 10 = ((uX m n i k % 10 : Nat) : Int) by omega, HU1.out]
                have hown3 : Own .i64 3 (wr.drewN nq) w.heap.size (.slice (some ⟨w.heap.size, 0, none⟩) (km + kn) (km + kn)) (km + kn) (fun t => if t < i + k then dgt 10 (tX m n i k) t else dgt 10 (sX m n i) t) := hown2
                refine (hown3.store (i + k) _).congr ?_
                intro t ht
                show (if t = i + k then _ else if t < i + k then _ else _) = _
                by_cases e : t = i + k
                · rw [if_pos e, if_pos (by omega), e]
                · rw [if_neg e]
                  by_cases e2 : t < i + k
                  · rw [if_pos e2, if_pos (by omega), tX_low m n i k t e2]
                  · rw [if_neg e2, if_neg (by omega)]
            case measure => simp [intOf] <;> omega
          · have hz : cX m n i k = 0 := by omega
            have hE := hown2.congr (g := dgt 10 (sX m n (i + 1))) (fun t ht => by
              show (if t < i + k then _ else _) = _
              by_cases e : t < i + k
              · rw [if_pos e, tX_end m n i k (by omega)]
              · rw [if_neg e, tX_rest m n i k t (by omega) hz (by omega)])
            clear hown2
            go_wp2
            go_roundw
            case rel => exact ⟨i + 1, by go_num, by omega, hE, hbr2⟩
            case measure => simp [intOf] <;> omega
    · obtain rfl : i = km := by omega
      rw [sX_allK m n _ HMK.out] at hown1
      have hN := mulX_ltK m n _ kn HMK.out HNK.out
      have hdl := (dlen_le_iff 10 _ _ (by decide)).2 hN
      have hct := hid (trimmedD_row hown1.row (by omega) hN)
      go_wp2_with fail
      (with_reducible refine hct.out.mono ?_); rintro e w' ⟨rfl, rfl⟩
      go_wp2
      go_ret
      exact ⟨_, rfl, hown1.cut hdl, hbr⟩
end Go.Proofs.YtkhgoeippamobaaGreatDoor
/-
  The reference: Root.
-/
namespace Go.Proofs.YtkhgoeippamobaaGreatDoor
open Go.RowKit
theorem Cut.sgn {z' z : Int} (h : Cut z' z) : decide (z' < 0) = decide (z < 0) := by
  rcases h with rfl | ⟨_, _, h⟩
  · rfl
  · exact h
theorem dgt_at (R i d : Nat) (hR : R % 10 ^ (i + 1) = 0) (hd : d < 10) : dgt 10 (R + d * 10 ^ i) i = d := by
  obtain ⟨q, rfl⟩ := Nat.dvd_of_mod_eq_zero hR
  have hp : 0 < 10 ^ i := Nat.pow_pos (by decide)
  unfold dgt
  rw [Nat.pow_succ, Nat.mul_assoc, Nat.mul_comm d, Nat.mul_add_div hp, Nat.mul_div_cancel_left _ hp]
  omega
theorem dgt_off (R i d t : Nat) (hR : R % 10 ^ (i + 1) = 0) (hd : d < 10) (ht : t ≠ i) : dgt 10 (R + d * 10 ^ i) t = dgt 10 R t := by
  obtain ⟨q, rfl⟩ := Nat.dvd_of_mod_eq_zero hR
  have hp : ∀ k, 0 < 10 ^ k := fun k => Nat.pow_pos (by decide)
  unfold dgt
  rcases Nat.lt_or_gt_of_ne ht with h | h
  · have e1 : 10 ^ (i + 1) = 10 ^ t * (10 * 10 ^ (i - t)) := by rw [← Nat.pow_succ', ← Nat.pow_add]; congr 1; omega
    have e2 : 10 ^ i = 10 ^ t * (10 * 10 ^ (i - t - 1)) := by rw [← Nat.pow_succ', ← Nat.pow_add]; congr 1; omega
    rw [e1, e2, Nat.mul_left_comm d, Nat.mul_assoc (10 ^ t), Nat.mul_add_div (hp t), Nat.mul_div_cancel_left _ (hp t), Nat.mul_div_cancel_left _ (hp t)]
    generalize 10 ^ (i - t) = a
    generalize 10 ^ (i - t - 1) = b
    rw [Nat.mul_assoc, Nat.mul_left_comm d 10, ← Nat.mul_add, Nat.mul_mod_right, Nat.mul_mod_right]
  · have e : 10 ^ t = 10 ^ (i + 1) * 10 ^ (t - (i + 1)) := by rw [← Nat.pow_add]; congr 1; omega
    have hs : d * 10 ^ i < 10 ^ (i + 1) := by rw [Nat.pow_succ, Nat.mul_comm (10 ^ i)]; exact Nat.mul_lt_mul_of_pos_right hd (hp i)
    rw [e, ← Nat.div_div_eq_div_mul, ← Nat.div_div_eq_div_mul, Nat.mul_add_div (hp (i + 1)), Nat.div_eq_of_lt hs, Nat.mul_div_cancel_left _ (hp (i + 1)), Nat.add_zero]
theorem low_room (R i L : Nat) (hR : R % 10 ^ (i + 1) = 0) (hL : R < 10 ^ L) (hi : i < L) : R + 10 ^ (i + 1) ≤ 10 ^ L := by
  obtain ⟨q, rfl⟩ := Nat.dvd_of_mod_eq_zero hR
  have e : 10 ^ L = 10 ^ (i + 1) * 10 ^ (L - (i + 1)) := by rw [← Nat.pow_add]; congr 1; omega
  rw [e] at hL ⊢
  have h1 := Nat.lt_of_mul_lt_mul_left hL
  rw [← Nat.mul_succ]
  exact Nat.mul_le_mul_left _ h1
theorem dig_lt (R i L d : Nat) (hR : R % 10 ^ (i + 1) = 0) (hL : R < 10 ^ L) (hi : i < L) (hd : d < 10) : R + d * 10 ^ i < 10 ^ L := by
  have h1 := low_room R i L hR hL hi
  have h2 : d * 10 ^ i < 10 ^ (i + 1) := by rw [Nat.pow_succ, Nat.mul_comm (10 ^ i)]; exact Nat.mul_lt_mul_of_pos_right hd (Nat.pow_pos (by decide))
  omega
theorem dig_mod (R i d : Nat) (hR : R % 10 ^ (i + 1) = 0) : (R + d * 10 ^ i) % 10 ^ i = 0 := by
  obtain ⟨q, rfl⟩ := Nat.dvd_of_mod_eq_zero hR
  rw [Nat.pow_succ, Nat.mul_assoc, Nat.mul_comm d, ← Nat.mul_add, Nat.mul_mod_right]
theorem dig_next (R i d : Nat) : R + d * 10 ^ i + 10 ^ i = R + (d + 1) * 10 ^ i := by rw [Nat.add_mul, Nat.one_mul, Nat.add_assoc]
theorem dig_ten (R i : Nat) : R + (9 + 1) * 10 ^ i = R + 10 ^ (i + 1) := by rw [Nat.pow_succ, Nat.mul_comm (10 ^ i)]
set_option maxRecDepth 100000 in
set_option maxHeartbeats 8000000 in
theorem rootR_fn (a : List UInt8) (ha : a.length ≤ 2000000) (w : World) :
    Calls Tryz.prog 47 #[.string ⟨a.toArray⟩] w fun e w' => e = .returned (.tuple #[.string ⟨(rootRes a).1.toArray⟩, .int .i64 (rootRes a).2]) ∧ Below w.heap.size w w' := by
  have hB := hid (oneR_fn a ha w)
  unfold OneQ at hB
  clear ha
  cases hok : pOK a with
  | false =>
    have HR := hid (show rootRes a = ([], 2) by unfold rootRes oneRes; rw [if_neg (by rw [hok]; decide)])
    rw [hok] at hB
    have hB := hid hB.out
    clear hok
    go_enter Tryz.func47, Tryz.ntmps47
    go_wp2_with fail
    (with_reducible refine hB.out.mono ?_); rintro e w1 ⟨g1, s1, n1, c1, rfl, hb1, -⟩
    have hsz := hb1.size
    go_wp2
    go_ret2
    exact ⟨by rw [HR.out]; rfl, hb1.alloc hsz _⟩
  | true =>
    have HR := hid (show rootRes a = if rootE (pVal a) ≠ 0 then ([], rootE (pVal a)) else if big600 ≤ (pVal a).natAbs then ([], 4) else resOf ((rootN (pVal a).natAbs : Nat) : Int) by unfold rootRes oneRes; rw [if_pos hok])
    rw [hok] at hB
    have hB := hid hB.out
    clear hok
    go_enter Tryz.func47, Tryz.ntmps47
    go_wp2_with fail
    (with_reducible refine hB.out.mono ?_); rintro e w1 ⟨g1, s1, n1, c1, rfl, hb, hn⟩
    obtain ⟨x', hx, hlx, hcx⟩ := hn (by first | rfl | trivial)
    have HCX := hid hcx
    clear hn hB hcx
    have kX := Blk.new w1 #[.bool g1, .slice s1 n1 c1] 56
    have gg : Below w1.heap.size w1 (w1.alloc (.cells #[.bool g1, .slice s1 n1 c1] 56)) := (Below.refl _ _).alloc (Nat.le_refl _) _
    replace hx := hx.below gg
    replace hb := hb.trans (gg.mono hb.size)
    clear gg
    obtain ⟨⟨p1, p2⟩, q1, q2⟩ := kX.two
    obtain ⟨s1', c1', hxe, hxrep⟩ := hx.shape
    simp only [Value.agg.injEq, Array.mk.injEq, List.cons.injEq, Value.bool.injEq, Value.slice.injEq, and_true] at hxe
    obtain ⟨rfl, rfl, rfl, rfl⟩ := hxe
    have HSG := hid (show decide (x' < 0) = decide (pVal a < 0) from HCX.out.sgn)
    by_cases hneg : x' < 0
    · have hpn : pVal a < 0 := by
        have h := HSG.out
        rw [decide_eq_true hneg] at h
        exact of_decide_eq_true h.symm
      have HR2 := hid (show rootRes a = ([], 7) by rw [HR.out]; unfold rootE; rw [if_pos hpn, if_pos (by decide)])
      rw [decide_eq_true hneg] at p1
      rw [decide_eq_true hneg] at *
      clear hneg hpn
      go_wp2
      go_ret2
      exact ⟨by rw [HR2.out]; rfl, hb⟩
    · have hpn : ¬ pVal a < 0 := by
        have h := HSG.out
        rw [decide_eq_false hneg] at h
        exact of_decide_eq_false h.symm
      have HR2 := hid (show rootRes a = if big600 ≤ (pVal a).natAbs then ([], 4) else resOf ((rootN (pVal a).natAbs : Nat) : Int) by rw [HR.out]; unfold rootE; rw [if_neg hpn, if_neg (by decide)])
      have HNG := hid hneg
      have HL := hid (long_fn hx (by omega))
      have HLB := hid (Cut.big HCX.out)
      rw [HLB.out] at HL
      rw [decide_eq_false hneg] at *
      clear hneg hpn HR HSG
      go_wp2_with fail
      (with_reducible refine HL.out.mono ?_); rintro e w2 ⟨rfl, gg⟩
      replace hx := hx.below gg
      replace hb := hb.trans (gg.mono hb.size)
      replace kX := kX.later gg
      generalize w1.heap.size = B1 at *
      clear gg p1 p2 q1 q2 HL
      by_cases hbig : big600 ≤ (pVal a).natAbs
      · have HR3 := hid (show rootRes a = ([], 4) by rw [HR2.out, if_pos hbig])
        rw [decide_eq_true hbig]
        clear hbig
        go_wp2
        go_ret2
        exact ⟨by rw [HR3.out]; rfl, hb⟩
      · have ex : x' = pVal a := HCX.out.small (by omega)
        have HR3 := hid (show rootRes a = resOf ((rootN x'.natAbs : Nat) : Int) by rw [HR2.out, if_neg hbig, ex])
        have hxs : x'.natAbs < big600 := by rw [ex]; omega
        have hn6 := (digits_600 x'.natAbs).2 hxs
        have HXS := hid hxs
        have hxr := hx.rep
        have hlt10 := dlen_lt 10 x'.natAbs (by decide)
        rw [decide_eq_false hbig]
        clear hbig HR2 HCX HLB ex hxs hx
        generalize x'.natAbs = N at *
        generalize hn1 : dlen 10 N = n1 at *
        have HN1 := hid hn1
        obtain ⟨L, hL, hL2⟩ : ∃ L : Nat, ((n1 : Int) + 1) / 2 = (L : Int) ∧ L = (n1 + 1) / 2 := ⟨(n1 + 1) / 2, by omega, rfl⟩
        have hNL : N < (0 + 10 ^ L) * (0 + 10 ^ L) := by
          rw [Nat.zero_add, ← Nat.pow_add]
          exact Nat.lt_of_lt_of_le hlt10 (Nat.pow_le_pow_right (by decide) (by omega))
        have HNL := hid hNL
        have hLb : L ≤ 301 := by omega
        clear hlt10 hNL hn1 hL2
        obtain ⟨⟨p1, p2⟩, q1, q2⟩ := kX.two
        go_wp2_with (at_make; refine mk_i64 _ rfl _ _ rfl w2.heap.size L _ _ rfl rfl (by omega) (by omega) (by omega) (Nat.le_refl _) ?_; intro w3 hown hb3 hz3 hb3'; refine Hid.out ?_)
        have kX3 := kX.later hb3'
        have hbw3 := hb.trans (hb3'.mono hb.size)
        generalize hG : w2.heap.size = G at *
        have hsG : w.heap.size ≤ G := by rw [← hG]; exact hb.size
        have hltX : B1 < G := by rw [← hG]; exact kX.lt
        have hG3 : G ≤ w3.heap.size := by omega
        have hxw : ∀ u, Below G w3 u → DecRep u (.slice s1 n1 c1) N := fun u h => hxr.below (by rw [hG]; exact hb3'.trans h)
        clear p1 p2 q1 q2 hb3 hb3' hz3 hL hxr
        refine hid ?_
        go_wp2_with fail
        go_loopw [7] (fun iv wr => ∃ j R : Nat, iv = .int .i64 ((j : Int) - 1) ∧ j ≤ L ∧ R % 10 ^ j = 0 ∧ R < 10 ^ L ∧ R * R ≤ N ∧ N < (R + 10 ^ j) * (R + 10 ^ j) ∧ Own .i64 3 wr G (.slice (some ⟨G, 0, none⟩) L L) L (dgt 10 R) ∧ Below G w3 wr) (fun iv _ => (intOf iv + 1).toNat)
        case atStart => exact ⟨L, 0, by go_num, Nat.le_refl _, Nat.zero_mod _, Nat.pow_pos (by decide), Nat.zero_le _, HNL.out, hown.congr (fun t _ => by simp [dgt]), Below.refl _ _⟩
        case round =>
          obtain ⟨j, R, rfl, hj, hr0, hr1, hr2, hr3, hown, hbr⟩ := hrel
          have HR0 := hid hr0
          have HR1 := hid hr1
          have HRR := hid hr2
          have HRS := hid hr3
          clear hr0 hr1 hr2 hr3
          have hbw := hbw3.trans (hbr.mono hsG)
          by_cases hj0 : j = 0
          · subst hj0
            have HE := hid (rootN_eq N R HRR.out (by have := HRS.out; rwa [Nat.pow_zero] at this))
            have HTR := hid (trimmedD_own hown (by omega) HR1.out)
            have hRN : R < big600 := Nat.lt_of_le_of_lt (Nat.le_trans (Nat.le_mul_self R) HRR.out) HXS.out
            have hRd := (digits_600 R).2 hRN
            have HRF := hid (show rootRes a = (numText 10 R false, 0) by
              rw [HR3.out, HE.out]
              unfold resOf
              rw [Int.natAbs_natCast, if_pos hRN, decide_eq_false (by omega)])
            clear hRN
            go_wp2_with fail
            (with_reducible refine HTR.out.mono ?_); rintro e w4 ⟨⟨v, rfl, hv⟩, rfl⟩
            obtain ⟨va, vc, rfl⟩ := hv.dec.shape
            have HNM := hid (num_fn hv.dec (by omega) false)
            rw [Bool.false_and] at HNM
            go_wp2_with fail
            (with_reducible refine HNM.out.mono ?_); rintro e w5 ⟨rfl, gg⟩
            have hD : DNum w5 (.agg #[.bool false, .slice va (dlen 10 R) vc]) ((R : Nat) : Int) := ⟨_, by rw [decide_eq_false (show ¬ ((R : Nat) : Int) < 0 by omega)], by rw [Int.natAbs_natCast]; exact hv.dec.below gg⟩
            have HT := hid (textR_fn hD (by rw [Int.natAbs_natCast]; omega))
            rw [Int.natAbs_natCast, decide_eq_false (show ¬ ((R : Nat) : Int) < 0 by omega)] at HT
            have hbw5 := hbw.trans (gg.mono hbw.size)
            clear gg
            go_wp2_with fail
            (with_reducible refine HT.out.mono ?_); rintro e w6 ⟨rfl, gg⟩
            go_wp2
            go_ret2
            exact ⟨by rw [HRF.out]; rfl, hbw5.trans (gg.mono hbw5.size)⟩
          · obtain ⟨i, rfl⟩ : ∃ i, j = i + 1 := ⟨j - 1, by omega⟩
            have he : ((i + 1 : Nat) : Int) - 1 = i := by omega
            rw [he]
            clear he hj0
            have hiL : i < L := by omega
            obtain ⟨wo, rfl⟩ : ∃ wo : World, wo = wr := ⟨_, rfl⟩
            go_wp2
            go_loopg [] 9 (fun g wr => ∃ d : Nat, g = 9 - d ∧ d ≤ 9 ∧ Hid ((R + d * 10 ^ i) * (R + d * 10 ^ i) ≤ N) ∧ Own .i64 3 wr G (.slice (some ⟨G, 0, none⟩) L L) L (dgt 10 (R + d * 10 ^ i)) ∧ Below G w3 wr)
            case atStart => exact ⟨0, rfl, by decide, hid (by rw [Nat.zero_mul, Nat.add_zero]; exact HRR.out), by rw [Nat.zero_mul, Nat.add_zero]; exact hown, hbr⟩
            case round =>
              obtain ⟨d, hg, hd, HSQ, hown, hbr⟩ := hrel
              obtain rfl := hg.symm
              have hcell := hown.cell i hiL
              have hfree := hown.free i
              rw [dgt_at R i d HR0.out (by omega)] at hcell
              have HMD := hid (dig_mod R i d HR0.out)
              have HLT := hid (dig_lt R i L d HR0.out HR1.out hiL (by omega))
              by_cases hd9 : d = 9
              · subst hd9
                have HNX := hid (show N < (R + 9 * 10 ^ i + 10 ^ i) * (R + 9 * 10 ^ i + 10 ^ i) by rw [dig_next, dig_ten]; exact HRS.out)
                go_wp2
                go_roundw
                case rel => exact ⟨i, R + 9 * 10 ^ i, by go_num, by omega, HMD.out, HLT.out, HSQ.out, HNX.out, hown, hbr⟩
                case measure => simp [intOf] <;> omega
              · have hdi : ((d : Nat) : Int) < 9 := by omega
                have hst := (hown.store i (d + 1)).congr (g := dgt 10 (R + (d + 1) * 10 ^ i)) (fun t ht => by
                  show (if t = i then _ else _) = _
                  by_cases e : t = i
                  · rw [if_pos e, e, dgt_at R i (d + 1) HR0.out (by omega)]
                  · rw [if_neg e, dgt_off R i d t HR0.out (by omega) e, dgt_off R i (d + 1) t HR0.out (by omega) e])
                have hbs := hbr.setCell (p := ⟨G, i, none⟩) (Nat.le_refl _) (.int .i64 ((d + 1 : Nat) : Int))
                have hcast : ((d + 1 : Nat) : Int) = (d : Int) + 1 := by omega
                rw [hcast] at hst hbs
                have HC := hid hcast
                have HL1 := hid (dig_lt R i L (d + 1) HR0.out HR1.out hiL (by omega))
                have hd9' : d + 1 < 10 := by omega
                have HDA := hid (dgt_at R i (d + 1) HR0.out hd9')
                clear hd9 hd hcast hown
                go_wp2_with fail
                clear hcell hfree
                generalize wr.setCell ⟨G, i, none⟩ (.int .i64 ((d : Int) + 1)) = ws at *
                have kX := kX3.below hbs hltX
                replace kX := kX.drew
                replace hst := Own.keep hst (Below.refl ws.heap.size ws).drew (Nat.le_refl _)
                replace hbs := hbs.drew
                have hxs := hxw _ hbs
                refine U_begin (late := fun i => decide (6 ≤ i)) (S := fun u => Blk u B1 #[.bool false, .slice s1 n1 c1] 56) (by kernel_rfl) ?_
                generalize ws.drew = wd at *
                refine U_take2 6 (i := 0) (v := .slice (some ⟨G, 0, none⟩) L L) rfl (by kernel_rfl) (by kernel_rfl) (by kernel_rfl) (by kernel_rfl) (by kernel_rfl) (fun _ _ _ h => h) (.inl ⟨rfl, fun u hu => (by go_simp)⟩) kX ?_
                refine U_take2 6 (i := 1) (v := .slice (some ⟨G, 0, none⟩) L L) rfl (by kernel_rfl) (by kernel_rfl) (by kernel_rfl) (by kernel_rfl) (by kernel_rfl) (fun _ _ _ h => h) (.inl ⟨rfl, fun u hu => (by go_simp)⟩) kX ?_
                refine U_take2 6 (i := 3) (v := .pointer (some ⟨B1, 1, none⟩)) rfl (by kernel_rfl) (by kernel_rfl) (by kernel_rfl) (by kernel_rfl) (by kernel_rfl) (fun _ _ _ h => h) (.inl ⟨rfl, fun u hu => (by go_simp)⟩) kX ?_
                refine U_take2 6 (i := 4) (v := .slice s1 n1 c1) rfl (by kernel_rfl) (by kernel_rfl) (by kernel_rfl) (by kernel_rfl) (by kernel_rfl) (fun _ _ _ h => h) (.inl ⟨rfl, fun u hu => (by obtain ⟨⟨h1, h2⟩, _⟩ := hu.two; go_simp)⟩) kX ?_
                refine U_step (j := 2) (by kernel_rfl) rfl (fun K hK => ?_)
                go_simp
                have hc := hid (timesK_fn hst.row hst.row (by omega) (by omega) HL1.out HL1.out)
                (with_reducible refine hc.out.mono ?_); rintro e w4 ⟨u, rfl, hu, gg⟩
                clear hc
                have hud := OwnDec.dec hu
                obtain ⟨ua, uc, rfl⟩ := hud.shape
                have hsd3 : w3.heap.size ≤ wd.heap.size := hbs.size
                replace hst := Own.keep hst gg (Nat.le_refl _)
                replace kX := kX.later gg
                replace hxs := hxs.below gg
                replace hbs := hbs.trans (gg.mono (Nat.le_trans hG3 hsd3))
                refine hK.out _ _ (.inr kX) ?_
                clear hK K gg
                refine U_step (j := 5) (by kernel_rfl) rfl (fun K hK => ?_)
                go_simp
                have hdl := dlen_mul_le (R + (d + 1) * 10 ^ i) (R + (d + 1) * 10 ^ i)
                have hdl2 := (dlen_le_iff 10 _ L (by decide)).2 HL1.out
                have hc := hid (order_fn hud hxs (by omega) (by rw [HN1.out]; omega))
                (with_reducible refine hc.out.mono ?_); rintro e w5 ⟨rfl, rfl⟩
                clear hc hdl hdl2
                refine hK.out _ _ (.inr kX) ?_
                clear hK K
                refine U_step (j := 6) (by kernel_rfl) rfl (fun K hK => ?_)
                go_simp
                refine hK.out _ _ (.inl rfl) ?_
                clear hK K
                refine U_done (by kernel_rfl) ?_ _
                clear hxs hud hu
                by_cases hgt : N < (R + (d + 1) * 10 ^ i) * (R + (d + 1) * 10 ^ i)
                · have hc : cmpN ((R + (d + 1) * 10 ^ i) * (R + (d + 1) * 10 ^ i)) N = 1 := by unfold cmpN; rw [if_neg (by omega), if_pos hgt]
                  rw [hc]
                  have HNX := hid (show N < (R + d * 10 ^ i + 10 ^ i) * (R + d * 10 ^ i + 10 ^ i) by rw [dig_next]; exact hgt)
                  clear hc hgt
                  have hcell := hst.cell i hiL
                  have hfree := hst.free i
                  rw [HDA.out, HC.out] at hcell
                  have hback := (hst.store i d).congr (g := dgt 10 (R + d * 10 ^ i)) (fun t ht => by
                    show (if t = i then _ else _) = _
                    by_cases e : t = i
                    · rw [if_pos e, e, dgt_at R i d HR0.out (by omega)]
                    · rw [if_neg e, dgt_off R i d t HR0.out (by omega) e, dgt_off R i (d + 1) t HR0.out (by omega) e])
                  have hbb := hbs.setCell (p := ⟨G, i, none⟩) (Nat.le_refl _) (.int .i64 ((d : Nat) : Int))
                  clear hst
                  go_wp2
                  go_roundw
                  case rel => exact ⟨i, R + d * 10 ^ i, by go_num, by omega, HMD.out, HLT.out, HSQ.out, HNX.out, hback, hbb⟩
                  case measure => simp [intOf] <;> omega
                · have hc : ¬ 0 < cmpN ((R + (d + 1) * 10 ^ i) * (R + (d + 1) * 10 ^ i)) N := by
                    unfold cmpN
                    by_cases h1 : (R + (d + 1) * 10 ^ i) * (R + (d + 1) * 10 ^ i) < N
                    · rw [if_pos h1]; decide
                    · rw [if_neg h1, if_neg hgt]; decide
                  have HSQ2 := hid (show (R + (d + 1) * 10 ^ i) * (R + (d + 1) * 10 ^ i) ≤ N by omega)
                  generalize cmpN ((R + (d + 1) * 10 ^ i) * (R + (d + 1) * 10 ^ i)) N = C at *
                  clear hgt
                  go_wp2
                  go_roundg (9 - (d + 1))
                  case measure => omega
                  case rel => exact ⟨d + 1, rfl, by omega, HSQ2, hst, hbs⟩
end Go.Proofs.YtkhgoeippamobaaGreatDoor
/-
  Int and Of of big.
-/
namespace Go.Proofs.YtkhgoeippamobaaGreatDoor
open Go.RowKit
/-- what Int answers -/
def intRes (a : List UInt8) : Int × Int :=
  if pOK a = true then if -9223372036854775808 ≤ pVal a ∧ pVal a ≤ 9223372036854775807 then (pVal a, 0) else (0, 7) else (0, 2)
theorem or_join (x y : Nat) (hx : x < 4294967296) (hy : y < 4294967296) : bits BinOp.or IntKind.u64 ((x : Int) * 4294967296) (y : Int) = ((x * 4294967296 + y : Nat) : Int) := by
  have e : (x : Int) * 4294967296 = ((x * 4294967296 : Nat) : Int) := by simp
  rw [e, u64_or_nat _ _ (by omega) (by omega), nat_join 32 _ _ (by omega) (by omega)]
theorem two_digits (n : Nat) (h : nlen n ≤ 2) : D n 1 * 4294967296 + D n 0 = n := by
  have h1 := (nlen_le_iff n 2).1 h
  unfold D
  simp only [Nat.mul_one, Nat.mul_zero, Nat.pow_zero, Nat.div_one]
  omega
theorem big600_huge : 18446744073709551616 < big600 := by
  have h1 : (2 : Nat) ^ 64 < 2 ^ 500 := by decide +kernel
  have h2 := big600_ge
  omega
theorem nlen_three (n : Nat) (h : ¬ nlen n ≤ 2) : 18446744073709551616 ≤ n := by
  rcases Nat.lt_or_ge n 18446744073709551616 with h1 | h1
  · exact absurd ((nlen_le_iff n 2).2 h1) h
  · exact h1
set_option maxRecDepth 100000 in
set_option maxHeartbeats 4000000 in
theorem int_fn (a : List UInt8) (ha : a.length ≤ 1000000000) (w : World) :
    Calls Tryz.prog 49 #[.string ⟨a.toArray⟩] w fun e w' => e = .returned (.tuple #[.int .i64 (intRes a).1, .int .i64 (intRes a).2]) ∧ Below w.heap.size w w' := by
  have hc := hid (parse_fn a ha w)
  unfold ParseP at hc
  cases hok : pOK a with
  | false =>
    have HR := hid (show intRes a = (0, 2) by unfold intRes; rw [if_neg (by rw [hok]; decide)])
    rw [hok] at hc
    clear hok
    go_enter Tryz.func49, Tryz.ntmps49
    go_wp2_with fail
    (with_reducible refine hc.out.mono ?_); rintro e w1 ⟨v, rfl, hb1, hv, x1, x2, x3, g, h, rfl⟩
    go_wp2
    go_ret2
    exact ⟨by rw [HR.out]; rfl, hb1.alloc hb1.size _⟩
  | true =>
    have HR := hid (show intRes a = if -9223372036854775808 ≤ pVal a ∧ pVal a ≤ 9223372036854775807 then (pVal a, 0) else (0, 7) by unfold intRes; rw [if_pos hok])
    rw [hok] at hc
    clear hok
    go_enter Tryz.func49, Tryz.ntmps49
    go_wp2_with fail
    (with_reducible refine hc.out.mono ?_); rintro e w1 ⟨v, rfl, hb1, hv, x1, x2, x3, g, h, rfl⟩
    have hv' := (hv (by first | rfl | trivial)).num
    obtain ⟨n, lg, ⟨s, he, hn⟩, hn1, hlg, hnl⟩ := hv'
    simp only [Value.agg.injEq, Array.mk.injEq, List.cons.injEq, Value.bool.injEq, and_true] at he
    obtain ⟨hs, hg, hh⟩ := he
    subst hs
    obtain ⟨a0, c0, hsl⟩ := hn.shape
    simp only [Value.slice.injEq] at hsl
    obtain ⟨rfl, rfl, rfl⟩ := hsl
    have HG := hid hg
    have HH := hid (hh.trans hlg)
    have HN := hid (fun e : h = false => hn1 (by rw [← hh]; exact e))
    clear hv hn1 hlg hg hh
    have hn := hn.below ((Below.refl _ w1).alloc (Nat.le_refl _) (.cells #[.slice x1 (nlen n) x3, .bool g, .bool h] 49))
    have hbA : Below w.heap.size w (w1.alloc (.cells #[.slice x1 (nlen n) x3, .bool g, .bool h] 49)) := hb1.alloc hb1.size _
    have kA := Blk.new w1 #[.slice x1 (nlen n) x3, .bool g, .bool h] 49
    generalize hL : nlen n = L at *
    have HL := hid hL
    clear hL
    have HD := hid (fun h2 => two_digits n h2)
    have he0 := D_lt n 0
    have he1 := D_lt n 1
    have hor := or_join (D n 1) (D n 0) he1 he0
    obtain ⟨⟨p1, p2, p3⟩, _⟩ := kA.three
    go_wp2_with fail
    clear p1 p2 p3
    generalize w1.alloc (.cells #[.slice x1 L x3, .bool g, .bool h] 49) = w2 at *
    replace kA := kA.drew
    replace hn := hn.below ((Below.refl w2.heap.size w2).drew)
    replace hbA := hbA.drew
    have HA1 := hid (at_nat hn (by rw [HL.out]; omega) 1 (by decide) (by decide))
    have HA0 := hid (at_nat hn (by rw [HL.out]; omega) 0 (by decide) (by decide))
    rw [show (1 : Int).toNat = 1 from rfl] at HA1
    rw [show (0 : Int).toNat = 0 from rfl] at HA0
    clear hn
    generalize hS : D n 1 * 4294967296 + D n 0 = S at *
    have hSl : S < 18446744073709551616 := by omega
    generalize D n 1 = e1 at *
    generalize D n 0 = e0 at *
    clear hS
    have hwe1 : IntKind.u64.wrap (e1 : Int) = (e1 : Int) := wrap_u64_nat e1 (by omega)
    have hwe0 : IntKind.u64.wrap (e0 : Int) = (e0 : Int) := wrap_u64_nat e0 (by omega)
    have hwes : IntKind.u64.wrap ((e1 : Int) * 4294967296) = (e1 : Int) * 4294967296 := by
      have h := wrap_u64_nat (e1 * 4294967296) (by omega)
      rw [Int.natCast_mul] at h
      exact h
    refine U_begin (late := fun i => decide (10 ≤ i)) (S := fun u => Blk u w1.heap.size #[.slice x1 L x3, .bool g, .bool h] 49) (by kernel_rfl) ?_
    generalize w2.drew = wd at *
    refine U_take2 8 (i := 0) (v := .pointer (some ⟨w1.heap.size, 0, none⟩)) rfl (by kernel_rfl) (by kernel_rfl) (by kernel_rfl) (by kernel_rfl) (by kernel_rfl) (fun _ _ _ h => h) (.inl ⟨rfl, fun u hu => (by go_simp)⟩) kA ?_
    refine U_take2 8 (i := 1) (v := .slice x1 L x3) rfl (by kernel_rfl) (by kernel_rfl) (by kernel_rfl) (by kernel_rfl) (by kernel_rfl) (fun _ _ _ h => h) (.inl ⟨rfl, fun u hu => (by obtain ⟨⟨h1, h2, h3⟩, _⟩ := hu.three; go_simp)⟩) kA ?_
    refine U_take2 8 (i := 5) (v := .pointer (some ⟨w1.heap.size, 0, none⟩)) rfl (by kernel_rfl) (by kernel_rfl) (by kernel_rfl) (by kernel_rfl) (by kernel_rfl) (fun _ _ _ h => h) (.inl ⟨rfl, fun u hu => (by go_simp)⟩) kA ?_
    refine U_take2 8 (i := 6) (v := .slice x1 L x3) rfl (by kernel_rfl) (by kernel_rfl) (by kernel_rfl) (by kernel_rfl) (by kernel_rfl) (fun _ _ _ h => h) (.inl ⟨rfl, fun u hu => (by obtain ⟨⟨h1, h2, h3⟩, _⟩ := hu.three; go_simp)⟩) kA ?_
    refine U_step (j := 2) (by kernel_rfl) rfl (fun K hK => ?_)
    go_simp
    have hc := hid HA1.out
    (with_reducible refine hc.out.mono ?_); rintro e w3 ⟨rfl, rfl⟩
    clear hc
    refine hK.out _ _ (.inr kA) ?_
    clear hK K
    refine U_take2 8 (i := 3) (v := .int .u64 ((e1 : Nat) : Int)) rfl (by kernel_rfl) (by kernel_rfl) (by kernel_rfl) (by kernel_rfl) (by kernel_rfl) (fun _ _ _ h => h) (.inl ⟨rfl, fun u hu => (by go_simp)⟩) kA ?_
    refine U_take2 8 (i := 4) (v := .int .u64 ((e1 : Nat) * 4294967296 : Int)) rfl (by kernel_rfl) (by kernel_rfl) (by kernel_rfl) (by kernel_rfl) (by kernel_rfl) (fun _ _ _ h => h) (.inl ⟨rfl, fun u hu => (by go_simp)⟩) kA ?_
    refine U_step (j := 7) (by kernel_rfl) rfl (fun K hK => ?_)
    go_simp
    have hc := hid (HA0.out)
    (with_reducible refine hc.out.mono ?_); rintro e w4 ⟨rfl, rfl⟩
    clear hc
    refine hK.out _ _ (.inr kA) ?_
    clear hK K
    refine U_take2 8 (i := 8) (v := .int .u64 ((e0 : Nat) : Int)) rfl (by kernel_rfl) (by kernel_rfl) (by kernel_rfl) (by kernel_rfl) (by kernel_rfl) (fun _ _ _ h => h) (.inl ⟨rfl, fun u hu => (by go_simp)⟩) kA ?_
    refine U_take2 8 (i := 9) (v := .int .u64 ((S : Nat) : Int)) rfl (by kernel_rfl) (by kernel_rfl) (by kernel_rfl) (by kernel_rfl) (by kernel_rfl) (fun _ _ _ h => h) (.inl ⟨rfl, fun u hu => (by go_simp)⟩) kA ?_
    refine U_step (j := 10) (by kernel_rfl) rfl (fun K hK => ?_)
    go_simp
    refine hK.out _ _ (.inl rfl) ?_
    clear hK K
    refine U_done (by kernel_rfl) ?_ _
    clear hor
    obtain ⟨⟨p1, p2, p3⟩, _⟩ := kA.three
    cases h with
    | true =>
      have HR2 := hid (show intRes a = (0, 7) by
        rw [HR.out, if_neg]
        have h1 : big600 ≤ (pVal a).natAbs := of_decide_eq_true HH.out.symm
        have h2 := big600_huge
        omega)
      cases g with
      | true =>
        go_wp2
        go_ret2
        exact ⟨by rw [HR2.out]; rfl, hbA⟩
      | false =>
        go_wp2
        go_ret2
        exact ⟨by rw [HR2.out]; rfl, hbA⟩
    | false =>
      have hnz : n = (pVal a).natAbs := HN.out rfl
      by_cases hL2 : 2 < L
      · have HR2 := hid (show intRes a = (0, 7) by
          rw [HR.out, if_neg]
          have h2 := nlen_three n (by rw [HL.out]; omega)
          omega)
        clear hnz
        have hLI : (2 : Int) < (L : Int) := by omega
        cases g with
        | true =>
          go_wp2
          go_ret2
          exact ⟨by rw [HR2.out]; rfl, hbA⟩
        | false =>
          go_wp2
          go_ret2
          exact ⟨by rw [HR2.out]; rfl, hbA⟩
      · have hLI : ¬ (2 : Int) < (L : Int) := by omega
        have hSn : S = n := HD.out (by rw [HL.out]; omega)
        cases g with
        | true =>
          have hz : pVal a < 0 := of_decide_eq_true HG.out.symm
          by_cases hgt : 9223372036854775808 < S
          · have HR2 := hid (show intRes a = (0, 7) by rw [HR.out, if_neg (by omega)])
            clear hz hnz hSn
            have hgI : (9223372036854775808 : Int) < (S : Int) := by omega
            go_wp2
            go_ret2
            exact ⟨by rw [HR2.out]; rfl, hbA⟩
          · have hzS : pVal a = -(S : Int) := by omega
            have HR2 := hid (show intRes a = (-(S : Int), 0) by rw [HR.out, if_pos (by omega), hzS])
            have hgI : ¬ (9223372036854775808 : Int) < (S : Int) := by omega
            have hv2 : IntKind.i64.wrap (IntKind.u64.wrap (-(S : Int))) = -(S : Int) := by simp [IntKind.wrap, IntKind.bits, IntKind.signed]; omega
            clear hz hnz hSn hzS
            go_wp2
            go_ret2
            exact ⟨by rw [HR2.out]; rfl, hbA⟩
        | false =>
          have hz : ¬ pVal a < 0 := of_decide_eq_false HG.out.symm
          by_cases hgt : 9223372036854775807 < S
          · have HR2 := hid (show intRes a = (0, 7) by rw [HR.out, if_neg (by omega)])
            clear hz hnz hSn
            have hgI : (9223372036854775807 : Int) < (S : Int) := by omega
            go_wp2
            go_ret2
            exact ⟨by rw [HR2.out]; rfl, hbA⟩
          · have hzS : pVal a = (S : Int) := by omega
            have HR2 := hid (show intRes a = ((S : Int), 0) by rw [HR.out, if_pos (by omega), hzS])
            have hgI : ¬ (9223372036854775807 : Int) < (S : Int) := by omega
            have hv2 : IntKind.i64.wrap (S : Int) = (S : Int) := by simp [IntKind.wrap, IntKind.bits, IntKind.signed]; omega
            clear hz hnz hSn hzS
            go_wp2
            go_ret2
            exact ⟨by rw [HR2.out]; rfl, hbA⟩
end Go.Proofs.YtkhgoeippamobaaGreatDoor
/-
  The reference: Int.
-/
namespace Go.Proofs.YtkhgoeippamobaaGreatDoor
open Go.RowKit
theorem two63 : ((2 ^ 63 : Nat) : Int) = 9223372036854775808 := by decide
theorem intRes_out {a : List UInt8} {x' : Int} (ok : pOK a = true) (hc : Cut x' (pVal a)) (h : x' < -9223372036854775808 ∨ 9223372036854775808 ≤ x') : intRes a = (0, 7) := by
  unfold intRes
  rw [if_pos ok, if_neg]
  have h2 := big600_huge
  rcases hc with rfl | ⟨h1, h3, _⟩ <;> omega
theorem intRes_in {a : List UInt8} {x' : Int} (ok : pOK a = true) (hc : Cut x' (pVal a)) (h1 : -9223372036854775808 ≤ x') (h2 : x' < 9223372036854775808) : intRes a = (x', 0) := by
  have h3 := big600_huge
  unfold intRes
  rcases hc with rfl | ⟨h4, h5, _⟩
  · rw [if_pos ok, if_pos (by omega)]
  · omega
theorem cmpI_ge (x y : Int) : (0 ≤ cmpI x y) ↔ y ≤ x := by
  unfold cmpI
  by_cases h1 : x < y
  · rw [if_pos h1]; omega
  · rw [if_neg h1]; split <;> omega
theorem cmpI_neg (x y : Int) : (cmpI x y < 0) ↔ x < y := by
  unfold cmpI
  by_cases h1 : x < y
  · rw [if_pos h1]; omega
  · rw [if_neg h1]; split <;> omega
set_option maxRecDepth 100000 in
set_option maxHeartbeats 8000000 in
theorem intR_fn (a : List UInt8) (ha : a.length ≤ 2000000) (w : World) :
    Calls Tryz.prog 50 #[.string ⟨a.toArray⟩] w fun e w' => e = .returned (.tuple #[.int .i64 (intRes a).1, .int .i64 (intRes a).2]) ∧ Below w.heap.size w w' := by
  have hB := hid (oneR_fn a ha w)
  unfold OneQ at hB
  clear ha
  cases hok : pOK a with
  | false =>
    have HR := hid (show intRes a = (0, 2) by unfold intRes; rw [if_neg (by rw [hok]; decide)])
    rw [hok] at hB
    have hB := hid hB.out
    clear hok
    go_enter Tryz.func50, Tryz.ntmps50
    go_wp2_with fail
    (with_reducible refine hB.out.mono ?_); rintro e w1 ⟨g1, s1, n1, c1, rfl, hb1, -⟩
    have hsz := hb1.size
    go_wp2
    go_ret2
    exact ⟨by rw [HR.out]; rfl, hb1.alloc hsz _⟩
  | true =>
    have HOUT := hid (fun x' h1 h2 => intRes_out (x' := x') hok h1 h2)
    have HIN := hid (fun x' h1 h2 h3 => intRes_in (x' := x') hok h1 h2 h3)
    rw [hok] at hB
    have hB := hid hB.out
    clear hok
    go_enter Tryz.func50, Tryz.ntmps50
    go_wp2_with fail
    (with_reducible refine hB.out.mono ?_); rintro e w1 ⟨g1, s1, n1, c1, rfl, hb, hn⟩
    obtain ⟨x', hx, hlx, hcx⟩ := hn (by first | rfl | trivial)
    have HCX := hid hcx
    clear hn hB hcx
    have kX := Blk.new w1 #[.bool g1, .slice s1 n1 c1] 56
    have gg : Below w1.heap.size w1 (w1.alloc (.cells #[.bool g1, .slice s1 n1 c1] 56)) := (Below.refl _ _).alloc (Nat.le_refl _) _
    replace hx := hx.below gg
    replace hb := hb.trans (gg.mono hb.size)
    clear gg
    obtain ⟨⟨p1, p2⟩, q1, q2⟩ := kX.two
    have HT2 := fun w => hid (two_fn' 63 (by decide) w)
    rw [two63] at HT2
    have HT2 : ∀ w, Hid (Calls Tryz.prog 108 #[.int .i64 63] w (FreshD 9223372036854775808 w)) := HT2
    clear p1 p2 q1 q2
    go_wp2_with fail
    generalize w1.alloc (.cells #[.bool g1, .slice s1 n1 c1] 56) = w2 at *
    (with_reducible refine (HT2 _).out.mono ?_); rintro e w3 ⟨z, rfl, hz, gg⟩
    obtain ⟨zg, za, zn, zc, rfl⟩ := hz.num.shape4
    replace kX := kX.later gg
    replace hx := hx.below gg
    replace hb := hb.trans (gg.mono hb.size)
    clear gg
    have HO := hid (oppR_fn hz.num (by decide))
    go_wp2_with fail
    (with_reducible refine HO.out.mono ?_); rintro e w4 ⟨m, rfl, hm, gg⟩
    obtain ⟨mg, ma, mn, mc, rfl⟩ := hm.shape4
    replace kX := kX.later gg
    replace hx := hx.below gg
    replace hb := hb.trans (gg.mono hb.size)
    clear gg hz HO
    have gg : Below w4.heap.size w4 (w4.alloc (.cells #[.bool mg, .slice ma mn mc] 56)) := (Below.refl _ _).alloc (Nat.le_refl _) _
    have kM := Blk.new w4 #[.bool mg, .slice ma mn mc] 56
    replace kX := kX.later gg
    replace hx := hx.below gg
    replace hm := hm.below gg
    replace hb := hb.trans (gg.mono hb.size)
    clear gg
    obtain ⟨⟨p1, p2⟩, q1, q2⟩ := kX.two
    obtain ⟨⟨p3, p4⟩, q3, q4⟩ := kM.two
    go_wp2_with fail
    clear p1 p2 q1 q2 p3 p4 q3 q4
    generalize w4.alloc (.cells #[.bool mg, .slice ma mn mc] 56) = w5 at *
    generalize w4.heap.size = BM at *
    generalize w1.heap.size = B1 at *
    replace kX := kX.drew
    replace kM := kM.drew
    replace hx := hx.below ((Below.refl w5.heap.size w5).drew)
    replace hm := hm.below ((Below.refl w5.heap.size w5).drew)
    replace hb := hb.drew
    have HLX := hid hlx
    refine U_begin (late := fun i => decide (9 ≤ i)) (S := fun u => Blk u B1 #[.bool g1, .slice s1 n1 c1] 56 ∧ Blk u BM #[.bool mg, .slice ma mn mc] 56) (by kernel_rfl) ?_
    generalize w5.drew = wd at *
    refine U_take2 8 (i := 0) (v := .agg #[.bool g1, .slice s1 n1 c1]) rfl (by kernel_rfl) (by kernel_rfl) (by kernel_rfl) (by kernel_rfl) (by kernel_rfl) (fun _ _ _ h => h) (.inl ⟨rfl, fun u hu => (by obtain ⟨⟨h1, h2⟩, _⟩ := hu.1.two; go_simp)⟩) ⟨kX, kM⟩ ?_
    refine U_take2 8 (i := 1) (v := .agg #[.bool mg, .slice ma mn mc]) rfl (by kernel_rfl) (by kernel_rfl) (by kernel_rfl) (by kernel_rfl) (by kernel_rfl) (fun _ _ _ h => h) (.inl ⟨rfl, fun u hu => (by obtain ⟨⟨h1, h2⟩, _⟩ := hu.2.two; go_simp)⟩) ⟨kX, kM⟩ ?_
    refine U_step (j := 2) (by kernel_rfl) rfl (fun K hK => ?_)
    go_simp
    have hc := hid (orderR_fn hx hm (by omega) (by decide))
    (with_reducible refine hc.out.mono ?_); rintro e w6 ⟨rfl, gg⟩
    clear hc hm
    replace kX := kX.later gg
    replace kM := kM.later gg
    replace hx := hx.below gg
    replace hb := hb.trans (gg.mono hb.size)
    refine hK.out _ _ (.inr ⟨kX, kM⟩) ?_
    clear hK K gg
    by_cases hlow : x' < -9223372036854775808
    · have HR := hid (HOUT.out x' HCX.out (.inl hlow))
      have hcm := (cmpI_neg x' (-9223372036854775808)).2 hlow
      generalize cmpI x' (-9223372036854775808) = C at *
      refine U_take2 8 (i := 3) (v := .bool true) rfl (by kernel_rfl) (by kernel_rfl) (by kernel_rfl) (by kernel_rfl) (by kernel_rfl) (fun _ _ _ h => h) (.inl ⟨rfl, fun u hu => (by go_simp)⟩) ⟨kX, kM⟩ ?_
      refine U_take2 8 (i := 4) (v := .bool true) rfl (by kernel_rfl) (by kernel_rfl) (by kernel_rfl) (by kernel_rfl) (by kernel_rfl) (fun _ _ _ h => h) (.inl ⟨rfl, fun u hu => (by go_simp)⟩) ⟨kX, kM⟩ ?_
      refine U_take2 8 (i := 5) (v := undef) rfl (by kernel_rfl) (by kernel_rfl) (by kernel_rfl) (by kernel_rfl) (by kernel_rfl) (fun _ _ _ h => h) (.inr ⟨by go_simp, rfl⟩) ⟨kX, kM⟩ ?_
      refine U_step (j := 6) (by kernel_rfl) rfl (fun K hK => ?_)
      go_simp
      refine hK.out _ _ (.inr ⟨kX, kM⟩) ?_
      clear hK K
      refine U_step (j := 7) (by kernel_rfl) rfl (fun K hK => ?_)
      go_simp
      refine hK.out _ _ (.inr ⟨kX, kM⟩) ?_
      clear hK K
      refine U_take2 8 (i := 8) (v := undef) rfl (by kernel_rfl) (by kernel_rfl) (by kernel_rfl) (by kernel_rfl) (by kernel_rfl) (fun _ _ _ h => h) (.inr ⟨by go_simp, rfl⟩) ⟨kX, kM⟩ ?_
      refine U_step (j := 9) (by kernel_rfl) rfl (fun K hK => ?_)
      go_simp
      refine hK.out _ _ (.inl rfl) ?_
      clear hK K
      refine U_done (by kernel_rfl) ?_ _
      go_wp2
      go_ret2
      exact ⟨by rw [HR.out]; rfl, hb⟩
    · have hcm : ¬ cmpI x' (-9223372036854775808) < 0 := fun h => hlow ((cmpI_neg _ _).1 h)
      have HLOW := hid hlow
      generalize cmpI x' (-9223372036854775808) = C at *
      refine U_take2 8 (i := 3) (v := .bool false) rfl (by kernel_rfl) (by kernel_rfl) (by kernel_rfl) (by kernel_rfl) (by kernel_rfl) (fun _ _ _ h => h) (.inl ⟨rfl, fun u hu => (by go_simp)⟩) ⟨kX, kM⟩ ?_
      refine U_take2 8 (i := 4) (v := .bool false) rfl (by kernel_rfl) (by kernel_rfl) (by kernel_rfl) (by kernel_rfl) (by kernel_rfl) (fun _ _ _ h => h) (.inl ⟨rfl, fun u hu => (by go_simp)⟩) ⟨kX, kM⟩ ?_
      refine U_take2 8 (i := 5) (v := .agg #[.bool g1, .slice s1 n1 c1]) rfl (by kernel_rfl) (by kernel_rfl) (by kernel_rfl) (by kernel_rfl) (by kernel_rfl) (fun _ _ _ h => h) (.inl ⟨rfl, fun u hu => (by obtain ⟨⟨h1, h2⟩, _⟩ := hu.1.two; go_simp)⟩) ⟨kX, kM⟩ ?_
      refine U_step (j := 6) (by kernel_rfl) rfl (fun K hK => ?_)
      go_simp
      (with_reducible refine (HT2 _).out.mono ?_); rintro e w7 ⟨t, rfl, ht, gg⟩
      obtain ⟨tg, ta, tn, tc, rfl⟩ := ht.num.shape4
      replace kX := kX.later gg
      replace kM := kM.later gg
      replace hx := hx.below gg
      replace hb := hb.trans (gg.mono hb.size)
      refine hK.out _ _ (.inr ⟨kX, kM⟩) ?_
      clear hK K gg
      refine U_step (j := 7) (by kernel_rfl) rfl (fun K hK => ?_)
      go_simp
      have hc := hid (orderR_fn hx ht.num (by omega) (by decide))
      (with_reducible refine hc.out.mono ?_); rintro e w8 ⟨rfl, gg⟩
      clear hc ht
      replace kX := kX.later gg
      replace kM := kM.later gg
      replace hx := hx.below gg
      replace hb := hb.trans (gg.mono hb.size)
      refine hK.out _ _ (.inr ⟨kX, kM⟩) ?_
      clear hK K gg
      clear hcm
      by_cases hhi : 9223372036854775808 ≤ x'
      · have HR := hid (HOUT.out x' HCX.out (.inr hhi))
        have hcm := (cmpI_ge x' 9223372036854775808).2 hhi
        generalize cmpI x' 9223372036854775808 = C2 at *
        refine U_take2 8 (i := 8) (v := .bool true) rfl (by kernel_rfl) (by kernel_rfl) (by kernel_rfl) (by kernel_rfl) (by kernel_rfl) (fun _ _ _ h => h) (.inl ⟨rfl, fun u hu => (by go_simp)⟩) ⟨kX, kM⟩ ?_
        refine U_step (j := 9) (by kernel_rfl) rfl (fun K hK => ?_)
        go_simp
        refine hK.out _ _ (.inl rfl) ?_
        clear hK K
        refine U_done (by kernel_rfl) ?_ _
        go_wp2
        go_ret2
        exact ⟨by rw [HR.out]; rfl, hb⟩
      · have HR := hid (HIN.out x' HCX.out (by have := HLOW.out; omega) (by omega))
        have hcm : ¬ 0 ≤ cmpI x' 9223372036854775808 := fun h => hhi ((cmpI_ge _ _).1 h)
        have HHI := hid hhi
        generalize cmpI x' 9223372036854775808 = C2 at *
        refine U_take2 8 (i := 8) (v := .bool false) rfl (by kernel_rfl) (by kernel_rfl) (by kernel_rfl) (by kernel_rfl) (by kernel_rfl) (fun _ _ _ h => h) (.inl ⟨rfl, fun u hu => (by go_simp)⟩) ⟨kX, kM⟩ ?_
        refine U_step (j := 9) (by kernel_rfl) rfl (fun K hK => ?_)
        go_simp
        refine hK.out _ _ (.inl rfl) ?_
        clear hK K
        refine U_done (by kernel_rfl) ?_ _
        obtain ⟨s1', c1', hxe, hxrep⟩ := hx.shape
        simp only [Value.agg.injEq, Array.mk.injEq, List.cons.injEq, Value.bool.injEq, Value.slice.injEq, and_true] at hxe
        obtain ⟨hg, rfl, hn, rfl⟩ := hxe
        have HG := hid hg
        have HN := hid hn
        have HNB := hid (show x'.natAbs ≤ 9223372036854775808 by have := HLOW.out; omega)
        have HDL := hid (dlen_lt 10 x'.natAbs (by decide))
        obtain ⟨xa, xc, hxe2, hxc, hcell⟩ := hxrep
        simp only [Value.slice.injEq] at hxe2
        obtain ⟨rfl, -, rfl⟩ := hxe2
        have HCELL := hid hcell
        rw [← hn] at HCELL HDL
        clear hcell hg hn hxc hx hhi hcm hlow
        generalize hNN : x'.natAbs = N at *
        have HNN := hid hNN
        clear hNN
        have hn1b : n1 ≤ 2002000 := by rw [HN.out]; have := HLX.out; omega
        obtain ⟨⟨p1, p2⟩, q1, q2⟩ := kX.two
        have HXV := hid (show x' = if g1 = true then -(N : Int) else (N : Int) by rw [HG.out, ← HNN.out]; by_cases h : x' < 0; (rw [decide_eq_true h]; simp; omega); (rw [decide_eq_false h]; simp; omega))
        have HTOP := hid (show N / 10 ^ n1 = 0 from Nat.div_eq_of_lt HDL.out)
        cases g1 with
        | true =>
          have HXV2 := hid (show x' = -(N : Int) by rw [HXV.out]; simp)
          clear HXV
          go_wp2_with fail
          go_loopw [7, 8] (fun nv iv wr => ∃ j : Nat, iv = .int .i64 ((j : Int) - 1) ∧ j ≤ n1 ∧ nv = .int .i64 (-((N / 10 ^ j : Nat) : Int)) ∧ wr = w8) (fun _ iv _ => (intOf iv + 1).toNat)
          case atStart => exact ⟨n1, by go_num, Nat.le_refl _, by rw [HTOP.out]; rfl, by first | rfl | trivial⟩
          case round =>
            obtain ⟨j, rfl, hj, rfl, rfl⟩ := hrel
            by_cases hj0 : j = 0
            · subst hj0
              have hN1 : -((N / 10 ^ 0 : Nat) : Int) = x' := by rw [HXV2.out, Nat.pow_zero, Nat.div_one]
              rw [hN1]
              clear hN1
              go_wp2
              go_ret2
              exact ⟨by rw [HR.out]; rfl, hb⟩
            · obtain ⟨i, rfl⟩ : ∃ i, j = i + 1 := ⟨j - 1, by omega⟩
              have he : ((i + 1 : Nat) : Int) - 1 = i := by omega
              rw [he]
              clear he hj0
              obtain ⟨xb, xo, hxa, hxl, hcl⟩ := HCELL.out (by omega)
              subst hxa
              have hci := hcl i (by omega)
              have hdt := dgt_lt 10 N i (by decide)
              have hsp := div10_split N i
              have hle : N / 10 ^ i ≤ N := Nat.div_le_self _ _
              have hNB := HNB.out
              have HSP := hid hsp
              have hiN : (i : Int) < (n1 : Int) := by omega
              clear hcl hsp
              generalize dgt 10 N i = d at *
              generalize hQ : N / 10 ^ (i + 1) = Q at *
              generalize hP : N / 10 ^ i = PP at *
              have HP := hid hP
              clear hQ hP
              have hrel2 := HSP.out
              have hw1 : IntKind.i64.wrap (10 * (-(Q : Int))) = 10 * (-(Q : Int)) := by simp [IntKind.wrap, IntKind.bits, IntKind.signed]; omega
              have hw2 : IntKind.i64.wrap (10 * (-(Q : Int)) - (d : Int)) = -(PP : Int) := by simp [IntKind.wrap, IntKind.bits, IntKind.signed]; omega
              clear hrel2 hle hNB
              go_wp2
              go_roundw
              case rel => exact ⟨i, by go_num, by omega, by rw [HP.out], by first | rfl | trivial⟩
              case measure => simp [intOf] <;> omega
        | false =>
          have HXV2 := hid (show x' = (N : Int) by rw [HXV.out]; simp)
          clear HXV
          go_wp2_with fail
          go_loopw [7, 8] (fun nv iv wr => ∃ j : Nat, iv = .int .i64 ((j : Int) - 1) ∧ j ≤ n1 ∧ nv = .int .i64 (((N / 10 ^ j : Nat) : Int)) ∧ wr = w8) (fun _ iv _ => (intOf iv + 1).toNat)
          case atStart => exact ⟨n1, by go_num, Nat.le_refl _, by rw [HTOP.out]; rfl, by first | rfl | trivial⟩
          case round =>
            obtain ⟨j, rfl, hj, rfl, rfl⟩ := hrel
            by_cases hj0 : j = 0
            · subst hj0
              have hN1 : ((N / 10 ^ 0 : Nat) : Int) = x' := by rw [HXV2.out, Nat.pow_zero, Nat.div_one]
              rw [hN1]
              clear hN1
              go_wp2
              go_ret2
              exact ⟨by rw [HR.out]; rfl, hb⟩
            · obtain ⟨i, rfl⟩ : ∃ i, j = i + 1 := ⟨j - 1, by omega⟩
              have he : ((i + 1 : Nat) : Int) - 1 = i := by omega
              rw [he]
              clear he hj0
              obtain ⟨xb, xo, hxa, hxl, hcl⟩ := HCELL.out (by omega)
              subst hxa
              have hci := hcl i (by omega)
              have hdt := dgt_lt 10 N i (by decide)
              have hsp := div10_split N i
              have hle : N / 10 ^ i ≤ N := Nat.div_le_self _ _
              have hNB := HNB.out
              have hNB2 : N ≤ 9223372036854775807 := by have h1 := HHI.out; have h2 := HXV2.out; omega
              have HSP := hid hsp
              have hiN : (i : Int) < (n1 : Int) := by omega
              clear hcl hsp
              generalize dgt 10 N i = d at *
              generalize hQ : N / 10 ^ (i + 1) = Q at *
              generalize hP : N / 10 ^ i = PP at *
              have HP := hid hP
              clear hQ hP
              have hrel2 := HSP.out
              have hw1 : IntKind.i64.wrap (10 * ((Q : Int))) = 10 * ((Q : Int)) := by simp [IntKind.wrap, IntKind.bits, IntKind.signed]; omega
              have hw2 : IntKind.i64.wrap (10 * ((Q : Int)) + (d : Int)) = (PP : Int) := by simp [IntKind.wrap, IntKind.bits, IntKind.signed]; omega
              clear hrel2 hle hNB
              go_wp2
              go_roundw
              case rel => exact ⟨i, by go_num, by omega, by rw [HP.out], by first | rfl | trivial⟩
              case measure => simp [intOf] <;> omega
end Go.Proofs.YtkhgoeippamobaaGreatDoor
/-
  Of of big.
-/
namespace Go.Proofs.YtkhgoeippamobaaGreatDoor
open Go.RowKit
/-- the text that Of answers -/
def ofText (n : Int) : List UInt8 := numText 10 n.natAbs (decide (n < 0))
theorem D_two (m : Nat) (h : m < 18446744073709551616) : D m 0 = m % 4294967296 ∧ D m 1 = m / 4294967296 := by
  have h1 : m / 4294967296 < 4294967296 := by omega
  refine ⟨by unfold D; simp, ?_⟩
  unfold D
  rw [Nat.mul_one, show (2 : Nat) ^ 32 = 4294967296 from rfl, Nat.mod_eq_of_lt h1]
theorem row_two {w : World} {b : Nat} {t : TypeId} (m : Nat) (h : m < 18446744073709551616) (k : Blk w b #[.int .u32 ((m : Int) % 4294967296), .int .u32 ((m : Int) / 4294967296)] t) : Row .u32 w (.slice (some ⟨b, 0, none⟩) 2 2) 2 (D m) := by
  obtain ⟨h1, h2⟩ := D_two m h
  have e0 : (m : Int) % 4294967296 = ((m % 4294967296 : Nat) : Int) := by omega
  have e1 : (m : Int) / 4294967296 = ((m / 4294967296 : Nat) : Int) := by omega
  rw [e0, e1] at k
  refine ⟨some ⟨b, 0, none⟩, 2, rfl, Nat.le_refl _, fun _ => ⟨b, 0, rfl, k.lt, fun i hi => ?_⟩⟩
  have : i = 0 ∨ i = 1 := by omega
  rcases this with rfl | rfl
  · rw [h1]; exact k.cell 0
  · rw [h2]; exact k.cell 1
theorem Row.cutK {ik : IntKind} {w : World} {a : Option Addr} {n k cap : Nat} {f : Nat → Nat} (h : Row ik w (.slice a n cap) n f) (hk : k ≤ n) : Row ik w (.slice a k cap) k f := by
  obtain ⟨a', cap', hv, hc, hr⟩ := h
  simp only [Value.slice.injEq, true_and] at hv
  obtain ⟨rfl, rfl⟩ := hv
  exact ⟨_, _, rfl, by omega, fun h0 => by
    obtain ⟨b, off, h1, h2, h3⟩ := hr (by omega)
    exact ⟨b, off, h1, h2, fun i hi => h3 i (by omega)⟩⟩
set_option maxRecDepth 100000 in
set_option maxHeartbeats 4000000 in
theorem bigOf_fn (n : Int) (h1 : -9223372036854775808 ≤ n) (h2 : n ≤ 9223372036854775807) (w : World) :
    Calls Tryz.prog 51 #[.int .i64 n] w fun e w' => e = .returned (.string ⟨(ofText n).toArray⟩) ∧ Below w.heap.size w w' := by
  have key : ∀ m : Nat, m < 18446744073709551616 → (∀ b, Blk (w.alloc (.cells #[.int .u32 ((m : Int) % 4294967296), .int .u32 ((m : Int) / 4294967296)] 75)) b #[.int .u32 ((m : Int) % 4294967296), .int .u32 ((m : Int) / 4294967296)] 75 → Row .u32 (w.alloc (.cells #[.int .u32 ((m : Int) % 4294967296), .int .u32 ((m : Int) / 4294967296)] 75)) (.slice (some ⟨b, 0, none⟩) 2 2) 2 (D m)) := fun m hm b k => row_two m hm k
  by_cases hn : n < 0
  · obtain ⟨m, rfl⟩ : ∃ m : Nat, n = -(m : Int) := ⟨n.natAbs, by omega⟩
    have hm0 : 0 < m := by omega
    have HOT := hid (show ofText (-(m : Int)) = numText 10 m true by unfold ofText; rw [Int.natAbs_neg, Int.natAbs_natCast, decide_eq_true hn])
    have hwm : IntKind.u64.wrap (-IntKind.u64.wrap (-(m : Int))) = (m : Int) := by simp [IntKind.wrap, IntKind.bits, IntKind.signed]; omega
    have hm : m < 18446744073709551616 := by omega
    have gg : Below w.heap.size w (w.alloc (.cells #[.int .u32 ((m : Int) % 4294967296), .int .u32 ((m : Int) / 4294967296)] 75)) := (Below.refl _ _).alloc (Nat.le_refl _) _
    have hrow := key m hm _ (Blk.new w _ _)
    have hl2 := (nlen_le_iff m 2).2 hm
    have HT := hid (trimmed_row hrow (by decide) hm)
    have hnat : NatRep _ _ m := hrow.cutK hl2
    have HO := hid (of_nat hnat true (by omega))
    rw [show (true && decide (0 < m)) = true by rw [decide_eq_true hm0]; rfl] at HO
    clear hrow key
    go_enter Tryz.func51, Tryz.ntmps51
    go_wp2_with fail
    (with_reducible refine HT.out.mono ?_); rintro e w1 ⟨rfl, rfl⟩
    go_wp2_with fail
    (with_reducible refine HO.out.mono ?_); rintro e w2 ⟨rfl, g2⟩
    have HX := hid (text_num10 (n := m) (neg := true) (lg := false) ⟨_, rfl, hnat.below g2⟩ (by omega))
    have hb := gg.trans (g2.mono gg.size)
    go_wp2_with fail
    (with_reducible refine HX.out.mono ?_); rintro e w3 ⟨rfl, g3⟩
    go_wp2
    go_ret
    exact ⟨by rw [HOT.out]; rfl, hb.trans (g3.mono hb.size)⟩
  · obtain ⟨m, rfl⟩ : ∃ m : Nat, n = (m : Int) := ⟨n.natAbs, by omega⟩
    have HOT := hid (show ofText (m : Int) = numText 10 m false by unfold ofText; rw [Int.natAbs_natCast, decide_eq_false hn])
    have hwm : IntKind.u64.wrap (m : Int) = (m : Int) := wrap_u64_nat m (by omega)
    have hnd : decide ((m : Int) < 0) = false := decide_eq_false hn
    have hm : m < 18446744073709551616 := by omega
    have gg : Below w.heap.size w (w.alloc (.cells #[.int .u32 ((m : Int) % 4294967296), .int .u32 ((m : Int) / 4294967296)] 75)) := (Below.refl _ _).alloc (Nat.le_refl _) _
    have hrow := key m hm _ (Blk.new w _ _)
    have hl2 := (nlen_le_iff m 2).2 hm
    have HT := hid (trimmed_row hrow (by decide) hm)
    have hnat : NatRep _ _ m := hrow.cutK hl2
    have HO := hid (of_nat hnat false (by omega))
    rw [Bool.false_and] at HO
    clear hrow key
    go_enter Tryz.func51, Tryz.ntmps51
    go_wp2_with fail
    (with_reducible refine HT.out.mono ?_); rintro e w1 ⟨rfl, rfl⟩
    go_wp2_with fail
    (with_reducible refine HO.out.mono ?_); rintro e w2 ⟨rfl, g2⟩
    have HX := hid (text_num10 (n := m) (neg := false) (lg := false) ⟨_, rfl, hnat.below g2⟩ (by omega))
    have hb := gg.trans (g2.mono gg.size)
    go_wp2_with fail
    (with_reducible refine HX.out.mono ?_); rintro e w3 ⟨rfl, g3⟩
    go_wp2
    go_ret
    exact ⟨by rw [HOT.out]; rfl, hb.trans (g3.mono hb.size)⟩
end Go.Proofs.YtkhgoeippamobaaGreatDoor
/-
  Of of the reference: strconv.Itoa by the library's contract (laid by the kit's shelf tool), its text beside ours.
-/
namespace Go.Proofs.YtkhgoeippamobaaGreatDoor
open Go.RowKit Go.Shelf
def Tryz.laysM171_ren : Go.Shelf.Ren := ⟨fun | 171 => 121 | 243 => 141 | 246 => 152 | 283 => 159 | 284 => 160 | 285 => 161 | 286 => 162 | 129 => 169 | 317 => 168 | 318 => 170 | 319 => 171 | 320 => 172 | 337 => 175 | 338 => 176 | n => n, fun | 3 => 3 | 9 => 9 | 2 => 2 | 4 => 4 | 171 => 144 | 0 => 0 | 53 => 98 | 37 => 132 | 5 => 5 | 173 => 147 | 212 => 156 | 51 => 75 | 20 => 20 | 213 => 157 | 46 => 100 | 232 => 168 | 233 => 169 | n => n, fun | 17 => 0 | 18 => 3 | 19 => 4 | n => n⟩
theorem Tryz.laysM171 : Go.Proofs.LaysM.n171 Tryz.prog Tryz.laysM171_ren := {
  mixed := by kernel_rfl
  f129 := Tryz.func169.trans (congrArg some (by kernel_rfl))
  f171 := Tryz.func121.trans (congrArg some (by kernel_rfl))
  f243 := Tryz.func141.trans (congrArg some (by kernel_rfl))
  f246 := Tryz.func152.trans (congrArg some (by kernel_rfl))
  f283 := Tryz.func159.trans (congrArg some (by kernel_rfl))
  f284 := Tryz.func160.trans (congrArg some (by kernel_rfl))
  f285 := Tryz.func161.trans (congrArg some (by kernel_rfl))
  f286 := Tryz.func162.trans (congrArg some (by kernel_rfl))
  f317 := Tryz.func168.trans (congrArg some (by kernel_rfl))
  f318 := Tryz.func170.trans (congrArg some (by kernel_rfl))
  f319 := Tryz.func171.trans (congrArg some (by kernel_rfl))
  f320 := Tryz.func172.trans (congrArg some (by kernel_rfl))
  f337 := Tryz.func175.trans (congrArg some (by kernel_rfl))
  f338 := Tryz.func176.trans (congrArg some (by kernel_rfl))
  t0 := Tryz.underlying0
  a0 := Tryz.isAgg0
  z0 := Tryz.sizeOf0
  v0 := Tryz.zeroValue0
  t2 := Tryz.underlying2
  a2 := Tryz.isAgg2
  z2 := Tryz.sizeOf2
  v2 := Tryz.zeroValue2
  t3 := Tryz.underlying3
  a3 := Tryz.isAgg3
  z3 := Tryz.sizeOf3
  v3 := Tryz.zeroValue3
  t4 := Tryz.underlying4
  a4 := Tryz.isAgg4
  z4 := Tryz.sizeOf4
  v4 := Tryz.zeroValue4
  t5 := Tryz.underlying5
  a5 := Tryz.isAgg5
  z5 := Tryz.sizeOf5
  v5 := Tryz.zeroValue5
  t9 := Tryz.underlying9
  a9 := Tryz.isAgg9
  z9 := Tryz.sizeOf9
  v9 := Tryz.zeroValue9
  t20 := Tryz.underlying20
  a20 := Tryz.isAgg20
  z20 := Tryz.sizeOf20
  v20 := Tryz.zeroValue20
  t37 := Tryz.underlying132
  a37 := Tryz.isAgg132
  z37 := Tryz.sizeOf132
  v37 := Tryz.zeroValue132
  t46 := Tryz.underlying100
  a46 := Tryz.isAgg100
  z46 := Tryz.sizeOf100
  v46 := Tryz.zeroValue100
  t51 := Tryz.underlying75
  a51 := Tryz.isAgg75
  z51 := Tryz.sizeOf75
  v51 := Tryz.zeroValue75
  t53 := Tryz.underlying98
  a53 := Tryz.isAgg98
  z53 := Tryz.sizeOf98
  v53 := Tryz.zeroValue98
  t171 := Tryz.underlying144
  a171 := Tryz.isAgg144
  z171 := Tryz.sizeOf144
  v171 := Tryz.zeroValue144
  t173 := Tryz.underlying147
  a173 := Tryz.isAgg147
  z173 := Tryz.sizeOf147
  v173 := Tryz.zeroValue147
  t212 := Tryz.underlying156
  a212 := Tryz.isAgg156
  z212 := Tryz.sizeOf156
  v212 := Tryz.zeroValue156
  t213 := Tryz.underlying157
  a213 := Tryz.isAgg157
  z213 := Tryz.sizeOf157
  t232 := Tryz.underlying168
  a232 := Tryz.isAgg168
  z232 := Tryz.sizeOf168
  v232 := Tryz.zeroValue168
  t233 := Tryz.underlying169
  a233 := Tryz.isAgg169
  z233 := Tryz.sizeOf169
  v233 := Tryz.zeroValue169
  g17 := by kernel_rfl
  g18 := by kernel_rfl
  g19 := by kernel_rfl
  i0 := by kernel_rfl
  i2 := by kernel_rfl
  i3 := by kernel_rfl
  i4 := by kernel_rfl
  i5 := by kernel_rfl
  i9 := by kernel_rfl
  i20 := by kernel_rfl
  i37 := by kernel_rfl
  i46 := by kernel_rfl
  i51 := by kernel_rfl
  i53 := by kernel_rfl
  i171 := by kernel_rfl
  i173 := by kernel_rfl
  i212 := by kernel_rfl
  i232 := by kernel_rfl
  i233 := by kernel_rfl
  m17 := by kernel_rfl
  m18 := by kernel_rfl
  m19 := by kernel_rfl }
open Go.RowKit Go.Sort Go.Lib in
/-- strconv.Itoa: "Itoa is equivalent to FormatInt(int64(i), 10).": i's DECIMAL NUMERAL ('Lib.itoa': a '-' where i is negative, then the digits), FOR EVERY int. The world behind the call: the world before it, new blocks behind the heap (the library's 'var a [24]byte'), draws. (LAID: no walk: one application.) -/
theorem Tryz.strconv_Itoa (n : Int) (h0 : -9223372036854775808 ≤ n) (h1 : n ≤ 9223372036854775807) (w : World) (htab : Lib.TabIs Tryz.prog w "internal/strconv.uint64pow10" .u64 Lib.pow10Tab) :
    Calls Tryz.prog 121 #[.int .i64 n] w fun e w' => e = .returned (.string ⟨(Lib.itoa n).toArray⟩) ∧ ∃ k os, w' = grow (w.drewN k) os := Any.strconv_Itoa Tryz.laysM171 n h0 h1 w htab
theorem nDig (u : Nat) (h : 0 < u) : Lib.nDigits u = dlen 10 u := by
  have hp := (dlen_pos_iff u).2 h
  have h1 := (lt_dlen_iff 10 u (dlen 10 u - 1) (by decide)).1 (by omega)
  have h2 := dlen_lt 10 u (by decide)
  rw [Lib.nDigits_unique (dlen 10 u - 1) u h1 (by rw [Nat.sub_add_cancel (by omega)]; exact h2)]
  omega
theorem dec_str (u : Nat) (h : 0 < u) : Lib.decDigits u = strOf 10 u := by
  rw [Lib.decDigits_eq, nDig u h]
  unfold strOf
  apply List.map_congr_left
  intro t _
  unfold Lib.dg chN
  rw [if_pos (dgt_lt 10 u _ (by decide))]
  rfl
theorem itoa_text (n : Int) : Lib.itoa n = ofText n := by
  unfold Lib.itoa ofText numText
  by_cases hn : n < 0
  · rw [if_pos hn, if_neg (show ¬ n.natAbs = 0 by omega), decide_eq_true hn, if_pos rfl, dec_str _ (by omega)]
  · rw [if_neg hn, decide_eq_false hn]
    by_cases h0 : n = 0
    · subst h0
      rw [if_pos (show Int.natAbs 0 = 0 from rfl)]
      show Lib.decDigits 0 = [48]
      rw [Lib.decDigits, dif_pos (by decide)]
      rfl
    · rw [if_neg (show ¬ n.natAbs = 0 by omega), if_neg (by decide), show n.toNat = n.natAbs by omega, dec_str _ (by omega)]
theorem below_grows (w : World) (os : Array Obj) : Below w.heap.size w (Sort.grow w os) :=
  ⟨rfl, rfl, rfl, by simp [Sort.grow], fun k hk => by simp only [Sort.grow]; exact Array.getElem?_append_left hk⟩
theorem tabIs_below {P : Program} {w w' : World} {name : String} {k : IntKind} {zs : List Int} (h : Lib.TabIs P w name k zs) (hb : Below w.heap.size w w') : Lib.TabIs P w' name k zs := by
  unfold Lib.TabIs World.var? at *
  cases hg : P.globalNamed name with
  | none => simp [hg] at h
  | some g =>
    simp only [hg, Option.bind_some] at h ⊢
    have hlt : g < w.heap.size := by
      rcases Nat.lt_or_ge g w.heap.size with h' | h'
      · exact h'
      · rw [Array.getElem?_eq_none h'] at h; simp at h
    rw [hb.block g hlt]
    exact h
set_option maxRecDepth 100000 in
set_option maxHeartbeats 2000000 in
theorem ofR_fn (n : Int) (h1 : -9223372036854775808 ≤ n) (h2 : n ≤ 9223372036854775807) (w : World) (htab : Lib.TabIs Tryz.prog w "internal/strconv.uint64pow10" .u64 Lib.pow10Tab) :
    Calls Tryz.prog 52 #[.int .i64 n] w fun e w' => e = .returned (.string ⟨(ofText n).toArray⟩) ∧ Below w.heap.size w w' := by
  have HC := hid (Tryz.strconv_Itoa n h1 h2 w htab)
  rw [itoa_text] at HC
  clear htab
  go_enter Tryz.func52, Tryz.ntmps52
  go_wp2_with fail
  (with_reducible refine HC.out.mono ?_); rintro e w1 ⟨rfl, k, os, rfl⟩
  go_wp2
  go_ret
  have hs : (w.drewN k).heap.size = w.heap.size := by first | rfl | simp [World.drewN]
  have hg := below_grows (w.drewN k) os
  rw [hs] at hg
  exact ⟨rfl, (below_drewN (Below.refl w.heap.size w) k).trans hg⟩
end Go.Proofs.YtkhgoeippamobaaGreatDoor
/-
  BigSigns: the walk.
-/
namespace Go.Proofs.YtkhgoeippamobaaGreatDoor
open Go.RowKit
theorem cmpRes_zero (a : List UInt8) : cmpRes a [48] = signRes a := by
  unfold cmpRes signRes
  have h1 : pOK [48] = true := by decide
  have h2 : pVal [48] = 0 := by decide
  rw [h1, h2]
  have h3 : ¬ big600 ≤ (0 : Int).natAbs := by have := big600_pos; show ¬ big600 ≤ 0; omega
  by_cases hok : pOK a = true
  · rw [if_pos ⟨hok, rfl⟩, if_pos hok]
    by_cases hb : big600 ≤ (pVal a).natAbs
    · rw [if_pos (.inl hb), if_pos hb]
    · rw [if_neg (by rintro (h | h); exact hb h; exact h3 h), if_neg hb]
  · rw [if_neg (fun h => hok h.1), if_neg hok]
theorem sign_fn (a : List UInt8) (ha : a.length ≤ 1000000000) (w : World) :
    Calls Tryz.prog 48 #[.string ⟨a.toArray⟩] w fun e w' => e = .returned (.tuple #[.int .i64 (signRes a).1, .int .i64 (signRes a).2]) ∧ Below w.heap.size w w' := by
  have HC := hid (bigCmp_fn a [48] ha (by decide) w)
  rw [cmpRes_zero] at HC
  go_enter Tryz.func48, Tryz.ntmps48
  go_wp2_with fail
  (with_reducible refine HC.out.mono ?_); rintro e w1 ⟨rfl, gg⟩
  go_wp2
  go_ret2
  exact ⟨rfl, gg⟩
set_option maxRecDepth 100000 in
set_option maxHeartbeats 8000000 in
theorem bigSigns_fn (a : List UInt8) (n : Int) (w : World) (la : a.length ≤ 9223372036854775807) (wn : (Lit.int .i64 n).wf = true) (htab : Lib.TabIs Tryz.prog w "internal/strconv.uint64pow10" .u64 Lib.pow10Tab) :
    Calls Tryz.prog 9 #[.string ⟨a.toArray⟩, .int .i64 n] w fun e w' => e = .returned (.bool true) ∧ Below w.heap.size w w' := by
  have AW := fun w => hid (awake_fn w)
  have hS := Blk.new w #[.string ⟨a.toArray⟩] 9
  have hb0 : Below w.heap.size w (w.alloc (.cells #[.string ⟨a.toArray⟩] 9)) := (Below.refl _ _).alloc (Nat.le_refl _) _
  have HLC := hid (long_any (v := .slice (some ⟨w.heap.size, 0, none⟩) 1 1) 120 (by decide) (Strs.one hS) (by simp) (fun l hl' => by
      simp only [List.mem_cons, List.mem_nil_iff, or_false] at hl'
      rcases hl' with rfl <;> assumption))
  clear hS
  by_cases hlong : a.length ≤ 120
  case neg =>
    have hl : longB 120 [a] = true := by
      rw [longB_one]
      simp
      omega
    rw [hl] at HLC
    have HLC : Hid (Calls Tryz.prog 16 #[.int .i64 120, .slice (some ⟨w.heap.size, 0, none⟩) 1 1] (w.alloc (.cells #[.string ⟨a.toArray⟩] 9)) _) := HLC
    clear hl hlong htab
    go_enter Tryz.func9, Tryz.ntmps9
    go_wp2_with fail
    (with_reducible refine HLC.out.mono ?_); rintro e w0 ⟨rfl, rfl⟩
    go_wp2_with fail
    (with_reducible refine (AW _).out.mono ?_); rintro e w1 ⟨rfl, g1⟩
    have hb := hb0.trans (g1.mono hb0.size)
    clear g1
    go_wp2
    go_ret
    exact ⟨rfl, hb⟩
  case pos =>
    have hl : longB 120 [a] = false := by
      rw [longB_one]
      simp
      omega
    rw [hl] at HLC
    have HLC : Hid (Calls Tryz.prog 16 #[.int .i64 120, .slice (some ⟨w.heap.size, 0, none⟩) 1 1] (w.alloc (.cells #[.string ⟨a.toArray⟩] 9)) _) := HLC
    clear hl
    have hb := hb0
    clear hb0
    have hn1 : -9223372036854775808 ≤ n := by have h := wn; simp [Lit.wf, IntKind.min, IntKind.max, IntKind.bits, IntKind.signed] at h; omega
    have hn2 : n ≤ 9223372036854775807 := by have h := wn; simp [Lit.wf, IntKind.min, IntKind.max, IntKind.bits, IntKind.signed] at h; omega
    have NEG1 := fun w => hid (neg_fn a (by omega) w)
    have NEG2 := fun w => hid (negR_fn a (by omega) w)
    have ABS1 := fun w => hid (abs_fn a (by omega) w)
    have ABS2 := fun w => hid (absR_fn a (by omega) w)
    have NOT1 := fun w => hid (not_fn a (by omega) w)
    have NOT2 := fun w => hid (notR_fn a (by omega) w)
    have ROOT1 := fun w => hid (root_fn a (by omega) w)
    have ROOT2 := fun w => hid (rootR_fn a (by omega) w)
    have S1 := fun w => hid (sign_fn a (by omega) w)
    have S2 := fun w => hid (signR_fn a (by omega) w)
    have I1 := fun w => hid (int_fn a (by omega) w)
    have I2 := fun w => hid (intR_fn a (by omega) w)
    have F1 := fun w => hid (bigOf_fn n hn1 hn2 w)
    have F2 := fun w' (hw : Below w.heap.size w w') => hid (ofR_fn n hn1 hn2 w' (tabIs_below htab hw))
    generalize (negRes a).1 = x0 at *
    generalize (negRes a).2 = x1 at *
    generalize (absRes a).1 = x2 at *
    generalize (absRes a).2 = x3 at *
    generalize (notRes a).1 = x4 at *
    generalize (notRes a).2 = x5 at *
    generalize (rootRes a).1 = x6 at *
    generalize (rootRes a).2 = x7 at *
    generalize (signRes a).1 = x8 at *
    generalize (signRes a).2 = x9 at *
    generalize (intRes a).1 = x10 at *
    generalize (intRes a).2 = x11 at *
    generalize ofText n = x12 at *
    clear hlong hn1 hn2 htab
    go_enter Tryz.func9, Tryz.ntmps9
    go_wp2_with fail
    (with_reducible refine HLC.out.mono ?_); rintro e w0 ⟨rfl, rfl⟩
    go_wp2_with fail
    (with_reducible refine (NEG1 _).out.mono ?_); rintro e w1 ⟨rfl, gg⟩
    have hb := hb.trans (gg.mono hb.size)
    clear gg
    go_wp2_with fail
    (with_reducible refine (NEG2 _).out.mono ?_); rintro e w2 ⟨rfl, gg⟩
    have hb := hb.trans (gg.mono hb.size)
    clear gg
    go_wp2_with fail
    (with_reducible refine (ABS1 _).out.mono ?_); rintro e w3 ⟨rfl, gg⟩
    have hb := hb.trans (gg.mono hb.size)
    clear gg
    go_wp2_with fail
    (with_reducible refine (ABS2 _).out.mono ?_); rintro e w4 ⟨rfl, gg⟩
    have hb := hb.trans (gg.mono hb.size)
    clear gg
    go_wp2_with fail
    (with_reducible refine (NOT1 _).out.mono ?_); rintro e w5 ⟨rfl, gg⟩
    have hb := hb.trans (gg.mono hb.size)
    clear gg
    go_wp2_with fail
    (with_reducible refine (NOT2 _).out.mono ?_); rintro e w6 ⟨rfl, gg⟩
    have hb := hb.trans (gg.mono hb.size)
    clear gg
    go_wp2_with fail
    (with_reducible refine (ROOT1 _).out.mono ?_); rintro e w7 ⟨rfl, gg⟩
    have hb := hb.trans (gg.mono hb.size)
    clear gg
    go_wp2_with fail
    (with_reducible refine (ROOT2 _).out.mono ?_); rintro e w8 ⟨rfl, gg⟩
    have hb := hb.trans (gg.mono hb.size)
    clear gg
    go_wp2_with fail
    (with_reducible refine (S1 _).out.mono ?_); rintro e w9 ⟨rfl, gg⟩
    have hb := hb.trans (gg.mono hb.size)
    clear gg
    go_wp2_with fail
    (with_reducible refine (S2 _).out.mono ?_); rintro e w10 ⟨rfl, gg⟩
    have hb := hb.trans (gg.mono hb.size)
    clear gg
    go_wp2_with fail
    (with_reducible refine (I1 _).out.mono ?_); rintro e w11 ⟨rfl, gg⟩
    have hb := hb.trans (gg.mono hb.size)
    clear gg
    go_wp2_with fail
    (with_reducible refine (I2 _).out.mono ?_); rintro e w12 ⟨rfl, gg⟩
    have hb := hb.trans (gg.mono hb.size)
    clear gg
    go_wp2_with fail
    (with_reducible refine (F1 _).out.mono ?_); rintro e w13 ⟨rfl, gg⟩
    have hb := hb.trans (gg.mono hb.size)
    clear gg
    go_wp2_with fail
    (with_reducible refine (F2 _ hb).out.mono ?_); rintro e w14 ⟨rfl, gg⟩
    have hb := hb.trans (gg.mono hb.size)
    clear gg
    go_wp2_with fail
    (with_reducible refine (AW _).out.mono ?_); rintro e w15 ⟨rfl, gg⟩
    have hb := hb.trans (gg.mono hb.size)
    clear gg
    go_wp2
    go_ret
    exact ⟨rfl, hb⟩
end Go.Proofs.YtkhgoeippamobaaGreatDoor
/-
  BigSigns: the row and its card. Condition: the listed package-level variables hold what the row lists (the card ties them to the text).
-/
namespace Go.Proofs.YtkhgoeippamobaaGreatDoor.bigSigns
open Go.ChangeMaps Go.ChangeShapes Go.WideShapes Go.ChangeAt Go.RowKit
theorem own : ownKnob Tryz.prog.godebug = none := by kernel_rfl
theorem ok_true {P : Program} {W' : World} {f : Func} {t : TypeId} (hr : f.resultTypes = #[t]) (ht : P.underlying t = some .bool) :
    ∀ (j : Nat) (t' : TypeId) (r : Value), f.resultTypes[j]? = some t' → ((Value.bool true).resultList f.resultTypes.size)[j]? = some r → Value.okWide P W' .any 0 t' r := ok_one hr rfl (okWide_bool_mk ht true)
section
variable {H : Type} {enc : TypeId × Value → H}
set_option maxRecDepth 100000 in
/-- the row's last step: no place was read, no variable is asked, what lay below is as it was -/
theorem post_below {f : Func} {s : ChangeSpec} {W W' : World} {args : Array Value} {v : Value} {ds gs : List (DataW H)}
    (hW : DataW.Whole enc Tryz.prog f.params.toList s.vars false W args.toList ds gs [])
    (hres : ∀ (b : Nat) (sp : Nat → Bool) (hd : Bool), DataW.TrodAll enc Tryz.prog W' b sp hd f.resultTypes.toList (v.resultList f.resultTypes.size) (s.fn H (ds ++ gs)).results [])
    (hargs : ∀ sp : Nat → Bool, DataW.TrodAll enc Tryz.prog W' 0 sp true f.params.toList args.toList (s.fn H (ds ++ gs)).args [])
    (hvars : ∀ sp : Nat → Bool, DataW.TrodVars enc Tryz.prog W' sp s.vars (s.fn H (ds ++ gs)).vars []) (hb : Below W.heap.size W W')
    (hok : ∀ (j : Nat) (t : TypeId) (r : Value), f.resultTypes[j]? = some t → (v.resultList f.resultTypes.size)[j]? = some r → Value.okWide Tryz.prog W' .any 0 t r) :
    s.post enc Tryz.prog f false true false false W args v W' := by
  refine ⟨ds, gs, [], [], [], [], hW, hres _ _ _, hargs _, hvars _, World.keptBut_mono (fun p hp => ⟨hp, .inr (.inr hp)⟩) (hb.frame (· ∈ ([] : List MemPlace))), fun _ => ?_⟩
  refine ⟨hok, _, _, ([] ++ []) ++ [], ⟨[] ++ [], [], trodAll_append (hargs _) (hres _ _ _), hvars _, rfl, ?_, ?_⟩, ?_⟩
  · intro b off hp
    simp at hp
  · intro h
    cases h
  · intro p hp _
    simp at hp
end
theorem tab_of {W : World} (hl : laidMetH Tryz.prog Rows.bigSignsRow.laid W) : Lib.TabIs Tryz.prog W "internal/strconv.uint64pow10" .u64 Lib.pow10Tab := by
  rw [MakeChecks.laidMetH_plain _ _ _ (by kernel_rfl)] at hl
  have h3 := hl.tail.tail
  have e : (Rows.laid_internal_strconv_uint64pow10 : DataW Unit) = Lib.tabData .u64 Lib.pow10Tab := by kernel_rfl
  have h4 : laidMet Tryz.prog (("internal/strconv.uint64pow10", Lib.tabData .u64 Lib.pow10Tab) :: [("unicode/utf8.acceptRanges", Rows.laid_unicode_utf8_acceptRanges), ("unicode/utf8.first", Rows.laid_unicode_utf8_first)]) W := by
    rw [← e]; exact h3
  exact Lib.tabIs_of_head (g := 0) (t := 156) (e := 98) (n := 20) (by kernel_rfl) (by kernel_rfl) (by kernel_rfl) (by kernel_rfl) (by kernel_rfl) (by kernel_rfl) h4
theorem contract (H : Type) (enc : TypeId × Value → H) (W : World) (base : Nat) (args : Array Value) (ds gs : List (DataW H)) (before : List MemPlace)
    (hval : ∀ (j : Nat) t v, Tryz.f9.params[j]? = some t → args[j]? = some v → Value.okWide Tryz.prog W .any base t v)
    (hW : DataW.Whole enc Tryz.prog Tryz.f9.params.toList Rows.bigSignsSpec.vars false W args.toList ds gs before) (hl : laidMetH Tryz.prog Rows.bigSignsRow.laid W) :
    Calls Tryz.prog 9 args W fun e W' => ∃ v, e = .returned v ∧ Rows.bigSignsSpec.post enc Tryz.prog Tryz.f9 false true false false W args v W' := by
  have hW' := hW
  obtain ⟨p, q, hA0, hV, rfl, hfz, hnd⟩ := hW
  have hA : DataW.TrodAll enc Tryz.prog W 0 (fun _ => true) true Tryz.f9.params.toList args.toList ds p := hA0
  rw [Tryz.params9] at hA hval
  obtain ⟨v0, vs0, d0, ds0, p0, q0, hargs, rfl, rfl, h0, r0⟩ := trodAll_cons hA
  obtain ⟨v1, vs1, d1, ds1, p1, q1, rfl, rfl, rfl, h1, r1⟩ := trodAll_cons r0
  obtain ⟨rfl, rfl, rfl⟩ := trodAll_nil r1
  obtain rfl : args = #[v0, v1] := by cases args; simp_all
  obtain ⟨rfl, rfl⟩ := trodVars_none hV
  obtain ⟨s0, rfl, rfl, rfl, m0⟩ := open_string Tryz.underlying9 (by with_reducible exact hval 0 9 v0 (by simp) (by simp)) h0
  obtain ⟨s1, rfl, rfl, rfl, m1⟩ := open_int Tryz.underlying3 (by with_reducible exact hval 1 3 v1 (by simp) (by simp)) h1
  clear hA0
  simp only [List.append_nil] at hW'
  have e0 : s0 = ⟨s0.data.toList.toArray⟩ := by cases s0; simp
  have q0 : s0.data.toList.length ≤ 9223372036854775807 := by
    have h1 : s0.data.toList.length = s0.size := by rw [Array.length_toList]; rfl
    have h2 := m0
    unfold maxLen at h2
    omega
  have htab := tab_of hl
  have walk := bigSigns_fn s0.data.toList s1 W q0 m1 htab
  rw [← e0] at walk
  refine walk.mono fun e W' ⟨he, hg⟩ => ?_
  subst he
  exact ⟨_, rfl, post_below hW' (fun _ _ _ => trodAll_cons_mk (shut_bool Tryz.underlying4 _) trodAll_mk0) (fun _ => trodAll_cons_mk (shut_string Tryz.underlying9 m0) (trodAll_cons_mk (shut_int Tryz.underlying3 m1) trodAll_mk0)) (fun _ => rfl) hg (@ok_true Tryz.prog W' Tryz.f9 4 (by kernel_rfl) Tryz.underlying4)⟩
theorem reads (os : Os) {H : Type} (enc : TypeId × Value → H) : ∃ places, DataW.whole enc Tryz.prog ((World.laidAll Tryz.prog os Rows.bigSignsRow.laid).forCall (fun _ _ => 0) ⟨#[], #[.string .empty, .int .i64 0], []⟩).memory Tryz.f9.params.toList Rows.bigSignsSpec.vars false (#[.string .empty, .int .i64 0] : Array Value).toList 8 = some ([.lit (.string []), .lit (.int .i64 0)], [], places) :=
  ⟨[], by kernel_rfl⟩
set_option maxRecDepth 100000 in
theorem lifted (os : Os) (started : os.Started) (H : Type) (enc : TypeId × Value → H) (F : Stop.Interp) :
    ReturnsInHanded {} Tryz.checked os 9 .any ((OpenSpec.ofChange Rows.bigSignsSpec).preRow enc Tryz.prog Tryz.f9 Rows.bigSignsRow.domain false Rows.bigSignsRow.laid) (((OpenSpec.ofChange Rows.bigSignsSpec).at F).post enc Tryz.prog Tryz.f9 false true false false) := by
  obtain ⟨places, hx⟩ := reads os enc
  have hl : laidMetH Tryz.prog Rows.bigSignsRow.laid ((World.laidAll Tryz.prog os Rows.bigSignsRow.laid).forCall (fun _ _ => 0) ⟨#[], #[.string .empty, .int .i64 0], []⟩).memory := by
    rw [MakeChecks.laidMetH_plain _ _ _ (by kernel_rfl)]
    exact laidMet_laidAll _ (by kernel_rfl) (by kernel_rfl)
  refine returnsInHanded_of_row (C := Tryz.checked) (s := (OpenSpec.ofChange Rows.bigSignsSpec)) own started (by kernel_rfl) Tryz.func9
    (witness_row_at (enc := enc) (C := Tryz.checked) false (World.laidAll Tryz.prog os Rows.bigSignsRow.laid) #[.string .empty, .int .i64 0] (World.laidAll_os _ _ _) (by kernel_rfl) (by kernel_rfl) (by kernel_rfl)
      (OpenSpec.preRow_of_cond 8 hx (by kernel_rfl) (fun k hk => by cases hk) (by kernel_rfl) hl)) ?_
  intro W base args ds gs before hval hW _ _ _ hlaid _ _
  exact contract H enc W base args ds gs before hval hW hlaid
theorem said : Rows.BigSignsSaid :=
  OpenClaim.holds_of_cond 9 Tryz.f9 rfl rfl rfl rfl rfl rfl rfl ⟨rfl, rfl, rfl, rfl, rfl⟩ rfl rfl rfl rfl rfl (by kernel_rfl) Tryz.func9 (by kernel_rfl)
    (of_decide_eq_true (by kernel_rfl)) (by unfold Func.isWrapper; first | (rw [if_pos (by decide +kernel)]; kernel_rfl) | (rw [if_neg (by decide +kernel)]; exact ⟨rfl, rfl⟩))
    (fun os started H enc _ F => by rw [OpenClaim.pre_eq_preRow]; exact lifted os started H enc F)
theorem plain (f : FuncId) (fn : Func) (hf : Tryz.pinned.checked.prog.funcNamed "threadbare/threadbarelaw03.BigSigns" = some f) (hfn : Tryz.pinned.checked.prog.funcs[f]? = some fn) :
    false = Tryz.pinned.checked.prog.looks [] ∧ ∀ (j : Nat) t, fn.params[j]? = some t → Tryz.pinned.checked.prog.wantsStandIn t = false := by
  obtain rfl : f = 9 := Option.some.inj ((show Tryz.prog.funcNamed "threadbare/threadbarelaw03.BigSigns" = some 9 by kernel_rfl).symm.trans hf) |>.symm
  obtain rfl : fn = Tryz.f9 := (Option.some.inj (Tryz.func9.symm.trans hfn)).symm
  refine ⟨by kernel_rfl, fun j t ht => ?_⟩
  rw [Tryz.params9] at ht
  have ht := Array.mem_of_getElem? ht
  simp at ht
  rcases ht with rfl | rfl
  · exact (show Tryz.prog.wantsStandIn 9 = false by kernel_rfl)
  · exact (show Tryz.prog.wantsStandIn 3 = false by kernel_rfl)
theorem card : Rows.BigSignsCardSaid :=
  Claim7.holds_tied_plain_at .later [] _ _ _ _ said (fun _ h => by cases h) (by kernel_rfl) (fun _ h => by cases h) bigSigns_row_tie rfl ⟨rfl, rfl⟩ (by kernel_rfl) rfl plain (by kernel_rfl)
end Go.Proofs.YtkhgoeippamobaaGreatDoor.bigSigns
