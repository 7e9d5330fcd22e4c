/-
  Part K5 of the proofs of this seat: contracts of functions and plain facts, merged from 10 texts.
-/
import Derived.BigQuiet
import Derived.Deep.QuietTactic
import Derived.Deep.LoopGhost
import Derived.Laws.AppendOwnNone
import Derived.Test.YtkhgoeippamobaaGreatDoorK1
import Derived.Test.YtkhgoeippamobaaGreatDoorK2
import Derived.Test.YtkhgoeippamobaaGreatDoorK3
import Derived.Test.YtkhgoeippamobaaGreatDoorK4
/-
  The greatest common divisor.
-/
namespace Go.Proofs.YtkhgoeippamobaaGreatDoor
/-- what Gcd answers -/
def gcdI (x y : Int) : Int := ((Nat.gcd x.natAbs y.natAbs : Nat) : Int)
theorem gcd_small {x y : Nat} (hx : x < big600) (hy : y < big600) : Nat.gcd x y < big600 := by
  by_cases h0 : x = 0
  · subst h0; rw [Nat.gcd_zero_left]; exact hy
  · exact Nat.lt_of_le_of_lt (Nat.gcd_le_left y (by omega)) hx
end Go.Proofs.YtkhgoeippamobaaGreatDoor
/-
  Abs, Gcd of big.
-/
namespace Go.Proofs.YtkhgoeippamobaaGreatDoor
open Go.RowKit
set_option maxRecDepth 100000 in
set_option maxHeartbeats 2000000 in
theorem abs1 {v : Value} {z : Int} {w : World} (h : IntV w v z) (hl : nlen z.natAbs ≤ 1000) : Calls Tryz.prog 107 #[v] w (RetInt ((z.natAbs : Nat) : Int) w) := by
  obtain ⟨a, c, rfl, h1⟩ := h.shape
  generalize hs : decide (z < 0) = s at *
  clear hs h
  have k1 := Blk.new w #[.slice a (nlen z.natAbs) c, .bool s, .bool false] 49
  have k2 := Blk.new (w.alloc (.cells #[.slice a (nlen z.natAbs) c, .bool s, .bool false] 49)) #[.slice none 0 0, .bool false, .bool false] 49
  simp only [World.size_alloc] at k2
  have k1 := k1.alloc (.cells #[.slice none 0 0, .bool false, .bool false] 49)
  have hb0 : Below w.heap.size w ((w.alloc (.cells #[.slice a (nlen z.natAbs) c, .bool s, .bool false] 49)).alloc (.cells #[.slice none 0 0, .bool false, .bool false] 49)) := ((Below.refl _ _).alloc (Nat.le_refl _) _).alloc (by simp) _
  have HO := hid (of_nat (h1.below hb0) false (by omega))
  rw [Bool.false_and] at HO
  generalize hN : z.natAbs = N at *
  generalize hn : nlen N = n at *
  have HN := hid hn
  clear hn hN
  go_enter Tryz.func107, Tryz.ntmps107
  go_wp2_with fail
  generalize (w.alloc (.cells #[.slice a n c, .bool s, .bool false] 49)).alloc (.cells #[.slice none 0 0, .bool false, .bool false] 49) = w0 at *
  obtain ⟨⟨p1, p2, p3⟩, _⟩ := k1.three
  go_wp2_with fail
  (with_reducible refine HO.out.mono ?_); rintro e w1 ⟨rfl, gg⟩
  have k2 := k2.later gg
  have hb := hb0.trans (gg.mono hb0.size)
  obtain ⟨⟨r1, r2, r3⟩, r4, r5, r6⟩ := k2.three
  go_wp2
  have k2 := k2.set3 (.slice a n c) (.bool false) (.bool false)
  obtain ⟨⟨z1, z2, z3⟩, _⟩ := k2.three
  have hbF := ((hb.setCell (p := ⟨w.heap.size + 1, 0, none⟩) (by simp) (.slice a n c)).setCell (p := ⟨w.heap.size + 1, 1, none⟩) (by simp) (.bool false)).setCell (p := ⟨w.heap.size + 1, 2, none⟩) (by simp) (.bool false)
  have h2 := h1.below hbF
  refine bodyPost_ret (v := .agg #[.slice a n c, .bool false, .bool false]) (by simp [results, Tryz.results107, go_sem, z1, z2, z3]) rfl ⟨_, rfl, ?_, hbF⟩
  exact IntV.mk h2 (Int.natAbs_natCast N).symm (decide_eq_false (by omega)).symm
def absRes (a : List UInt8) : List UInt8 × Int := oneRes a 0 (((pVal a).natAbs : Nat) : Int)
theorem abs_fn (a : List UInt8) (ha : a.length ≤ 1000000000) (w : World) :
    Calls Tryz.prog 38 #[.string ⟨a.toArray⟩] w fun e w' => e = .returned (.tuple #[.string ⟨(absRes a).1.toArray⟩, .int .i64 (absRes a).2]) ∧ Below w.heap.size w w' := by
  have hc := hid (one_fn a ha 60 107 #[] #[] 0 (((pVal a).natAbs : Nat) : Int) w w.heap.size (Nat.le_refl _) (enters_of Tryz.func60 (by kernel_rfl) rfl) (enters_of Tryz.func107 (by kernel_rfl) rfl)
    (fun _ w1 v _ h1 => by
      obtain ⟨n, lg, h1, _⟩ := h1
      exact never_fn h1)
    (fun _ _ _ w1 v hb h1 h2 => (abs1 h1 h2).mono fun e w' h => by
      obtain ⟨u, rfl, h3, h4⟩ := h
      exact ⟨u, rfl, RNum.of_int h3 (by rw [Int.natAbs_natCast]; omega), h4.mono hb.size⟩))
  go_enter Tryz.func38, Tryz.ntmps38
  go_wp2_with fail
  (with_reducible refine hc.out.mono ?_); rintro e w1 ⟨rfl, hb1⟩
  go_wp2
  go_ret2
  exact ⟨rfl, hb1⟩
/-- a number that does not lie in block B -/
def NatA (w : World) (B : Nat) (v : Value) (n : Nat) : Prop :=
  ∃ (a : Option Addr) (cap : Nat), v = .slice a (nlen n) cap ∧ nlen n ≤ cap ∧ (0 < nlen n → ∃ b off, a = some ⟨b, off, none⟩ ∧ b < w.heap.size ∧ b ≠ B ∧ ∀ i, i < nlen n → w.cell? ⟨b, off + i, none⟩ = some (.int .u32 ((D n i : Nat) : Int)))
theorem NatA.rep {w : World} {B n : Nat} {v : Value} (h : NatA w B v n) : NatRep w v n := by
  obtain ⟨a, cap, rfl, hc, h⟩ := h
  exact ⟨a, cap, rfl, hc, fun h0 => by
    obtain ⟨b, off, h1, h2, _, h3⟩ := h h0
    exact ⟨b, off, h1, h2, h3⟩⟩
theorem NatA.of_old {w : World} {B n : Nat} {v : Value} (h : NatRep w v n) (hB : w.heap.size ≤ B) : NatA w B v n := by
  obtain ⟨a, cap, rfl, hc, h⟩ := h
  exact ⟨a, cap, rfl, hc, fun h0 => by
    obtain ⟨b, off, h1, h2, h3⟩ := h h0
    exact ⟨b, off, h1, h2, by omega, h3⟩⟩
theorem NatA.of_own {w : World} {base B n : Nat} {v : Value} (h : Own .u32 75 w base v (nlen n) (D n)) (hB : B < base) : NatA w B v n := by
  obtain ⟨a, cap, rfl⟩ := h.shape
  obtain ⟨a', cap', hv, hc, hr⟩ := h.row
  simp only [Value.slice.injEq, true_and] at hv
  obtain ⟨rfl, rfl⟩ := hv
  refine ⟨_, _, rfl, hc, fun h0 => ?_⟩
  obtain ⟨g, rfl⟩ := h.addr h0
  have h1 := h.base_le
  have h2 := h.lt
  exact ⟨g, 0, rfl, h2, by omega, fun i hi => by rw [Nat.zero_add]; exact h.cell i hi⟩
theorem NatA.below {w w' : World} {B n : Nat} {v : Value} (h : NatA w B v n) (hb : Below w.heap.size w w') : NatA w' B v n := by
  obtain ⟨a, cap, rfl, hc, h⟩ := h
  refine ⟨a, cap, rfl, hc, fun h0 => ?_⟩
  obtain ⟨b, off, h1, h2, h3, h4⟩ := h h0
  exact ⟨b, off, h1, Nat.lt_of_lt_of_le h2 hb.size, h3, fun i hi => (hb.cell (p := ⟨b, off + i, none⟩) h2).trans (h4 i hi)⟩
theorem NatA.set3 {w : World} {B n : Nat} {v : Value} (h : NatA w B v n) (x y z : Value) : NatRep (((w.setCell ⟨B, 0, none⟩ x).setCell ⟨B, 1, none⟩ y).setCell ⟨B, 2, none⟩ z) v n := by
  obtain ⟨a, cap, rfl, hc, h⟩ := h
  refine ⟨a, cap, rfl, hc, fun h0 => ?_⟩
  obtain ⟨b, off, h1, h2, h3, h4⟩ := h h0
  exact ⟨b, off, h1, by simpa using h2, fun i hi => (cell_set3 (off + i) x y z h3).trans (h4 i hi)⟩
set_option maxRecDepth 100000 in
set_option maxHeartbeats 2000000 in
theorem gcd1 {v u : Value} {x y : Int} {w : World} (hv : IntV w v x) (hu : IntV w u y) (hx : nlen x.natAbs ≤ 1000) (hy : nlen y.natAbs ≤ 1000) : Calls Tryz.prog 91 #[v, u] w (RetInt (gcdI x y) w) := by
  obtain ⟨a1, c1, rfl, h1⟩ := hv.shape
  obtain ⟨a2, c2, rfl, h2⟩ := hu.shape
  have HGI := hid (show gcdI x y = ((Nat.gcd x.natAbs y.natAbs : Nat) : Int) from rfl)
  generalize hs1 : decide (x < 0) = s1 at *
  generalize hs2 : decide (y < 0) = s2 at *
  clear hs1 hs2 hv hu
  generalize gcdI x y = R at *
  generalize x.natAbs = M at *
  generalize y.natAbs = N at *
  have k1 := Blk.new w #[.slice a1 (nlen M) c1, .bool s1, .bool false] 49
  have k2 := Blk.new (w.alloc (.cells #[.slice a1 (nlen M) c1, .bool s1, .bool false] 49)) #[.slice a2 (nlen N) c2, .bool s2, .bool false] 49
  have k3 := Blk.new ((w.alloc (.cells #[.slice a1 (nlen M) c1, .bool s1, .bool false] 49)).alloc (.cells #[.slice a2 (nlen N) c2, .bool s2, .bool false] 49)) #[.slice none 0 0, .bool false, .bool false] 49
  simp only [World.size_alloc] at k2 k3
  have k1 := (k1.alloc (.cells #[.slice a2 (nlen N) c2, .bool s2, .bool false] 49)).alloc (.cells #[.slice none 0 0, .bool false, .bool false] 49)
  have k2 := k2.alloc (.cells #[.slice none 0 0, .bool false, .bool false] 49)
  have hb0 : Below w.heap.size w (((w.alloc (.cells #[.slice a1 (nlen M) c1, .bool s1, .bool false] 49)).alloc (.cells #[.slice a2 (nlen N) c2, .bool s2, .bool false] 49)).alloc (.cells #[.slice none 0 0, .bool false, .bool false] 49)) := (((Below.refl _ _).alloc (Nat.le_refl _) _).alloc (by simp) _).alloc (by simp; omega) _
  go_enter Tryz.func91, Tryz.ntmps91
  go_wp2_with fail
  generalize ((w.alloc (.cells #[.slice a1 (nlen M) c1, .bool s1, .bool false] 49)).alloc (.cells #[.slice a2 (nlen N) c2, .bool s2, .bool false] 49)).alloc (.cells #[.slice none 0 0, .bool false, .bool false] 49) = w0 at *
  obtain ⟨⟨p1, p2, p3⟩, _⟩ := k1.three
  obtain ⟨⟨p4, p5, p6⟩, _⟩ := k2.three
  go_wp2_with fail
  go_quiet (fail)
  have hb := below_drewN hb0 nq
  have hm := (NatA.of_old (B := w.heap.size + 1 + 1) h1 (by omega)).below hb
  have hn := (NatA.of_old (B := w.heap.size + 1 + 1) h2 (by omega)).below hb
  have k3 : Blk (w0.drewN nq) (w.heap.size + 1 + 1) #[.slice none 0 0, .bool false, .bool false] 49 := k3
  generalize w0.drewN nq = wd at *
  clear hb0 k1 k2 p1 p2 p3 p4 p5 p6 h1 h2
  go_wp2_with fail
  go_loopg [5, 6] N (fun g mv nv wr => ∃ p q : Nat, g = q ∧ Nat.gcd p q = Nat.gcd M N ∧ nlen p ≤ 1000 ∧ nlen q ≤ 1000 ∧ NatA wr (w.heap.size + 1 + 1) mv p ∧ NatA wr (w.heap.size + 1 + 1) nv q ∧ Blk wr (w.heap.size + 1 + 1) #[.slice none 0 0, .bool false, .bool false] 49 ∧ Below w.heap.size w wr)
  case atStart => exact ⟨M, N, rfl, rfl, hx, hy, hm, hn, k3, hb⟩
  case round =>
    obtain ⟨p, q, hg, hgcd, hp6, hq6, hpm, hqn, k3, hbr⟩ := hrel
    obtain rfl := hg.symm
    have HGC := hid hgcd
    obtain ⟨pa, pc, rfl⟩ := hpm.rep.shape
    obtain ⟨qa, qc, rfl⟩ := hqn.rep.shape
    clear hgcd hm hn hb
    have hlt3 := k3.lt
    have hszr := hbr.size
    have hlq := nlen_eq_zero q
    by_cases hq0 : 0 < q
    · have hlen : 0 < nlen q := by omega
      have HD := hid (over_nat hpm.rep hqn.rep (by omega) (by omega) hq0)
      have hmod := Nat.mod_lt p hq0
      have HMOD := hid hmod
      have HG2 := hid (show Nat.gcd q (p % q) = Nat.gcd M N by rw [← HGC.out, Nat.gcd_comm p q, Nat.gcd_rec q p, Nat.gcd_comm])
      have hr6 : nlen (p % q) ≤ 1000 := Nat.le_trans (nlen_mono (Nat.le_of_lt hmod)) hq6
      clear hmod hq0 hlq
      go_wp2_with fail
      (with_reducible refine HD.out.mono ?_); rintro e w3 ⟨⟨u1, u2, rfl, hu1, hu2⟩, gg⟩
      obtain ⟨va, vc, rfl⟩ := hu1.shape
      obtain ⟨wa, wc, rfl⟩ := hu2.shape
      have hb3 := hbr.trans (gg.mono hszr)
      have hq3 := hqn.below gg
      have k3 := k3.later gg
      go_wp2
      go_roundg (p % q)
      case measure => exact HMOD.out
      case rel => exact ⟨q, p % q, rfl, HG2.out, hq6, hr6, hq3, NatA.of_own hu2 hlt3, k3, hb3⟩
    · have hq00 : q = 0 := by omega
      have HGE := hid (show R = ((p : Nat) : Int) by rw [HGI.out, ← HGC.out, hq00, Nat.gcd_zero_right])
      have hlen : nlen q = 0 := hlq.2 hq00
      rw [hlen]
      have HO := hid (of_nat hpm.rep false (by omega))
      rw [Bool.false_and] at HO
      clear hlen hlq hq00 hq0 HGC HGI
      generalize hn : nlen p = n at *
      have HN := hid hn
      clear hn
      go_wp2_with fail
      (with_reducible refine HO.out.mono ?_); rintro e w3 ⟨rfl, gg⟩
      have k3 := k3.later gg
      have hb3 := hbr.trans (gg.mono hszr)
      obtain ⟨⟨r1, r2, r3⟩, r4, r5, r6⟩ := k3.three
      go_wp2
      have k3 := k3.set3 (.slice pa n pc) (.bool false) (.bool false)
      obtain ⟨⟨z1, z2, z3⟩, _⟩ := k3.three
      have hF := (hpm.below gg).set3 (.slice pa n pc) (.bool false) (.bool false)
      have hbF := ((hb3.setCell (p := ⟨w.heap.size + 1 + 1, 0, none⟩) (by simp; omega) (.slice pa n pc)).setCell (p := ⟨w.heap.size + 1 + 1, 1, none⟩) (by simp; omega) (.bool false)).setCell (p := ⟨w.heap.size + 1 + 1, 2, none⟩) (by simp; omega) (.bool false)
      refine bodyPost_ret (v := .agg #[.slice pa n pc, .bool false, .bool false]) (by simp [results, Tryz.results91, go_sem, z1, z2, z3]) rfl ⟨_, rfl, ?_, hbF⟩
      rw [HGE.out]
      exact IntV.mk hF (Int.natAbs_natCast p).symm (decide_eq_false (by omega)).symm
def gcdRes (a b : List UInt8) : List UInt8 × Int := twoRes a b 0 (gcdI (pVal a) (pVal b))
theorem gcd_fn (a b : List UInt8) (ha : a.length ≤ 1000000000) (hb : b.length ≤ 1000000000) (w : World) :
    Calls Tryz.prog 29 #[.string ⟨a.toArray⟩, .string ⟨b.toArray⟩] w fun e w' => e = .returned (.tuple #[.string ⟨(gcdRes a b).1.toArray⟩, .int .i64 (gcdRes a b).2]) ∧ Below w.heap.size w w' := by
  have hc := hid (two_fn a b ha hb 55 91 #[] #[] 0 (gcdI (pVal a) (pVal b)) w (enters_of Tryz.func55 (by kernel_rfl) rfl) (enters_of Tryz.func91 (by kernel_rfl) rfl)
    (fun _ _ w1 v u _ h1 h2 => by
      obtain ⟨n, lg, h1, _⟩ := h1
      obtain ⟨m, lg', h2, _⟩ := h2
      exact neither_fn h1 h2)
    (fun _ _ _ s1 s2 w1 v u _ h1 h2 h3 h4 => (gcd1 h1 h3 h2 h4).mono fun e w' h => by
      obtain ⟨s, rfl, hs, hb⟩ := h
      refine ⟨s, rfl, RNum.of_int hs ?_, hb⟩
      have h5 := gcd_small s1 s2
      have h6 := nlen_of_bits _ 2010 (bits_2010 _ h5)
      unfold gcdI
      rw [Int.natAbs_natCast]
      omega))
  go_enter Tryz.func29, Tryz.ntmps29
  go_wp2_with fail
  (with_reducible refine hc.out.mono ?_); rintro e w1 ⟨rfl, hb1⟩
  go_wp2
  go_ret2
  exact ⟨rfl, hb1⟩
end Go.Proofs.YtkhgoeippamobaaGreatDoor
/-
  A load may be taken first although late operations wait for it only through several others.
-/
namespace Go.Proofs.YtkhgoeippamobaaGreatDoor
open Go.RowKit
section
variable {P : Program} {ops : Array Oper} {Q : Exit → Act → World → Prop} {md : Region.Mode} {S : World → Prop} {late : Nat → Bool}
/-- number j waits for number i, by so many steps at most -/
def waitsN (md : Region.Mode) (ops : Array Oper) : Nat → Nat → Nat → Bool
  | 0, _, _ => false
  | f + 1, j, i => ((ops[j]?).map fun o => o.after.any fun e => Region.binds md e && (e.on == i || waitsN md ops f e.on i)).getD false
theorem waitsN_of {i : Nat} {listed : Array Bool} (hc : Closed md ops listed) : ∀ (f j : Nat), waitsN md ops f j i = true → (∀ oj, ops[j]? = some oj → ∀ e ∈ oj.after, Region.binds md e = true → listed.getD e.on false = true) → listed.getD i false = true
  | 0, _, h, _ => by cases h
  | f + 1, j, h, hall => by
    unfold waitsN at h
    cases hoj : ops[j]? with
    | none => rw [hoj] at h; cases h
    | some oj =>
      rw [hoj] at h
      have h2 : (oj.after.any fun e => Region.binds md e && (e.on == i || waitsN md ops f e.on i)) = true := h
      obtain ⟨e, he, hb⟩ := Array.any_eq_true'.1 h2
      simp only [Bool.and_eq_true, Bool.or_eq_true, beq_iff_eq] at hb
      have hl := hall oj hoj e he hb.1
      rcases hb.2 with h3 | h3
      · rw [← h3]; exact hl
      · exact waitsN_of hc f e.on h3 fun o' ho e' he' hb' => hc e.on o' ho hl e' he' hb'
theorem waitsN_listed {i j f : Nat} {listed : Array Bool} (h : waitsN md ops f j i = true) (hc : Closed md ops listed) (hj : j ∈ Region.ready md ops listed) : listed.getD i false = true := by
  obtain ⟨_, oj, hoj, hall⟩ := mem_ready.1 hj
  refine waitsN_of hc f j h fun o ho e he hb => ?_
  have := Option.some.inj (hoj.symm.trans ho)
  subst this
  exact hall e he hb
theorem U_first2 {i f : Nat} {oi : Oper} {v : Value} (hi : ops[i]? = some oi) (hsel : ∀ (j : Nat) (o : Oper) cs b, ops[j]? = some o → o.op ≠ .select cs b)
    (hQ : ∀ c a w, Q (.panic c) (a.put oi.dst v) w → Q (.panic c) a w)
    (hlate : ∀ j, j < ops.size → late j = true → waitsN md ops f j i = true) :
    ∀ (fuel : Nat) (listed : Array Bool) (a : Act) (w : World), Closed md ops listed →
      (∀ j oj, ops[j]? = some oj → j ≠ i → listed.getD j true = false → waitsN md ops f j i = false → oi.apart ops oj = true) →
      i ∈ Region.ready md ops listed → YieldsIf P ops S oi v a → S w →
      anyU P md ops Q late S fuel (listed.setIfInBounds i true) (a.put oi.dst v) w → anyU P md ops Q late S (fuel + 1) listed a w
  | 0, listed, a, w, _, _, hr, hy, hS, H => by
    refine ⟨fun h => (by rw [h] at hr; cases hr), fun j hj => ?_⟩
    rcases Nat.decEq j i with hji | rfl
    · have hm := ready_mono hj hji
      rw [H.1] at hm; cases hm
    · exact hy.wpOp hi hS ⟨.inr hS, H⟩
  | fuel + 1, listed, a, w, hcl, hfree, hr, hy, hS, H => by
    refine ⟨fun h => (by rw [h] at hr; cases hr), fun j hj => ?_⟩
    rcases Nat.decEq j i with hji | rfl
    · obtain ⟨hjun, oj, hoj, hall⟩ := mem_ready.1 hj
      have hno : waitsN md ops f j i = false := by
        cases hw : waitsN md ops f j i with
        | false => rfl
        | true =>
          have h1 := waitsN_listed hw hcl hj
          rw [unlisted_of_ready hr] at h1; cases h1
      have hnl : ¬ late j = true := fun hl => by
        rw [hlate j (Array.getElem?_eq_some_iff.1 hoj).1 hl] at hno; cases hno
      have h2 := wpOp_putIf hoj (hfree j oj hoj hji hjun hno) (fun cs b => hsel i oi cs b hi) (fun cs b => hsel j oj cs b hoj) hQ hy (H.2 j (ready_mono hj hji))
      refine wpOp_mono (fun b u k => ?_) h2
      have hSu := k.2.1.resolve_left hnl
      refine ⟨.inr hSu, U_first2 hi hsel hQ hlate fuel _ b u (hcl.add hj) ?_ (ready_mono hr (Ne.symm hji)) k.1 hSu ?_⟩
      · intro l ol hol hli hun hw
        refine hfree l ol hol hli ?_ hw
        by_cases hjl : j = l
        · exact hjl ▸ hjun
        · rwa [getD_set_ne true hjl] at hun
      · rw [Array.setIfInBounds_comm _ _ hji]; exact k.2.2
    · exact hy.wpOp hi hS ⟨.inr hS, H⟩
def lateN (md : Region.Mode) (ops : Array Oper) (late : Nat → Bool) (f i : Nat) : Bool := (List.range ops.size).all fun j => !late j || waitsN md ops f j i
theorem lateN_spec {i f : Nat} (h : lateN md ops late f i = true) (j : Nat) (hj : j < ops.size) (hl : late j = true) : waitsN md ops f j i = true := by
  have h1 := List.all_eq_true.1 h j (List.mem_range.2 hj)
  rwa [hl] at h1
def freeN (md : Region.Mode) (ops : Array Oper) (listed : Array Bool) (f i : Nat) : Bool :=
  match ops[i]? with
  | none => false
  | some oi => (List.range ops.size).all fun j => j == i || listed.getD j true || waitsN md ops f j i || match ops[j]? with
      | some oj => oi.apart ops oj
      | none => true
theorem freeN_spec {i f : Nat} {oi : Oper} {listed : Array Bool} (hi : ops[i]? = some oi) (h : freeN md ops listed f i = true) (j : Nat) (oj : Oper)
    (hj : ops[j]? = some oj) (hne : j ≠ i) (hun : listed.getD j true = false) (hno : waitsN md ops f j i = false) : oi.apart ops oj = true := by
  simp only [freeN, hi, List.all_eq_true, List.mem_range] at h
  have h1 := h j (Array.getElem?_eq_some_iff.1 hj).1
  simp only [hj, Bool.or_eq_true, beq_iff_eq, hne, false_or, hun, hno, Bool.false_eq_true] at h1
  exact h1
theorem U_take2 (f : Nat) {i : Nat} {oi : Oper} {v : Value} {fuel : Nat} {listed : Array Bool} {a : Act} {w : World} (hi : ops[i]? = some oi)
    (hs : Region.noSelect ops = true) (hf : freeN md ops listed f i = true) (hr : (Region.ready md ops listed).contains i = true) (hl : lateN md ops late f i = true) (hc : closedB md ops listed = true)
    (hQ : ∀ c a w, Q (.panic c) (a.put oi.dst v) w → Q (.panic c) a w) (hy : YieldsIf P ops S oi v a) (hS : S w)
    (h : anyU P md ops Q late S fuel (listed.setIfInBounds i true) (a.put oi.dst v) w) : anyU P md ops Q late S (fuel + 1) listed a w :=
  U_first2 hi (Region.noSelect_spec hs) hQ (lateN_spec hl) fuel listed a w (closedB_spec hc) (freeN_spec hi hf) (by simpa using hr) hy hS h
end
end Go.Proofs.YtkhgoeippamobaaGreatDoor
/-
  The reference: divided.
-/
namespace Go.Proofs.YtkhgoeippamobaaGreatDoor
open Go.RowKit
theorem dgt_cons (L d t : Nat) (hd : d < 10) : dgt 10 (10 * L + d) t = if t = 0 then d else dgt 10 L (t - 1) := by
  cases t with
  | zero => rw [if_pos rfl]; unfold dgt; rw [Nat.pow_zero, Nat.div_one]; omega
  | succ t =>
    rw [if_neg (by omega), Nat.add_sub_cancel]
    unfold dgt
    rw [Nat.pow_succ, Nat.mul_comm (10 ^ t) 10, ← Nat.div_div_eq_div_mul]
    congr 2
    omega
theorem cons_lt (L d k : Nat) (h : L < 10 ^ k) (hd : d < 10) : 10 * L + d < 10 ^ (k + 1) := by
  rw [Nat.pow_succ]; omega
section
variable {w : World} {ops : Array Oper} {rest : List Oper} {o : Oper} {a : Act} {Q : Exit → Act → World → Prop}
/-- 'append(nat{d}, l...)' -/
theorem app_cat (hgd : o.guard = none) (s x : Operand)
    (ho : o.op = .call { callee := .builtin .append, args := #[s, x], argTypes := #[54, 54] })
    (base : Nat) (d L : Nat) (X : Int) (hX : X = (d : Int)) (hd : d < 10) (hs : a.eval s = .slice (some ⟨w.heap.size, 0, none⟩) 1 1) (A : Option Addr) (cap : Nat) (hx : a.eval x = .slice A (dlen 10 L) cap) (hrow : DecRep w (.slice A (dlen 10 L) cap) L) (hnil : A = none → cap = 0) (hn : dlen 10 L ≤ 1000000000) (hbase : base ≤ w.heap.size)
    (h : ∀ v' w', Own .i64 3 w' base v' (dlen 10 L + 1) (dgt 10 (10 * L + d)) → Below base w w' → wpList Tryz.prog ops Q rest (a.put o.dst v') w') :
    wpList Tryz.prog ops Q (o :: rest) a (w.alloc (.cells #[.int .i64 X] 3)) := by
  subst hX
  obtain ⟨i0, hi, hz0, hz1, hz2⟩ := info_parts Tryz.infoInt
  have hown : (w.alloc (.cells #[.int .i64 (d : Int)] 3)).ownsRow base 3 1 (.slice (some ⟨w.heap.size, 0, none⟩) 1 1) 1 [.int .i64 (d : Int)] := World.ownsRow_lit (e := 3) (size := 1) w #[.int .i64 (d : Int)] 1 hbase (by unfold maxLen; omega) rfl
  have hbl : Below base w (w.alloc (.cells #[.int .i64 (d : Int)] 3)) := (Below.refl base w).alloc hbase _
  obtain ⟨A', cap', hv, hcap, hcell⟩ := hrow
  simp only [Value.slice.injEq, true_and] at hv
  obtain ⟨rfl, rfl⟩ := hv
  have hcells : cellsK .i64 (dgt 10 (10 * L + d)) (dlen 10 L + 1) = [.int .i64 (d : Int)] ++ cellsK .i64 (dgt 10 L) (dlen 10 L) := by
    unfold cellsK
    rw [List.range_succ_eq_map, List.map_cons, List.map_map, dgt_cons L d 0 hd, if_pos rfl]
    refine congrArg (List.cons _) ?_
    apply List.map_congr_left
    intro t _
    simp only [Function.comp]
    rw [dgt_cons L d (t + 1) hd, if_neg (by omega), Nat.add_sub_cancel]
  cases A with
  | none =>
    have h0 : dlen 10 L = 0 := by
      rcases Nat.eq_zero_or_pos (dlen 10 L) with h | h
      · exact h
      · obtain ⟨b, off, he, _⟩ := hcell h
        cases he
    obtain rfl := hnil rfl
    rw [h0] at hx hcells h
    refine wpList_append_own_none hgd s x 54 ho base 3 i0 1 Tryz.underlying54 hi (.slice (some ⟨w.heap.size, 0, none⟩) 1 1) 1 _ hs hown hx (h _ _ ?_ hbl)
    unfold Own
    rw [hcells]
    exact hown
  | some ad =>
    refine wpList_append_own _ hgd s x 54 ho base 3 i0 (.int .i64 0) 1 8 Tryz.underlying54 hi hz0 hz1 hz2 rfl (by decide) _ 1 _ hs hown
      ad (dlen 10 L) cap (cellsK .i64 (dgt 10 L) (dlen 10 L)) hx (by rw [cellsK_length]; omega) ?_ ?_ (by unfold maxLen; omega) (by omega) (by simp; omega) ?_
    · intro j u hj
      have hjl : j < dlen 10 L := by
        have := (List.getElem?_eq_some_iff.1 hj).1
        rwa [cellsK_length] at this
      obtain ⟨b, off, he, hlt, hc⟩ := hcell (by omega)
      obtain rfl : ad = ⟨b, off, none⟩ := by simpa using he
      have h1 := hc j hjl
      rw [cellsK_get _ _ _ _ hjl] at hj
      obtain rfl : (.int .i64 ((dgt 10 L j : Nat) : Int)) = u := by simpa using hj
      rw [show Addr.add ⟨b, off, none⟩ j = ⟨b, off + j, none⟩ from by simp [Addr.add]]
      exact (((Below.refl w.heap.size w).alloc (Nat.le_refl _) (.cells #[.int .i64 (d : Int)] 3)).cell (p := ⟨b, off + j, none⟩) hlt).trans h1
    · intro u hu
      unfold cellsK at hu
      obtain ⟨t, _, rfl⟩ := List.mem_map.1 hu
      rfl
    · intro v' w' hown' hgrow _
      refine h v' w' ?_ ?_
      · unfold Own
        rw [hcells, Nat.add_comm]
        exact hown'
      · refine hbl.grown hgrow (by simp; omega) ?_
        intro k hk
        simp [Value.ownBlock] at hk
        omega
end
/-- the quotient's digits from number j on -/
def fQ (m n j s : Nat) : Nat := if s < j then 0 else dgt 10 (m / n) s
theorem divStep (m n j : Nat) (hn : 0 < n) : 10 * (m / 10 ^ (j + 1) % n) + dgt 10 m j = n * dgt 10 (m / n) j + m / 10 ^ j % n := by
  have h1 := div10_split m j
  have hd := dgt_lt 10 m j (by decide)
  have e : dgt 10 (m / n) j = m / 10 ^ j / n % 10 := by
    unfold dgt
    rw [Nat.div_div_eq_div_mul, Nat.mul_comm n, ← Nat.div_div_eq_div_mul]
  rw [e]
  generalize dgt 10 m j = d at *
  generalize m / 10 ^ (j + 1) = M at *
  rw [h1]
  have h2 := Nat.div_add_mod M n
  have h3 := Nat.mod_lt M hn
  generalize M / n = q at *
  generalize M % n = r at *
  have h4 : d + 10 * M = (10 * r + d) + n * (10 * q) := by
    rw [← h2, Nat.mul_add, Nat.mul_left_comm]; omega
  rw [h4, Nat.add_mul_div_left _ _ hn, Nat.add_mul_mod_self_left, Nat.add_mul_mod_self_left]
  have h5 : (10 * r + d) / n < 10 := by rw [Nat.div_lt_iff_lt_mul hn]; omega
  rw [Nat.mod_eq_of_lt h5]
  exact (Nat.div_add_mod _ _).symm
theorem OwnDec.nilcap {w : World} {base n cap : Nat} {a : Option Addr} (h : OwnDec w base (.slice a (dlen 10 n) cap) n) : a = none → cap = 0 := by
  intro ha
  subst ha
  obtain ⟨hl, ⟨hv, h0⟩ | ⟨g', cap', cur, hv, _⟩⟩ := h
  · simp only [Value.slice.injEq] at hv
    exact hv.2.2
  · simp at hv
set_option maxRecDepth 100000 in
set_option maxHeartbeats 4000000 in
theorem dividedR_fn {v u : Value} {m n : Nat} {w : World} (hv : DecRep w v m) (hu : DecRep w u n) (hm : dlen 10 m ≤ 10000000) (hn : dlen 10 n ≤ 10000000) (hn0 : 0 < n) :
    Calls Tryz.prog 93 #[v, u] w fun e w' => ∃ q r, e = .returned (.tuple #[q, r]) ∧ OwnDec w' w.heap.size q (m / n) ∧ OwnDec w' w.heap.size r (m % n) ∧ Below w.heap.size w w' := by
  obtain ⟨a, cap, rfl⟩ := hv.shape
  obtain ⟨a', cap', rfl⟩ := hu.shape
  have hcell0 := hv
  obtain ⟨ax, capx, hvx, hcapx, hcellx⟩ := hcell0
  simp only [Value.slice.injEq, true_and] at hvx
  obtain ⟨rfl, rfl⟩ := hvx
  have HC := hid hcellx
  have HN0 := hid hn0
  clear hcellx hn0 hcapx
  go_enter Tryz.func93, Tryz.ntmps93
  go_wp2_with (at_make; refine mk_i64 _ rfl _ _ rfl w.heap.size (dlen 10 m) _ _ rfl rfl (by simp) (by simp) (by omega) (Nat.le_refl _) ?_; intro w1 hown hb hz hb1)
  go_loopg [7, 8] (dlen 10 m) (fun g lv iv wr => ∃ j : Nat, g = j ∧ iv = .int .i64 ((j : Int) - 1) ∧ j ≤ dlen 10 m ∧ OwnDec wr (w.heap.size + 1) lv (m / 10 ^ j % n) ∧ Own .i64 3 wr w.heap.size (.slice (some ⟨w.heap.size, 0, none⟩) (dlen 10 m) (dlen 10 m)) (dlen 10 m) (fQ m n j) ∧ Below w.heap.size w wr)
  case atStart =>
    refine ⟨dlen 10 m, rfl, rfl, Nat.le_refl _, ?_, hown.congr (fun t ht => by unfold fQ; rw [if_pos ht]), hb⟩
    rw [(dlen_div 10 m _ (by decide)).2 (Nat.le_refl _), Nat.zero_mod]
    exact Own.nil
  case round =>
    obtain ⟨j, hg, rfl, hj, hl, hq, hbr⟩ := hrel
    obtain rfl := hg.symm
    obtain ⟨la, lc, rfl⟩ := hl.dec.shape
    clear hown hb hz hb1
    obtain ⟨wo, rfl⟩ : ∃ wo : World, wo = wr := ⟨_, rfl⟩
    have hdl : dlen 10 (m / 10 ^ j % n) ≤ dlen 10 n := dlen_mono _ _ (Nat.le_of_lt (Nat.mod_lt _ HN0.out))
    by_cases h0 : j = 0
    · subst h0
      have hqq : Own .i64 3 wo w.heap.size (.slice (some ⟨w.heap.size, 0, none⟩) (dlen 10 m) (dlen 10 m)) (dlen 10 m) (dgt 10 (m / n)) := hq.congr (fun t _ => by unfold fQ; rw [if_neg (by omega)])
      have hlt : m / n < 10 ^ dlen 10 m := Nat.lt_of_le_of_lt (Nat.div_le_self _ _) (dlen_lt 10 m (by decide))
      have HT := hid (trimmedD_own hqq (by omega) hlt)
      have HE := hid (show m / 10 ^ 0 % n = m % n by simp)
      have hl' := hl
      rw [HE.out] at hl'
      clear hlt hqq hdl
      go_wp2_with fail
      (with_reducible refine HT.out.mono ?_); rintro e w2 ⟨⟨q, rfl, hqo⟩, rfl⟩
      obtain ⟨qa, qc, rfl⟩ := hqo.dec.shape
      go_wp2
      go_ret2
      exact ⟨_, _, rfl, hqo, Own.mono (by rw [← HE.out]; exact hl) (Nat.le_succ _), hbr⟩
    · obtain ⟨i, rfl⟩ : ∃ i, j = i + 1 := ⟨j - 1, by omega⟩
      have hi : ((i + 1 : Nat) : Int) - 1 = (i : Int) := by omega
      rw [hi]
      clear hi h0
      have hszr := hbr.size
      obtain ⟨b, off, rfl, hbl, hc⟩ := HC.out (by omega)
      have hci := (hbr.cell (p := ⟨b, off + i, none⟩) hbl).trans (hc i (by omega))
      have hst := divStep m n i HN0.out
      have hd10 := dgt_lt 10 m i (by decide)
      have hL := Nat.mod_lt (m / 10 ^ (i + 1)) HN0.out
      have HS := hid hst
      have hdlm : dlen 10 (m / 10 ^ (i + 1) % n) ≤ 10000000 := by omega
      have hconslt := cons_lt (m / 10 ^ (i + 1) % n) (dgt 10 m i) (dlen 10 (m / 10 ^ (i + 1) % n)) (dlen_lt 10 _ (by decide)) hd10
      have HCL := hid hconslt
      clear hst hc hconslt
      have hR2 := Nat.mod_lt (m / 10 ^ i) HN0.out
      have hFQ := fun s => hid (show (if s = i then dgt 10 (m / n) i else fQ m n (i + 1) s) = fQ m n i s by
        unfold fQ
        by_cases h1 : s = i
        · subst h1; rw [if_pos rfl, if_neg (by omega)]
        · rw [if_neg h1]
          by_cases h2 : s < i
          · rw [if_pos h2, if_pos (by omega)]
          · rw [if_neg h2, if_neg (by omega)])
      have hqlt := hq.lt
      generalize m / 10 ^ (i + 1) % n = R at *
      generalize dgt 10 m i = d at *
      generalize dgt 10 (m / n) i = c at *
      have hR2' := hid hR2
      clear hR2
      have hc10 : 10 * R + d < 10 * n := by omega
      have hdb : dlen 10 (10 * R + d) ≤ 10000001 := by
        have := (dlen_le_iff 10 (10 * R + d) _ (by decide)).2 HCL.out
        omega
      go_wp2_with (at_builtin; refine app_cat rfl _ _ rfl (w.heap.size + 1) d R _ rfl hd10 rfl la lc rfl hl.dec hl.nilcap (by omega) (by omega) ?_; intro v1 w2 hown2 hb2)
      have HT := hid (trimmedD_own hown2 (by omega) HCL.out)
      (with_reducible refine HT.out.mono ?_); rintro e w3 ⟨⟨l1, rfl, hl1⟩, rfl⟩
      have hq1 := hq.keepAt hb2 (Nat.lt_succ_self _)
      have hbr1 := hbr.trans (hb2.mono (Nat.le_succ _))
      have hq2 : Own .i64 3 w3 w.heap.size (.slice (some ⟨w.heap.size, 0, none⟩) (dlen 10 m) (dlen 10 m)) (dlen 10 m) (fun s => if s = i then 0 else fQ m n (i + 1) s) := hq1.congr (fun s _ => by
        by_cases h1 : s = i
        · subst h1; rw [if_pos rfl]; unfold fQ; rw [if_pos (by omega)]
        · rw [if_neg h1])
      clear HT hown2 hl hq hq1 hbr hci hqlt
      go_wp2_with fail
      go_loopg [7] (10 * R + d) (fun g lv wr => ∃ L t : Nat, g = L ∧ 10 * R + d = n * t + L ∧ OwnDec wr (w.heap.size + 1) lv L ∧ Own .i64 3 wr w.heap.size (.slice (some ⟨w.heap.size, 0, none⟩) (dlen 10 m) (dlen 10 m)) (dlen 10 m) (fun s => if s = i then t else fQ m n (i + 1) s) ∧ Below w.heap.size w wr)
      case atStart => exact ⟨10 * R + d, 0, rfl, by omega, hl1, hq2, hbr1⟩
      case round =>
        obtain ⟨L, t, hg, hsum, hL1, hq3, hbr3⟩ := hrel
        obtain rfl := hg.symm
        have HSUM := hid hsum
        obtain ⟨a4, c4, rfl⟩ := hL1.dec.shape
        have ht10 : t < 10 := by
          have : n * t < n * 10 := by omega
          exact Nat.lt_of_mul_lt_mul_left this
        have hdL : dlen 10 L ≤ 10000001 := Nat.le_trans (dlen_mono _ _ (by omega)) hdb
        have hO := hid (order_fn hL1.dec (hu.below hbr3) (by omega) (by omega))
        have hcell := hq3.cell i (by omega)
        have hfree := hq3.free i
        rw [if_pos rfl] at hcell
        have hszr := hbr3.size
        clear hsum hl1 hq2 hbr1 hb2
        by_cases hle : n ≤ L
        · have hcm : ∃ C : Int, 0 ≤ C ∧ cmpN L n = C := by
            unfold cmpN
            rw [if_neg (by omega)]
            split
            · exact ⟨1, by decide, rfl⟩
            · exact ⟨0, by decide, rfl⟩
          obtain ⟨C, hC0, hC⟩ := hcm
          rw [hC] at hO
          have hO := hid hO.out
          have hM := hid (minusD_fn hL1.dec (hu.below hbr3) (by omega) (by omega) hle)
          have HLE := hid hle
          clear hC hle
          go_wp2_with fail
          (with_reducible refine hO.out.mono ?_); rintro e w4 ⟨rfl, rfl⟩
          go_wp2_with fail
          (with_reducible refine hM.out.mono ?_); rintro e w5 ⟨l5, rfl, hl5, hb5⟩
          have hq5 := Own.keep hq3 hb5 (Nat.le_refl _)
          have hcell := hq5.cell i (by omega)
          have hfree := hq5.free i
          rw [if_pos rfl] at hcell
          have hq6 := hq5.store i (t + 1)
          have hbr5 := (hbr3.trans (hb5.mono hszr)).setCell (p := ⟨w.heap.size, i, none⟩) (Nat.le_refl _) (.int .i64 ((t + 1 : Nat) : Int))
          have hl6 : OwnDec (w5.setCell ⟨w.heap.size, i, none⟩ (.int .i64 ((t + 1 : Nat) : Int))) (w.heap.size + 1) l5 (L - n) := Own.mono (base := w4.heap.size) (ownsRow_setCell_below hl5 (a := ⟨w.heap.size, i, none⟩) (by have := hq3.lt; exact this) _) (by have := hq3.lt; omega)
          go_wp2
          go_roundg (L - n)
          case measure => have := HLE.out; have := HN0.out; omega
          case rel =>
            refine ⟨L - n, t + 1, rfl, ?_, hl6, hq6.congr (fun s _ => ?_), hbr5⟩
            · have h1 := HSUM.out
              have h2 := HLE.out
              rw [Nat.mul_succ]; omega
            · by_cases h1 : s = i
              · rw [if_pos h1, if_pos h1]
              · rw [if_neg h1, if_neg h1, if_neg h1]
        · have hC : cmpN L n = -1 := by unfold cmpN; rw [if_pos (by omega)]
          rw [hC] at hO
          have hO := hid hO.out
          have huniq : L = m / 10 ^ i % n ∧ t = c := by
            have h1 := HSUM.out
            have h2 := HS.out
            have h3 := hR2'.out
            have h4 : (n * t + L) / n = (n * c + m / 10 ^ i % n) / n := by rw [← h1, ← h2]
            rw [Nat.mul_add_div HN0.out, Nat.mul_add_div HN0.out, Nat.div_eq_of_lt (by omega), Nat.div_eq_of_lt h3] at h4
            have h5 : t = c := by omega
            subst h5
            exact ⟨by omega, rfl⟩
          have HU := hid huniq
          clear huniq hC hle
          go_wp2_with fail
          (with_reducible refine hO.out.mono ?_); rintro e w4 ⟨rfl, rfl⟩
          go_wp2
          go_roundg i
          case measure => omega
          case rel =>
            obtain ⟨h1, h2⟩ := HU.out
            refine ⟨i, rfl, rfl, by omega, by rw [← h1]; exact hL1, hq3.congr (fun s _ => ?_), hbr3⟩
            rw [h2]
            exact (hFQ s).out
end Go.Proofs.YtkhgoeippamobaaGreatDoor
/-
  The reference: Times, Whole, Divided.
-/
namespace Go.Proofs.YtkhgoeippamobaaGreatDoor
open Go.RowKit
theorem mul_sign (a b : Int) : ((decide (a < 0) != decide (b < 0)) && decide (0 < (a * b).natAbs)) = decide (a * b < 0) := by
  by_cases h0 : a * b < 0
  · have e2 : decide (0 < (a * b).natAbs) = true := decide_eq_true (by omega)
    rw [decide_eq_true h0, e2]
    by_cases ha : a < 0
    · by_cases hb : b < 0
      · have := Int.mul_pos_of_neg_of_neg ha hb
        omega
      · rw [decide_eq_true ha, decide_eq_false hb]; rfl
    · by_cases hb : b < 0
      · rw [decide_eq_false ha, decide_eq_true hb]; rfl
      · have h1 : 0 ≤ a := by omega
        have h2 : 0 ≤ b := by omega
        have := Int.mul_nonneg h1 h2
        omega
  · rw [decide_eq_false h0]
    by_cases hz : a * b = 0
    · rw [hz]; simp
    · have hp : 0 < a * b := by omega
      have : (a < 0) ↔ (b < 0) := by
        constructor
        · intro ha
          apply Decidable.byContradiction
          intro hb
          have := Int.mul_nonpos_of_nonpos_of_nonneg (show a ≤ 0 by omega) (show 0 ≤ b by omega)
          omega
        · intro hb
          apply Decidable.byContradiction
          intro ha
          have := Int.mul_nonpos_of_nonneg_of_nonpos (show 0 ≤ a by omega) (show b ≤ 0 by omega)
          omega
      by_cases ha : a < 0
      · rw [decide_eq_true ha, decide_eq_true (this.1 ha)]; rfl
      · have hb : ¬ b < 0 := fun h => ha (this.2 h)
        rw [decide_eq_false ha, decide_eq_false hb]; rfl
theorem dlen_mul_le (m n : Nat) : dlen 10 (m * n) ≤ dlen 10 m + dlen 10 n := by
  rw [dlen_le_iff 10 _ _ (by decide), Nat.pow_add]
  exact Nat.mul_lt_mul'' (dlen_lt 10 m (by decide)) (dlen_lt 10 n (by decide))
set_option maxRecDepth 100000 in
set_option maxHeartbeats 4000000 in
theorem timesR {a1 a2 : Option Addr} {c1 c2 m n : Nat} {w : World} (hs : DecRep w (.slice a1 (dlen 10 m) c1) m) (ht : DecRep w (.slice a2 (dlen 10 n) c2) n) (hm : dlen 10 m ≤ 10000000) (hn : dlen 10 n ≤ 10000000) (g1 g2 : Bool) :
    Calls Tryz.prog 73 #[.agg #[.bool g1, .slice a1 (dlen 10 m) c1], .agg #[.bool g2, .slice a2 (dlen 10 n) c2]] w (FreshN (m * n) (!(g1 == g2)) w) := by
  have k1 := Blk.new w #[.bool g1, .slice a1 (dlen 10 m) c1] 56
  have k2 := Blk.new (w.alloc (.cells #[.bool g1, .slice a1 (dlen 10 m) c1] 56)) #[.bool g2, .slice a2 (dlen 10 n) c2] 56
  have k3 := Blk.new ((w.alloc (.cells #[.bool g1, .slice a1 (dlen 10 m) c1] 56)).alloc (.cells #[.bool g2, .slice a2 (dlen 10 n) c2] 56)) #[.bool false, .slice none 0 0] 56
  simp only [World.size_alloc] at k2 k3
  have k1 := (k1.alloc (.cells #[.bool g2, .slice a2 (dlen 10 n) c2] 56)).alloc (.cells #[.bool false, .slice none 0 0] 56)
  have k2 := k2.alloc (.cells #[.bool false, .slice none 0 0] 56)
  have hb0 : Below w.heap.size w (((w.alloc (.cells #[.bool g1, .slice a1 (dlen 10 m) c1] 56)).alloc (.cells #[.bool g2, .slice a2 (dlen 10 n) c2] 56)).alloc (.cells #[.bool false, .slice none 0 0] 56)) := (((Below.refl _ _).alloc (Nat.le_refl _) _).alloc (by simp) _).alloc (by simp; omega) _
  have hdr : dlen 10 (m * n) ≤ 20000000 := by have := dlen_mul_le m n; omega
  go_enter Tryz.func73, Tryz.ntmps73
  go_wp2_with fail
  generalize ((w.alloc (.cells #[.bool g1, .slice a1 (dlen 10 m) c1] 56)).alloc (.cells #[.bool g2, .slice a2 (dlen 10 n) c2] 56)).alloc (.cells #[.bool false, .slice none 0 0] 56) = w0 at *
  have kA := k1.drew
  have kB := k2.drew
  have k3 := k3.drew
  have hb := hb0.drew
  have hc1 := hid (timesD_fn (hs.below hb) (ht.below hb) hm hn)
  refine U_begin (late := fun i => decide (11 ≤ i)) (S := fun u => Blk u w.heap.size #[.bool g1, .slice a1 (dlen 10 m) c1] 56 ∧ Blk u (w.heap.size + 1) #[.bool g2, .slice a2 (dlen 10 n) c2] 56) (by kernel_rfl) ?_
  generalize w0.drew = wd at *
  clear hb0 k1 k2
  refine U_take (i := 0) (v := .pointer (some ⟨w.heap.size, 0, none⟩)) rfl (by kernel_rfl) (by kernel_rfl) (by kernel_rfl) (by kernel_rfl) (by kernel_rfl) (fun _ _ _ h => h) (.inl ⟨rfl, fun u hu => (by go_simp)⟩) ⟨kA, kB⟩ ?_
  refine U_take (i := 1) (v := .bool g1) rfl (by kernel_rfl) (by kernel_rfl) (by kernel_rfl) (by kernel_rfl) (by kernel_rfl) (fun _ _ _ h => h) (.inl ⟨rfl, fun u hu => (by obtain ⟨⟨h1, h2⟩, _⟩ := hu.1.two; go_simp)⟩) ⟨kA, kB⟩ ?_
  refine U_take (i := 2) (v := .pointer (some ⟨w.heap.size + 1, 0, none⟩)) rfl (by kernel_rfl) (by kernel_rfl) (by kernel_rfl) (by kernel_rfl) (by kernel_rfl) (fun _ _ _ h => h) (.inl ⟨rfl, fun u hu => (by go_simp)⟩) ⟨kA, kB⟩ ?_
  refine U_take (i := 3) (v := .bool g2) rfl (by kernel_rfl) (by kernel_rfl) (by kernel_rfl) (by kernel_rfl) (by kernel_rfl) (fun _ _ _ h => h) (.inl ⟨rfl, fun u hu => (by obtain ⟨⟨h1, h2⟩, _⟩ := hu.2.two; go_simp)⟩) ⟨kA, kB⟩ ?_
  refine U_take (i := 4) (v := .bool (!(g1 == g2))) rfl (by kernel_rfl) (by kernel_rfl) (by kernel_rfl) (by kernel_rfl) (by kernel_rfl) (fun _ _ _ h => h) (.inl ⟨rfl, fun u hu => (by go_simp)⟩) ⟨kA, kB⟩ ?_
  generalize hGG : (!(g1 == g2)) = G at *
  clear hGG
  refine U_take (i := 5) (v := .pointer (some ⟨w.heap.size, 1, none⟩)) rfl (by kernel_rfl) (by kernel_rfl) (by kernel_rfl) (by kernel_rfl) (by kernel_rfl) (fun _ _ _ h => h) (.inl ⟨rfl, fun u hu => (by go_simp)⟩) ⟨kA, kB⟩ ?_
  refine U_take (i := 6) (v := .slice a1 (dlen 10 m) c1) rfl (by kernel_rfl) (by kernel_rfl) (by kernel_rfl) (by kernel_rfl) (by kernel_rfl) (fun _ _ _ h => h) (.inl ⟨rfl, fun u hu => (by obtain ⟨⟨h1, h2⟩, _⟩ := hu.1.two; go_simp)⟩) ⟨kA, kB⟩ ?_
  refine U_take (i := 7) (v := .pointer (some ⟨w.heap.size + 1, 1, none⟩)) rfl (by kernel_rfl) (by kernel_rfl) (by kernel_rfl) (by kernel_rfl) (by kernel_rfl) (fun _ _ _ h => h) (.inl ⟨rfl, fun u hu => (by go_simp)⟩) ⟨kA, kB⟩ ?_
  refine U_take (i := 8) (v := .slice a2 (dlen 10 n) c2) rfl (by kernel_rfl) (by kernel_rfl) (by kernel_rfl) (by kernel_rfl) (by kernel_rfl) (fun _ _ _ h => h) (.inl ⟨rfl, fun u hu => (by obtain ⟨⟨h1, h2⟩, _⟩ := hu.2.two; go_simp)⟩) ⟨kA, kB⟩ ?_
  refine U_step (j := 9) (by kernel_rfl) rfl (fun K hK => ?_)
  go_simp
  (with_reducible refine hc1.out.mono ?_); rintro e w1 ⟨r, rfl, hr, gg⟩
  obtain ⟨ra, rc, rfl⟩ := hr.dec.shape
  have hb := hb.trans (gg.mono hb.size)
  have kA := kA.later gg
  have kB := kB.later gg
  have hlt3 := k3.lt
  have k3 := k3.later gg
  have hc2 := hid (num_fn hr.dec (by omega) G)
  generalize hG2 : (G && decide (0 < m * n)) = G2 at *
  have HG2 := hid hG2
  clear hG2
  refine hK.out _ _ (.inr ⟨kA, kB⟩) ?_
  clear hK K gg
  refine U_step (j := 10) (by kernel_rfl) rfl (fun K hK => ?_)
  go_simp
  (with_reducible refine hc2.out.mono ?_); rintro e w2 ⟨rfl, gg⟩
  have hr := Own.keep hr gg (Nat.le_refl _)
  have hb := hb.trans (gg.mono hb.size)
  have kA := kA.later gg
  have kB := kB.later gg
  have k3 := k3.later gg
  refine hK.out _ _ (.inr ⟨kA, kB⟩) ?_
  clear hK K gg
  obtain ⟨⟨r1, r2⟩, ⟨s1, s2⟩⟩ := k3.two
  refine U_step (j := 11) (by kernel_rfl) rfl (fun K hK => ?_)
  go_simp
  refine hK.out _ _ (.inl rfl) ?_
  clear hK K
  refine U_done (by kernel_rfl) ?_ _
  go_wp2
  have hF := own_set2 hr (b := w.heap.size + 1 + 1) (.bool G2) (.slice ra (dlen 10 (m * n)) rc) hlt3
  have hbF := (hb.setCell (p := ⟨w.heap.size + 1 + 1, 0, none⟩) (by simp; omega) (.bool G2)).setCell (p := ⟨w.heap.size + 1 + 1, 1, none⟩) (by simp; omega) (.slice ra (dlen 10 (m * n)) rc)
  exact bodyPost_ret (v := .agg #[.bool G2, .slice ra (dlen 10 (m * n)) rc]) (by simp [results, Tryz.results73, go_sem, r1, r2]) rfl ⟨_, by rw [HG2.out], hF.mono (by omega), hbF⟩
theorem timesR_fn {v u : Value} {a b : Int} {w : World} (hv : DNum w v a) (hu : DNum w u b) (hla : dlen 10 a.natAbs ≤ 10000000) (hlb : dlen 10 b.natAbs ≤ 10000000) : Calls Tryz.prog 73 #[v, u] w (FreshD (a * b) w) := by
  obtain ⟨a1, c1, rfl, hs⟩ := hv.shape
  obtain ⟨a2, c2, rfl, ht⟩ := hu.shape
  refine (timesR hs ht hla hlb _ _).mono fun e w' h => h.dnum (Int.natAbs_mul a b).symm ?_
  rw [← Int.natAbs_mul]
  exact mul_sign a b
theorem whole_sign (n : Int) : (decide (n < 0) && decide (0 < n.natAbs)) = decide (n < 0) := by
  by_cases h : n < 0
  · rw [decide_eq_true h, decide_eq_true (show 0 < n.natAbs by omega)]; rfl
  · rw [decide_eq_false h]; rfl
set_option maxRecDepth 100000 in
set_option maxHeartbeats 2000000 in
theorem whole_fn (n : Int) (h1 : -9223372036854775807 ≤ n) (h2 : n ≤ 9223372036854775807) (w : World) : Calls Tryz.prog 89 #[.int .i64 n] w (FreshD n w) := by
  have k3 := Blk.new w #[.bool false, .slice none 0 0] 56
  have hb0 : Below w.heap.size w (w.alloc (.cells #[.bool false, .slice none 0 0] 56)) := (Below.refl _ _).alloc (Nat.le_refl _) _
  have hc1 := hid (natOf_fn n.natAbs (by omega) (w.alloc (.cells #[.bool false, .slice none 0 0] 56)))
  have hmx : max n (-n) = ((n.natAbs : Nat) : Int) := by omega
  have HMX := hid hmx
  have HSG := hid (whole_sign n)
  have hdl := dlen_small n.natAbs (by omega)
  clear hmx
  go_enter Tryz.func89, Tryz.ntmps89
  go_wp2_with fail
  rw [HMX.out]
  generalize w.alloc (.cells #[.bool false, .slice none 0 0] 56) = w0 at *
  (with_reducible refine hc1.out.mono ?_); rintro e w1 ⟨r, rfl, hr, gg⟩
  obtain ⟨ra, rc, rfl⟩ := hr.dec.shape
  have hb := hb0.trans (gg.mono hb0.size)
  have hlt3 := k3.lt
  have k3 := k3.later gg
  have hc2 := hid (num_fn hr.dec (by omega) (decide (n < 0)))
  rw [HSG.out] at hc2
  generalize hG : decide (n < 0) = G at *
  generalize hN : n.natAbs = N at *
  have HG := hid hG
  have HN := hid hN
  clear gg hG hN
  go_wp2_with fail
  (with_reducible refine hc2.out.mono ?_); rintro e w2 ⟨rfl, gg⟩
  have hr := Own.keep hr gg (Nat.le_refl _)
  have hb := hb.trans (gg.mono hb.size)
  have k3 := k3.later gg
  obtain ⟨⟨r1, r2⟩, ⟨s1, s2⟩⟩ := k3.two
  go_wp2
  have hF := own_set2 hr (b := w.heap.size) (.bool G) (.slice ra (dlen 10 N) rc) hlt3
  have hbF := (hb.setCell (p := ⟨w.heap.size, 0, none⟩) (Nat.le_refl _) (.bool G)).setCell (p := ⟨w.heap.size, 1, none⟩) (Nat.le_refl _) (.slice ra (dlen 10 N) rc)
  exact bodyPost_ret (v := .agg #[.bool G, .slice ra (dlen 10 N) rc]) (by simp [results, Tryz.results89, go_sem, r1, r2]) rfl ⟨_, rfl, ⟨_, by rw [HG.out], by rw [HN.out]; exact hF.mono hb0.size⟩, hbF⟩
end Go.Proofs.YtkhgoeippamobaaGreatDoor
/-
  The reference: Divided.
-/
namespace Go.Proofs.YtkhgoeippamobaaGreatDoor
open Go.RowKit
theorem OwnDNum.keep {w w' : World} {base : Nat} {v : Value} {z : Int} (h : OwnDNum w base v z) (hb : Below w.heap.size w w') : OwnDNum w' base v z := by
  obtain ⟨s, h0, h1⟩ := h
  exact ⟨s, h0, Own.keep h1 hb (Nat.le_refl _)⟩
theorem OwnDNum.set2 {w : World} {base b : Nat} {v : Value} {z : Int} (h : OwnDNum w base v z) (hb : b < base) (x y : Value) : OwnDNum ((w.setCell ⟨b, 0, none⟩ x).setCell ⟨b, 1, none⟩ y) base v z := by
  obtain ⟨s, h0, h1⟩ := h
  exact ⟨s, h0, own_set2 h1 x y hb⟩
theorem OwnDNum.mono {w : World} {base base' : Nat} {v : Value} {z : Int} (h : OwnDNum w base v z) (hb : base' ≤ base) : OwnDNum w base' v z := by
  obtain ⟨s, h0, h1⟩ := h
  exact ⟨s, h0, Own.mono h1 hb⟩
theorem OwnDNum.drew {w : World} {base : Nat} {v : Value} {z : Int} (h : OwnDNum w base v z) : OwnDNum w.drew base v z := h
theorem DNum.drew {w : World} {v : Value} {z : Int} (h : DNum w v z) : DNum w.drew v z := h
theorem DNum.nz {w : World} {v : Value} {z z' : Int} (h : DNum w v z) (e : z = z') : DNum w v z' := by subst e; exact h
theorem fmod_eq (a b : Int) : a + -(a.fdiv b * b) = a.fmod b := by
  have := Int.fmod_def a b
  rw [this, Int.mul_comm]
  omega
set_option maxRecDepth 100000 in
set_option maxHeartbeats 4000000 in
theorem divR_same {a1 a2 : Option Addr} {n1 n2 c1 c2 : Nat} {g1 g2 : Bool} {a b : Int} {w : World} (hv : DNum w (.agg #[.bool g1, .slice a1 n1 c1]) a) (hu : DNum w (.agg #[.bool g2, .slice a2 n2 c2]) b) (hla : dlen 10 a.natAbs ≤ 1000000) (hlb : dlen 10 b.natAbs ≤ 1000000) (hb0 : b ≠ 0) (hg : (g1 == g2) = true) :
    Calls Tryz.prog 78 #[.agg #[.bool g1, .slice a1 n1 c1], .agg #[.bool g2, .slice a2 n2 c2]] w fun e w' => ∃ q r, e = .returned (.tuple #[q, r]) ∧ OwnDNum w' w.heap.size q (a.fdiv b) ∧ OwnDNum w' w.heap.size r (a.fmod b) ∧ Below w.heap.size w w' := by
  have hsz := fdiv_sizes a b hb0
  have hs := hv.rep
  have ht := hu.rep
  obtain ⟨eg1, en1⟩ := hv.parts
  obtain ⟨eg2, en2⟩ := hu.parts
  have HSZ := hid hsz
  have HG1 := hid eg1
  have HG2 := hid eg2
  have hdq : dlen 10 (a.natAbs / b.natAbs) ≤ 1000000 := Nat.le_trans (dlen_mono _ _ (Nat.div_le_self _ _)) hla
  have hpos : 0 < b.natAbs := by omega
  clear hsz eg1 eg2 en1 en2
  have k1 := Blk.new w #[.bool g1, .slice a1 n1 c1] 56
  have k2 := Blk.new (w.alloc (.cells #[.bool g1, .slice a1 n1 c1] 56)) #[.bool g2, .slice a2 n2 c2] 56
  have k3 := Blk.new ((w.alloc (.cells #[.bool g1, .slice a1 n1 c1] 56)).alloc (.cells #[.bool g2, .slice a2 n2 c2] 56)) #[.bool false, .slice none 0 0] 56
  have k4 := Blk.new (((w.alloc (.cells #[.bool g1, .slice a1 n1 c1] 56)).alloc (.cells #[.bool g2, .slice a2 n2 c2] 56)).alloc (.cells #[.bool false, .slice none 0 0] 56)) #[.bool false, .slice none 0 0] 56
  simp only [World.size_alloc] at k2 k3 k4
  have kA := ((k1.alloc (.cells #[.bool g2, .slice a2 n2 c2] 56)).alloc (.cells #[.bool false, .slice none 0 0] 56)).alloc (.cells #[.bool false, .slice none 0 0] 56)
  have kB := (k2.alloc (.cells #[.bool false, .slice none 0 0] 56)).alloc (.cells #[.bool false, .slice none 0 0] 56)
  have kR1 := k3.alloc (.cells #[.bool false, .slice none 0 0] 56)
  have kR2 := k4
  have hb : Below w.heap.size w ((((w.alloc (.cells #[.bool g1, .slice a1 n1 c1] 56)).alloc (.cells #[.bool g2, .slice a2 n2 c2] 56)).alloc (.cells #[.bool false, .slice none 0 0] 56)).alloc (.cells #[.bool false, .slice none 0 0] 56)) := ((((Below.refl _ _).alloc (Nat.le_refl _) _).alloc (by simp) _).alloc (by simp; omega) _).alloc (by simp; omega) _
  clear k1 k2 k3 k4
  have hvW := hv
  have huW := hu
  have hv := hv.below hb
  have hu := hu.below hb
  have HD := hid (dividedR_fn (hs.below hb) (ht.below hb) (by omega) (by omega) hpos)
  go_enter Tryz.func78, Tryz.ntmps78
  go_wp2_with fail
  generalize (((w.alloc (.cells #[.bool g1, .slice a1 n1 c1] 56)).alloc (.cells #[.bool g2, .slice a2 n2 c2] 56)).alloc (.cells #[.bool false, .slice none 0 0] 56)).alloc (.cells #[.bool false, .slice none 0 0] 56) = w0 at *
  obtain ⟨⟨p1, p2⟩, _⟩ := kA.two
  obtain ⟨⟨p3, p4⟩, _⟩ := kB.two
  go_wp2_with fail
  (with_reducible refine HD.out.mono ?_); rintro e w1 ⟨q, r, rfl, hq, hr, gg⟩
  obtain ⟨qa, qc, rfl⟩ := hq.dec.shape
  obtain ⟨ra0, rc0, rfl⟩ := hr.dec.shape
  have hlt0 := kR2.lt
  have hb := hb.trans (gg.mono hb.size)
  have hv := hv.below gg
  have hu := hu.below gg
  have kA := kA.later gg
  have kB := kB.later gg
  have kR1 := kR1.later gg
  have kR2 := kR2.later gg
  have hw01 := gg.size
  clear gg p1 p2 p3 p4 HD hs ht
  obtain ⟨⟨p1, p2⟩, _⟩ := kA.two
  obtain ⟨⟨p3, p4⟩, _⟩ := kB.two
  have HN := hid (num_fn hq.dec (by omega) false)
  have hqz0 : OwnDNum w1 w0.heap.size (.agg #[.bool (false && decide (0 < a.natAbs / b.natAbs)), .slice qa (dlen 10 (a.natAbs / b.natAbs)) qc]) (sgnInt false (a.natAbs / b.natAbs)) := ⟨_, by rw [sgnInt_neg], by unfold OwnDec; rw [sgnInt_abs]; exact hq⟩
  have habs : (sgnInt false (a.natAbs / b.natAbs)).natAbs = a.natAbs / b.natAbs := sgnInt_abs _ _
  generalize (false && decide (0 < a.natAbs / b.natAbs)) = G at *
  generalize dlen 10 (a.natAbs / b.natAbs) = qn at *
  go_wp2_with fail
  (with_reducible refine HN.out.mono ?_); rintro e w2 ⟨rfl, gg⟩
  have hqz := hqz0.keep gg
  have hb := hb.trans (gg.mono hb.size)
  have hv := hv.below gg
  have hu := hu.below gg
  have kA := kA.later gg
  have kB := kB.later gg
  have kR1 := kR1.later gg
  have kR2 := kR2.later gg
  have hlt2 := kR2.lt
  have hw02 := hw01
  have hw02' : w0.heap.size ≤ w2.heap.size := Nat.le_trans hw01 gg.size
  clear gg p1 p2 p3 p4 hqz0 HN hw02
  have gg : Below w2.heap.size w2 (w2.alloc (.cells #[.bool G, .slice qa qn qc] 56)) := (Below.refl _ _).alloc (Nat.le_refl _) _
  have kQ := Blk.new w2 #[.bool G, .slice qa qn qc] 56
  have hqz := hqz.keep gg
  have hv := hv.below gg
  have hu := hu.below gg
  have kA := kA.later gg
  have kB := kB.later gg
  have kR1 := kR1.later gg
  have kR2 := kR2.later gg
  have hb := hb.trans (gg.mono hb.size)
  obtain ⟨⟨p1, p2⟩, _⟩ := kA.two
  obtain ⟨⟨p3, p4⟩, _⟩ := kB.two
  clear gg
  have hneq : (!(decide (a < 0) == decide (b < 0))) = false := by rw [← HG1.out, ← HG2.out, hg]; rfl
  have hfd := HSZ.out.2 (.inr hneq)
  rw [hneq] at hfd
  have hfq : sgnInt false (a.natAbs / b.natAbs) = a.fdiv b := hfd.1.symm
  have HFIN := hid (show sgnInt false (a.natAbs / b.natAbs) = a.fdiv b ∧ a + -(sgnInt false (a.natAbs / b.natAbs) * b) = a.fmod b from ⟨hfq, by rw [hfq]; exact fmod_eq a b⟩)
  clear hfq hfd hneq HSZ
  generalize sgnInt false (a.natAbs / b.natAbs) = z0 at *
  have hone : dlen 10 1 = 1 := by decide
  have hz1 : dlen 10 (z0).natAbs ≤ 1000001 := by
    have h1 := dlen_mono (z0).natAbs (a.natAbs + 1) (by have := Nat.div_le_self a.natAbs b.natAbs; omega)
    have h2 := dlen_add_le a.natAbs 1
    omega
  have hz2 : dlen 10 ((z0) * b).natAbs ≤ 2000001 := by rw [Int.natAbs_mul]; have := dlen_mul_le (z0).natAbs b.natAbs; omega
  clear hone
  clear habs
  have FIN1 := hid (show a.fdiv b = z0 ∧ a.fmod b = a + -(z0 * b) from ⟨HFIN.out.1.symm, HFIN.out.2.symm⟩)
  clear HFIN
  have WSZ : w2.heap.size = w2.heap.size := rfl
  generalize hB8 : w2.heap.size = B8 at *
  clear WSZ
  go_wp2_with fail
  generalize w2.alloc (.cells #[.bool G, .slice qa qn qc] 56) = w3 at *
  clear p1 p2 p3 p4
  have kA := kA.drew
  have kB := kB.drew
  have kR1 := kR1.drew
  have kR2 := kR2.drew
  have kQ := kQ.drew
  have hv := hv.drew
  have hu := hu.drew
  have hqz := hqz.drew
  have hb := hb.drew
  refine U_begin (late := fun i => decide (7 ≤ i)) (S := fun u => Blk u w.heap.size #[.bool g1, .slice a1 n1 c1] 56 ∧ Blk u (w.heap.size + 1) #[.bool g2, .slice a2 n2 c2] 56 ∧ Blk u B8 #[.bool G, .slice qa qn qc] 56) (by kernel_rfl) ?_
  generalize w3.drew = wd at *
  refine U_take2 5 (i := 0) (v := .agg #[.bool G, .slice qa qn qc]) rfl (by kernel_rfl) (by kernel_rfl) (by kernel_rfl) (by kernel_rfl) (by kernel_rfl) (fun _ _ _ h => h) (.inl ⟨rfl, fun u hu => (by obtain ⟨⟨h1, h2⟩, _⟩ := hu.2.2.two; go_simp)⟩) ⟨kA, kB, kQ⟩ ?_
  refine U_take2 5 (i := 1) (v := .agg #[.bool g1, .slice a1 n1 c1]) rfl (by kernel_rfl) (by kernel_rfl) (by kernel_rfl) (by kernel_rfl) (by kernel_rfl) (fun _ _ _ h => h) (.inl ⟨rfl, fun u hu => (by obtain ⟨⟨h1, h2⟩, _⟩ := hu.1.two; go_simp)⟩) ⟨kA, kB, kQ⟩ ?_
  refine U_take2 5 (i := 2) (v := .agg #[.bool G, .slice qa qn qc]) rfl (by kernel_rfl) (by kernel_rfl) (by kernel_rfl) (by kernel_rfl) (by kernel_rfl) (fun _ _ _ h => h) (.inl ⟨rfl, fun u hu => (by obtain ⟨⟨h1, h2⟩, _⟩ := hu.2.2.two; go_simp)⟩) ⟨kA, kB, kQ⟩ ?_
  refine U_take2 5 (i := 3) (v := .agg #[.bool g2, .slice a2 n2 c2]) rfl (by kernel_rfl) (by kernel_rfl) (by kernel_rfl) (by kernel_rfl) (by kernel_rfl) (fun _ _ _ h => h) (.inl ⟨rfl, fun u hu => (by obtain ⟨⟨h1, h2⟩, _⟩ := hu.2.1.two; go_simp)⟩) ⟨kA, kB, kQ⟩ ?_
  refine U_step (j := 4) (by kernel_rfl) rfl (fun K hK => ?_)
  go_simp
  have hc := hid (timesR_fn hqz.num hu (by omega) (by omega))
  (with_reducible refine hc.out.mono ?_); rintro e x4 ⟨r, rfl, hr, gg⟩
  clear hc
  have hr := hr.num
  have hb := hb.trans (gg.mono hb.size)
  have kA := kA.later gg
  have kB := kB.later gg
  have kR1 := kR1.later gg
  have kR2 := kR2.later gg
  have kQ := kQ.later gg
  have hv := hv.below gg
  have hu := hu.below gg
  have hqz := hqz.keep gg
  obtain ⟨rg, ra, rn, rc, rfl⟩ := hr.shape4
  refine hK.out _ _ (.inr ⟨kA, kB, kQ⟩) ?_
  clear hK K gg
  refine U_step (j := 5) (by kernel_rfl) rfl (fun K hK => ?_)
  go_simp
  have hc := hid (oppR_fn hr (by omega))
  (with_reducible refine hc.out.mono ?_); rintro e x5 ⟨p, rfl, hp, gg⟩
  clear hc
  have hb := hb.trans (gg.mono hb.size)
  have kA := kA.later gg
  have kB := kB.later gg
  have kR1 := kR1.later gg
  have kR2 := kR2.later gg
  have kQ := kQ.later gg
  have hv := hv.below gg
  have hu := hu.below gg
  have hqz := hqz.keep gg
  obtain ⟨pg, pa, pn, pc, rfl⟩ := hp.shape4
  refine hK.out _ _ (.inr ⟨kA, kB, kQ⟩) ?_
  clear hK K gg
  refine U_step (j := 6) (by kernel_rfl) rfl (fun K hK => ?_)
  go_simp
  have hc := hid (plusR_fn hv hp (by omega) (by rw [Int.natAbs_neg]; omega))
  (with_reducible refine hc.out.mono ?_); rintro e x6 ⟨t, rfl, ht, gg⟩
  clear hc
  have htb := hb.size
  have htb2 := kR2.lt
  have hb := hb.trans (gg.mono hb.size)
  have kA := kA.later gg
  have kB := kB.later gg
  have kR1 := kR1.later gg
  have kR2 := kR2.later gg
  have kQ := kQ.later gg
  have hv := hv.below gg
  have hu := hu.below gg
  have hqz := hqz.keep gg
  obtain ⟨tg, ta, tn, tc, rfl⟩ := ht.num.shape4
  refine hK.out _ _ (.inr ⟨kA, kB, kQ⟩) ?_
  clear hK K gg
  obtain ⟨⟨r1, r2⟩, r3, r4⟩ := kR1.two
  obtain ⟨⟨r5, r6⟩, r7, r8⟩ := kR2.two
  refine U_step (j := 7) (by kernel_rfl) rfl (fun K hK => ?_)
  go_simp
  refine hK.out _ _ (.inl rfl) ?_
  clear hK K
  have kR2 := kR2.set2_ne (b := w.heap.size + 1 + 1) (by omega) (.bool G) (.slice qa qn qc)
  have kR1 := kR1.set2 (.bool G) (.slice qa qn qc)
  have hqz := hqz.set2 (b := w.heap.size + 1 + 1) (by omega) (.bool G) (.slice qa qn qc)
  have ht := ht.set2 (b := w.heap.size + 1 + 1) (by omega) (.bool G) (.slice qa qn qc)
  have hb := (hb.setCell (p := ⟨w.heap.size + 1 + 1, 0, none⟩) (by simp; omega) (.bool G)).setCell (p := ⟨w.heap.size + 1 + 1, 1, none⟩) (by simp; omega) (.slice qa qn qc)
  obtain ⟨⟨q1, q2⟩, q3, q4⟩ := kR1.two
  obtain ⟨⟨q5, q6⟩, q7, q8⟩ := kR2.two
  refine U_step (j := 8) (by kernel_rfl) rfl (fun K hK => ?_)
  go_simp
  refine hK.out _ _ (.inl rfl) ?_
  clear hK K
  refine U_done (by kernel_rfl) ?_ _
  have kR1 := kR1.set2_ne (b := w.heap.size + 1 + 1 + 1) (by omega) (.bool tg) (.slice ta tn tc)
  have kR2 := kR2.set2 (.bool tg) (.slice ta tn tc)
  have hqz := hqz.set2 (b := w.heap.size + 1 + 1 + 1) (by omega) (.bool tg) (.slice ta tn tc)
  have ht := ht.set2 (b := w.heap.size + 1 + 1 + 1) (by omega) (.bool tg) (.slice ta tn tc)
  have hb := (hb.setCell (p := ⟨w.heap.size + 1 + 1 + 1, 0, none⟩) (by simp; omega) (.bool tg)).setCell (p := ⟨w.heap.size + 1 + 1 + 1, 1, none⟩) (by simp; omega) (.slice ta tn tc)
  obtain ⟨⟨y1, y2⟩, _⟩ := kR1.two
  obtain ⟨⟨y3, y4⟩, _⟩ := kR2.two
  go_wp2
  refine bodyPost_ret (v := .tuple #[.agg #[.bool G, .slice qa qn qc], .agg #[.bool tg, .slice ta tn tc]]) (by simp [results, Tryz.results78, go_sem, y1, y2, y3, y4]) rfl ⟨_, _, rfl, ?_, ?_, hb⟩
  · rw [FIN1.out.1]
    exact hqz.mono (by omega)
  · rw [FIN1.out.2]
    exact ht.mono (by omega)
set_option maxRecDepth 100000 in
set_option maxHeartbeats 4000000 in
theorem divR_diff0 {a1 a2 : Option Addr} {n1 n2 c1 c2 : Nat} {g1 g2 : Bool} {a b : Int} {w : World} (hv : DNum w (.agg #[.bool g1, .slice a1 n1 c1]) a) (hu : DNum w (.agg #[.bool g2, .slice a2 n2 c2]) b) (hla : dlen 10 a.natAbs ≤ 1000000) (hlb : dlen 10 b.natAbs ≤ 1000000) (hb0 : b ≠ 0) (hg : (g1 == g2) = false) (hr0 : Hid (a.natAbs % b.natAbs = 0)) :
    Calls Tryz.prog 78 #[.agg #[.bool g1, .slice a1 n1 c1], .agg #[.bool g2, .slice a2 n2 c2]] w fun e w' => ∃ q r, e = .returned (.tuple #[q, r]) ∧ OwnDNum w' w.heap.size q (a.fdiv b) ∧ OwnDNum w' w.heap.size r (a.fmod b) ∧ Below w.heap.size w w' := by
  have hsz := fdiv_sizes a b hb0
  have hs := hv.rep
  have ht := hu.rep
  obtain ⟨eg1, en1⟩ := hv.parts
  obtain ⟨eg2, en2⟩ := hu.parts
  have HSZ := hid hsz
  have HG1 := hid eg1
  have HG2 := hid eg2
  have hdq : dlen 10 (a.natAbs / b.natAbs) ≤ 1000000 := Nat.le_trans (dlen_mono _ _ (Nat.div_le_self _ _)) hla
  have hpos : 0 < b.natAbs := by omega
  clear hsz eg1 eg2 en1 en2
  have k1 := Blk.new w #[.bool g1, .slice a1 n1 c1] 56
  have k2 := Blk.new (w.alloc (.cells #[.bool g1, .slice a1 n1 c1] 56)) #[.bool g2, .slice a2 n2 c2] 56
  have k3 := Blk.new ((w.alloc (.cells #[.bool g1, .slice a1 n1 c1] 56)).alloc (.cells #[.bool g2, .slice a2 n2 c2] 56)) #[.bool false, .slice none 0 0] 56
  have k4 := Blk.new (((w.alloc (.cells #[.bool g1, .slice a1 n1 c1] 56)).alloc (.cells #[.bool g2, .slice a2 n2 c2] 56)).alloc (.cells #[.bool false, .slice none 0 0] 56)) #[.bool false, .slice none 0 0] 56
  simp only [World.size_alloc] at k2 k3 k4
  have kA := ((k1.alloc (.cells #[.bool g2, .slice a2 n2 c2] 56)).alloc (.cells #[.bool false, .slice none 0 0] 56)).alloc (.cells #[.bool false, .slice none 0 0] 56)
  have kB := (k2.alloc (.cells #[.bool false, .slice none 0 0] 56)).alloc (.cells #[.bool false, .slice none 0 0] 56)
  have kR1 := k3.alloc (.cells #[.bool false, .slice none 0 0] 56)
  have kR2 := k4
  have hb : Below w.heap.size w ((((w.alloc (.cells #[.bool g1, .slice a1 n1 c1] 56)).alloc (.cells #[.bool g2, .slice a2 n2 c2] 56)).alloc (.cells #[.bool false, .slice none 0 0] 56)).alloc (.cells #[.bool false, .slice none 0 0] 56)) := ((((Below.refl _ _).alloc (Nat.le_refl _) _).alloc (by simp) _).alloc (by simp; omega) _).alloc (by simp; omega) _
  clear k1 k2 k3 k4
  have hvW := hv
  have huW := hu
  have hv := hv.below hb
  have hu := hu.below hb
  have HD := hid (dividedR_fn (hs.below hb) (ht.below hb) (by omega) (by omega) hpos)
  go_enter Tryz.func78, Tryz.ntmps78
  go_wp2_with fail
  generalize (((w.alloc (.cells #[.bool g1, .slice a1 n1 c1] 56)).alloc (.cells #[.bool g2, .slice a2 n2 c2] 56)).alloc (.cells #[.bool false, .slice none 0 0] 56)).alloc (.cells #[.bool false, .slice none 0 0] 56) = w0 at *
  obtain ⟨⟨p1, p2⟩, _⟩ := kA.two
  obtain ⟨⟨p3, p4⟩, _⟩ := kB.two
  go_wp2_with fail
  (with_reducible refine HD.out.mono ?_); rintro e w1 ⟨q, r, rfl, hq, hr, gg⟩
  obtain ⟨qa, qc, rfl⟩ := hq.dec.shape
  obtain ⟨ra0, rc0, rfl⟩ := hr.dec.shape
  have hlt0 := kR2.lt
  have hb := hb.trans (gg.mono hb.size)
  have hv := hv.below gg
  have hu := hu.below gg
  have kA := kA.later gg
  have kB := kB.later gg
  have kR1 := kR1.later gg
  have kR2 := kR2.later gg
  have hw01 := gg.size
  clear gg p1 p2 p3 p4 HD hs ht
  obtain ⟨⟨p1, p2⟩, _⟩ := kA.two
  obtain ⟨⟨p3, p4⟩, _⟩ := kB.two
  have HN := hid (num_fn hq.dec (by omega) true)
  have hqz0 : OwnDNum w1 w0.heap.size (.agg #[.bool (true && decide (0 < a.natAbs / b.natAbs)), .slice qa (dlen 10 (a.natAbs / b.natAbs)) qc]) (sgnInt true (a.natAbs / b.natAbs)) := ⟨_, by rw [sgnInt_neg], by unfold OwnDec; rw [sgnInt_abs]; exact hq⟩
  have habs : (sgnInt true (a.natAbs / b.natAbs)).natAbs = a.natAbs / b.natAbs := sgnInt_abs _ _
  generalize (true && decide (0 < a.natAbs / b.natAbs)) = G at *
  generalize dlen 10 (a.natAbs / b.natAbs) = qn at *
  go_wp2_with fail
  (with_reducible refine HN.out.mono ?_); rintro e w2 ⟨rfl, gg⟩
  have hqz := hqz0.keep gg
  have hb := hb.trans (gg.mono hb.size)
  have hv := hv.below gg
  have hu := hu.below gg
  have kA := kA.later gg
  have kB := kB.later gg
  have kR1 := kR1.later gg
  have kR2 := kR2.later gg
  have hlt2 := kR2.lt
  have hw02 := hw01
  have hw02' : w0.heap.size ≤ w2.heap.size := Nat.le_trans hw01 gg.size
  clear gg p1 p2 p3 p4 hqz0 HN hw02
  have gg : Below w2.heap.size w2 (w2.alloc (.cells #[.bool G, .slice qa qn qc] 56)) := (Below.refl _ _).alloc (Nat.le_refl _) _
  have kQ := Blk.new w2 #[.bool G, .slice qa qn qc] 56
  have hqz := hqz.keep gg
  have hv := hv.below gg
  have hu := hu.below gg
  have kA := kA.later gg
  have kB := kB.later gg
  have kR1 := kR1.later gg
  have kR2 := kR2.later gg
  have hb := hb.trans (gg.mono hb.size)
  obtain ⟨⟨p1, p2⟩, _⟩ := kA.two
  obtain ⟨⟨p3, p4⟩, _⟩ := kB.two
  clear gg
  have hneq : (!(decide (a < 0) == decide (b < 0))) = true := by rw [← HG1.out, ← HG2.out, hg]; rfl
  have hfd := HSZ.out.2 (.inl hr0.out)
  rw [hneq] at hfd
  have hfq : sgnInt true (a.natAbs / b.natAbs) = a.fdiv b := hfd.1.symm
  have HFIN := hid (show sgnInt true (a.natAbs / b.natAbs) = a.fdiv b ∧ a + -(sgnInt true (a.natAbs / b.natAbs) * b) = a.fmod b from ⟨hfq, by rw [hfq]; exact fmod_eq a b⟩)
  have hlen : dlen 10 (a.natAbs % b.natAbs) = 0 := (dlen_zero_iff 10 _ (by decide)).2 hr0.out
  rw [hlen]
  clear hfq hfd hneq HSZ hr0 hlen
  generalize sgnInt true (a.natAbs / b.natAbs) = z0 at *
  have hone : dlen 10 1 = 1 := by decide
  have hz1 : dlen 10 (z0).natAbs ≤ 1000001 := by
    have h1 := dlen_mono (z0).natAbs (a.natAbs + 1) (by have := Nat.div_le_self a.natAbs b.natAbs; omega)
    have h2 := dlen_add_le a.natAbs 1
    omega
  have hz2 : dlen 10 ((z0) * b).natAbs ≤ 2000001 := by rw [Int.natAbs_mul]; have := dlen_mul_le (z0).natAbs b.natAbs; omega
  clear hone
  clear habs
  have FIN1 := hid (show a.fdiv b = z0 ∧ a.fmod b = a + -(z0 * b) from ⟨HFIN.out.1.symm, HFIN.out.2.symm⟩)
  clear HFIN
  generalize hB8 : w2.heap.size = B8 at *
  go_wp2_with fail
  generalize w2.alloc (.cells #[.bool G, .slice qa qn qc] 56) = w3 at *
  clear p1 p2 p3 p4
  have kA := kA.drew
  have kB := kB.drew
  have kR1 := kR1.drew
  have kR2 := kR2.drew
  have kQ := kQ.drew
  have hv := hv.drew
  have hu := hu.drew
  have hqz := hqz.drew
  have hb := hb.drew
  refine U_begin (late := fun i => decide (7 ≤ i)) (S := fun u => Blk u w.heap.size #[.bool g1, .slice a1 n1 c1] 56 ∧ Blk u (w.heap.size + 1) #[.bool g2, .slice a2 n2 c2] 56 ∧ Blk u B8 #[.bool G, .slice qa qn qc] 56) (by kernel_rfl) ?_
  generalize w3.drew = wd at *
  refine U_take2 5 (i := 0) (v := .agg #[.bool G, .slice qa qn qc]) rfl (by kernel_rfl) (by kernel_rfl) (by kernel_rfl) (by kernel_rfl) (by kernel_rfl) (fun _ _ _ h => h) (.inl ⟨rfl, fun u hu => (by obtain ⟨⟨h1, h2⟩, _⟩ := hu.2.2.two; go_simp)⟩) ⟨kA, kB, kQ⟩ ?_
  refine U_take2 5 (i := 1) (v := .agg #[.bool g1, .slice a1 n1 c1]) rfl (by kernel_rfl) (by kernel_rfl) (by kernel_rfl) (by kernel_rfl) (by kernel_rfl) (fun _ _ _ h => h) (.inl ⟨rfl, fun u hu => (by obtain ⟨⟨h1, h2⟩, _⟩ := hu.1.two; go_simp)⟩) ⟨kA, kB, kQ⟩ ?_
  refine U_take2 5 (i := 2) (v := .agg #[.bool G, .slice qa qn qc]) rfl (by kernel_rfl) (by kernel_rfl) (by kernel_rfl) (by kernel_rfl) (by kernel_rfl) (fun _ _ _ h => h) (.inl ⟨rfl, fun u hu => (by obtain ⟨⟨h1, h2⟩, _⟩ := hu.2.2.two; go_simp)⟩) ⟨kA, kB, kQ⟩ ?_
  refine U_take2 5 (i := 3) (v := .agg #[.bool g2, .slice a2 n2 c2]) rfl (by kernel_rfl) (by kernel_rfl) (by kernel_rfl) (by kernel_rfl) (by kernel_rfl) (fun _ _ _ h => h) (.inl ⟨rfl, fun u hu => (by obtain ⟨⟨h1, h2⟩, _⟩ := hu.2.1.two; go_simp)⟩) ⟨kA, kB, kQ⟩ ?_
  refine U_step (j := 4) (by kernel_rfl) rfl (fun K hK => ?_)
  go_simp
  have hc := hid (timesR_fn hqz.num hu (by omega) (by omega))
  (with_reducible refine hc.out.mono ?_); rintro e x4 ⟨r, rfl, hr, gg⟩
  clear hc
  have hr := hr.num
  have hb := hb.trans (gg.mono hb.size)
  have kA := kA.later gg
  have kB := kB.later gg
  have kR1 := kR1.later gg
  have kR2 := kR2.later gg
  have kQ := kQ.later gg
  have hv := hv.below gg
  have hu := hu.below gg
  have hqz := hqz.keep gg
  obtain ⟨rg, ra, rn, rc, rfl⟩ := hr.shape4
  refine hK.out _ _ (.inr ⟨kA, kB, kQ⟩) ?_
  clear hK K gg
  refine U_step (j := 5) (by kernel_rfl) rfl (fun K hK => ?_)
  go_simp
  have hc := hid (oppR_fn hr (by omega))
  (with_reducible refine hc.out.mono ?_); rintro e x5 ⟨p, rfl, hp, gg⟩
  clear hc
  have hb := hb.trans (gg.mono hb.size)
  have kA := kA.later gg
  have kB := kB.later gg
  have kR1 := kR1.later gg
  have kR2 := kR2.later gg
  have kQ := kQ.later gg
  have hv := hv.below gg
  have hu := hu.below gg
  have hqz := hqz.keep gg
  obtain ⟨pg, pa, pn, pc, rfl⟩ := hp.shape4
  refine hK.out _ _ (.inr ⟨kA, kB, kQ⟩) ?_
  clear hK K gg
  refine U_step (j := 6) (by kernel_rfl) rfl (fun K hK => ?_)
  go_simp
  have hc := hid (plusR_fn hv hp (by omega) (by rw [Int.natAbs_neg]; omega))
  (with_reducible refine hc.out.mono ?_); rintro e x6 ⟨t, rfl, ht, gg⟩
  clear hc
  have htb := hb.size
  have htb2 := kR2.lt
  have hb := hb.trans (gg.mono hb.size)
  have kA := kA.later gg
  have kB := kB.later gg
  have kR1 := kR1.later gg
  have kR2 := kR2.later gg
  have kQ := kQ.later gg
  have hv := hv.below gg
  have hu := hu.below gg
  have hqz := hqz.keep gg
  obtain ⟨tg, ta, tn, tc, rfl⟩ := ht.num.shape4
  refine hK.out _ _ (.inr ⟨kA, kB, kQ⟩) ?_
  clear hK K gg
  obtain ⟨⟨r1, r2⟩, r3, r4⟩ := kR1.two
  obtain ⟨⟨r5, r6⟩, r7, r8⟩ := kR2.two
  refine U_step (j := 7) (by kernel_rfl) rfl (fun K hK => ?_)
  go_simp
  refine hK.out _ _ (.inl rfl) ?_
  clear hK K
  have kR2 := kR2.set2_ne (b := w.heap.size + 1 + 1) (by omega) (.bool G) (.slice qa qn qc)
  have kR1 := kR1.set2 (.bool G) (.slice qa qn qc)
  have hqz := hqz.set2 (b := w.heap.size + 1 + 1) (by omega) (.bool G) (.slice qa qn qc)
  have ht := ht.set2 (b := w.heap.size + 1 + 1) (by omega) (.bool G) (.slice qa qn qc)
  have hb := (hb.setCell (p := ⟨w.heap.size + 1 + 1, 0, none⟩) (by simp; omega) (.bool G)).setCell (p := ⟨w.heap.size + 1 + 1, 1, none⟩) (by simp; omega) (.slice qa qn qc)
  obtain ⟨⟨q1, q2⟩, q3, q4⟩ := kR1.two
  obtain ⟨⟨q5, q6⟩, q7, q8⟩ := kR2.two
  refine U_step (j := 8) (by kernel_rfl) rfl (fun K hK => ?_)
  go_simp
  refine hK.out _ _ (.inl rfl) ?_
  clear hK K
  refine U_done (by kernel_rfl) ?_ _
  have kR1 := kR1.set2_ne (b := w.heap.size + 1 + 1 + 1) (by omega) (.bool tg) (.slice ta tn tc)
  have kR2 := kR2.set2 (.bool tg) (.slice ta tn tc)
  have hqz := hqz.set2 (b := w.heap.size + 1 + 1 + 1) (by omega) (.bool tg) (.slice ta tn tc)
  have ht := ht.set2 (b := w.heap.size + 1 + 1 + 1) (by omega) (.bool tg) (.slice ta tn tc)
  have hb := (hb.setCell (p := ⟨w.heap.size + 1 + 1 + 1, 0, none⟩) (by simp; omega) (.bool tg)).setCell (p := ⟨w.heap.size + 1 + 1 + 1, 1, none⟩) (by simp; omega) (.slice ta tn tc)
  obtain ⟨⟨y1, y2⟩, _⟩ := kR1.two
  obtain ⟨⟨y3, y4⟩, _⟩ := kR2.two
  go_wp2
  refine bodyPost_ret (v := .tuple #[.agg #[.bool G, .slice qa qn qc], .agg #[.bool tg, .slice ta tn tc]]) (by simp [results, Tryz.results78, go_sem, y1, y2, y3, y4]) rfl ⟨_, _, rfl, ?_, ?_, hb⟩
  · rw [FIN1.out.1]
    exact hqz.mono (by omega)
  · rw [FIN1.out.2]
    exact ht.mono (by omega)
set_option maxRecDepth 100000 in
set_option maxHeartbeats 4000000 in
theorem divR_diff1 {a1 a2 : Option Addr} {n1 n2 c1 c2 : Nat} {g1 g2 : Bool} {a b : Int} {w : World} (hv : DNum w (.agg #[.bool g1, .slice a1 n1 c1]) a) (hu : DNum w (.agg #[.bool g2, .slice a2 n2 c2]) b) (hla : dlen 10 a.natAbs ≤ 1000000) (hlb : dlen 10 b.natAbs ≤ 1000000) (hb0 : b ≠ 0) (hg : (g1 == g2) = false) (hr0 : 0 < a.natAbs % b.natAbs) :
    Calls Tryz.prog 78 #[.agg #[.bool g1, .slice a1 n1 c1], .agg #[.bool g2, .slice a2 n2 c2]] w fun e w' => ∃ q r, e = .returned (.tuple #[q, r]) ∧ OwnDNum w' w.heap.size q (a.fdiv b) ∧ OwnDNum w' w.heap.size r (a.fmod b) ∧ Below w.heap.size w w' := by
  have hsz := fdiv_sizes a b hb0
  have hs := hv.rep
  have ht := hu.rep
  obtain ⟨eg1, en1⟩ := hv.parts
  obtain ⟨eg2, en2⟩ := hu.parts
  have HSZ := hid hsz
  have HG1 := hid eg1
  have HG2 := hid eg2
  have hdq : dlen 10 (a.natAbs / b.natAbs) ≤ 1000000 := Nat.le_trans (dlen_mono _ _ (Nat.div_le_self _ _)) hla
  have hpos : 0 < b.natAbs := by omega
  clear hsz eg1 eg2 en1 en2
  have k1 := Blk.new w #[.bool g1, .slice a1 n1 c1] 56
  have k2 := Blk.new (w.alloc (.cells #[.bool g1, .slice a1 n1 c1] 56)) #[.bool g2, .slice a2 n2 c2] 56
  have k3 := Blk.new ((w.alloc (.cells #[.bool g1, .slice a1 n1 c1] 56)).alloc (.cells #[.bool g2, .slice a2 n2 c2] 56)) #[.bool false, .slice none 0 0] 56
  have k4 := Blk.new (((w.alloc (.cells #[.bool g1, .slice a1 n1 c1] 56)).alloc (.cells #[.bool g2, .slice a2 n2 c2] 56)).alloc (.cells #[.bool false, .slice none 0 0] 56)) #[.bool false, .slice none 0 0] 56
  simp only [World.size_alloc] at k2 k3 k4
  have kA := ((k1.alloc (.cells #[.bool g2, .slice a2 n2 c2] 56)).alloc (.cells #[.bool false, .slice none 0 0] 56)).alloc (.cells #[.bool false, .slice none 0 0] 56)
  have kB := (k2.alloc (.cells #[.bool false, .slice none 0 0] 56)).alloc (.cells #[.bool false, .slice none 0 0] 56)
  have kR1 := k3.alloc (.cells #[.bool false, .slice none 0 0] 56)
  have kR2 := k4
  have hb : Below w.heap.size w ((((w.alloc (.cells #[.bool g1, .slice a1 n1 c1] 56)).alloc (.cells #[.bool g2, .slice a2 n2 c2] 56)).alloc (.cells #[.bool false, .slice none 0 0] 56)).alloc (.cells #[.bool false, .slice none 0 0] 56)) := ((((Below.refl _ _).alloc (Nat.le_refl _) _).alloc (by simp) _).alloc (by simp; omega) _).alloc (by simp; omega) _
  clear k1 k2 k3 k4
  have hvW := hv
  have huW := hu
  have hv := hv.below hb
  have hu := hu.below hb
  have HD := hid (dividedR_fn (hs.below hb) (ht.below hb) (by omega) (by omega) hpos)
  go_enter Tryz.func78, Tryz.ntmps78
  go_wp2_with fail
  generalize (((w.alloc (.cells #[.bool g1, .slice a1 n1 c1] 56)).alloc (.cells #[.bool g2, .slice a2 n2 c2] 56)).alloc (.cells #[.bool false, .slice none 0 0] 56)).alloc (.cells #[.bool false, .slice none 0 0] 56) = w0 at *
  obtain ⟨⟨p1, p2⟩, _⟩ := kA.two
  obtain ⟨⟨p3, p4⟩, _⟩ := kB.two
  go_wp2_with fail
  (with_reducible refine HD.out.mono ?_); rintro e w1 ⟨q, r, rfl, hq, hr, gg⟩
  obtain ⟨qa, qc, rfl⟩ := hq.dec.shape
  obtain ⟨ra0, rc0, rfl⟩ := hr.dec.shape
  have hlt0 := kR2.lt
  have hb := hb.trans (gg.mono hb.size)
  have hv := hv.below gg
  have hu := hu.below gg
  have kA := kA.later gg
  have kB := kB.later gg
  have kR1 := kR1.later gg
  have kR2 := kR2.later gg
  have hw01 := gg.size
  clear gg p1 p2 p3 p4 HD hs ht
  obtain ⟨⟨p1, p2⟩, _⟩ := kA.two
  obtain ⟨⟨p3, p4⟩, _⟩ := kB.two
  have HN := hid (num_fn hq.dec (by omega) true)
  have hqz0 : OwnDNum w1 w0.heap.size (.agg #[.bool (true && decide (0 < a.natAbs / b.natAbs)), .slice qa (dlen 10 (a.natAbs / b.natAbs)) qc]) (sgnInt true (a.natAbs / b.natAbs)) := ⟨_, by rw [sgnInt_neg], by unfold OwnDec; rw [sgnInt_abs]; exact hq⟩
  have habs : (sgnInt true (a.natAbs / b.natAbs)).natAbs = a.natAbs / b.natAbs := sgnInt_abs _ _
  generalize (true && decide (0 < a.natAbs / b.natAbs)) = G at *
  generalize dlen 10 (a.natAbs / b.natAbs) = qn at *
  go_wp2_with fail
  (with_reducible refine HN.out.mono ?_); rintro e w2 ⟨rfl, gg⟩
  have hqz := hqz0.keep gg
  have hb := hb.trans (gg.mono hb.size)
  have hv := hv.below gg
  have hu := hu.below gg
  have kA := kA.later gg
  have kB := kB.later gg
  have kR1 := kR1.later gg
  have kR2 := kR2.later gg
  have hlt2 := kR2.lt
  have hw02 := hw01
  have hw02' : w0.heap.size ≤ w2.heap.size := Nat.le_trans hw01 gg.size
  clear gg p1 p2 p3 p4 hqz0 HN hw02
  have gg : Below w2.heap.size w2 (w2.alloc (.cells #[.bool G, .slice qa qn qc] 56)) := (Below.refl _ _).alloc (Nat.le_refl _) _
  have kQ := Blk.new w2 #[.bool G, .slice qa qn qc] 56
  have hqz := hqz.keep gg
  have hv := hv.below gg
  have hu := hu.below gg
  have kA := kA.later gg
  have kB := kB.later gg
  have kR1 := kR1.later gg
  have kR2 := kR2.later gg
  have hb := hb.trans (gg.mono hb.size)
  obtain ⟨⟨p1, p2⟩, _⟩ := kA.two
  obtain ⟨⟨p3, p4⟩, _⟩ := kB.two
  clear gg
  have hneq : (!(decide (a < 0) == decide (b < 0))) = true := by rw [← HG1.out, ← HG2.out, hg]; rfl
  have hfd := HSZ.out.1 hr0 hneq
  rw [hneq] at hfd
  have hfq : sgnInt true (a.natAbs / b.natAbs) + -1 = a.fdiv b := hfd.1.symm
  have HFIN := hid (show sgnInt true (a.natAbs / b.natAbs) + -1 = a.fdiv b ∧ a + -((sgnInt true (a.natAbs / b.natAbs) + -1) * b) = a.fmod b from ⟨hfq, by rw [hfq]; exact fmod_eq a b⟩)
  have hlen : 0 < dlen 10 (a.natAbs % b.natAbs) := (dlen_pos_iff _).2 hr0
  clear hfq hfd hneq HSZ hr0
  generalize sgnInt true (a.natAbs / b.natAbs) = z0 at *
  have hone : dlen 10 1 = 1 := by decide
  have hz1 : dlen 10 (z0 + -1).natAbs ≤ 1000001 := by
    have h1 := dlen_mono (z0 + -1).natAbs (a.natAbs + 1) (by have := Nat.div_le_self a.natAbs b.natAbs; omega)
    have h2 := dlen_add_le a.natAbs 1
    omega
  have hz2 : dlen 10 ((z0 + -1) * b).natAbs ≤ 2000001 := by rw [Int.natAbs_mul]; have := dlen_mul_le (z0 + -1).natAbs b.natAbs; omega
  clear hone
  have hz0 : dlen 10 z0.natAbs ≤ 1000000 := by rw [habs]; exact Nat.le_trans (dlen_mono _ _ (Nat.div_le_self _ _)) hla
  clear habs
  have FIN1 := hid (show a.fdiv b = z0 + -1 ∧ a.fmod b = a + -((z0 + -1) * b) from ⟨HFIN.out.1.symm, HFIN.out.2.symm⟩)
  clear HFIN
  have hltQ := kR2.lt
  have hB3 : w.heap.size + 1 + 1 + 1 < w2.heap.size := hlt2
  generalize hB8 : w2.heap.size = B8 at *
  go_wp2_with fail
  generalize w2.alloc (.cells #[.bool G, .slice qa qn qc] 56) = w3 at *
  clear p1 p2 p3 p4 hlen
  have kA := kA.drew
  have kB := kB.drew
  have kR1 := kR1.drew
  have kR2 := kR2.drew
  have kQ := kQ.drew
  have hqz := hqz.drew
  have hb := hb.drew
  refine U_begin (late := fun i => decide (3 ≤ i)) (S := fun u => Blk u B8 #[.bool G, .slice qa qn qc] 56) (by kernel_rfl) ?_
  generalize w3.drew = wd at *
  refine U_take2 5 (i := 0) (v := .agg #[.bool G, .slice qa qn qc]) rfl (by kernel_rfl) (by kernel_rfl) (by kernel_rfl) (by kernel_rfl) (by kernel_rfl) (fun _ _ _ h => h) (.inl ⟨rfl, fun u hu => (by obtain ⟨⟨h1, h2⟩, _⟩ := hu.two; go_simp)⟩) kQ ?_
  refine U_step (j := 1) (by kernel_rfl) rfl (fun K hK => ?_)
  go_simp
  have hc := fun w => hid (whole_fn (-1) (by decide) (by decide) w)
  (with_reducible refine (hc _).out.mono ?_); rintro e x1 ⟨s, rfl, hs, gg⟩
  clear hc
  have hb := hb.trans (gg.mono hb.size)
  have kA := kA.later gg
  have kB := kB.later gg
  have kR1 := kR1.later gg
  have kR2 := kR2.later gg
  have kQ := kQ.later gg
  have hqz := hqz.keep gg
  obtain ⟨sg, sa, sn, sc, rfl⟩ := hs.num.shape4
  refine hK.out _ _ (.inr kQ) ?_
  clear hK K gg
  refine U_step (j := 2) (by kernel_rfl) rfl (fun K hK => ?_)
  go_simp
  have hc := hid (plusR_fn hqz.num hs.num (by omega) (by decide))
  (with_reducible refine hc.out.mono ?_); rintro e x2 ⟨t, rfl, ht, gg⟩
  clear hc
  have hltx := kQ.lt
  have hsbx := hb.size
  have hb := hb.trans (gg.mono hb.size)
  have kA := kA.later gg
  have kB := kB.later gg
  have kR1 := kR1.later gg
  have kR2 := kR2.later gg
  have kQ := kQ.later gg
  obtain ⟨Gq, ua, un, uc, rfl⟩ := ht.num.shape4
  refine hK.out _ _ (.inr kQ) ?_
  clear hK K gg
  obtain ⟨⟨r1, r2⟩, r3, r4⟩ := kQ.two
  refine U_step (j := 3) (by kernel_rfl) rfl (fun K hK => ?_)
  go_simp
  refine hK.out _ _ (.inl rfl) ?_
  clear hK K
  refine U_done (by kernel_rfl) ?_ _
  have kA := kA.set2_ne (b := B8) (by omega) (.bool Gq) (.slice ua un uc)
  have kB := kB.set2_ne (b := B8) (by omega) (.bool Gq) (.slice ua un uc)
  have kR1 := kR1.set2_ne (b := B8) (by omega) (.bool Gq) (.slice ua un uc)
  have kR2 := kR2.set2_ne (b := B8) (by omega) (.bool Gq) (.slice ua un uc)
  have kQ := kQ.set2 (.bool Gq) (.slice ua un uc)
  have hb := (hb.setCell (p := ⟨B8, 0, none⟩) (by simp; omega) (.bool Gq)).setCell (p := ⟨B8, 1, none⟩) (by simp; omega) (.slice ua un uc)
  have hqz := (ht.set2 (b := B8) (by omega) (.bool Gq) (.slice ua un uc)).mono (base' := w0.heap.size) (by omega)
  have hv := hvW.below hb
  have hu := huW.below hb
  clear ht
  go_wp2_with fail
  generalize (x2.setCell ⟨B8, 0, none⟩ (.bool Gq)).setCell ⟨B8, 1, none⟩ (.slice ua un uc) = w4 at *
  clear r1 r2 r3 r4
  have kA := kA.drew
  have kB := kB.drew
  have kR1 := kR1.drew
  have kR2 := kR2.drew
  have kQ := kQ.drew
  have hv := hv.drew
  have hu := hu.drew
  have hqz := hqz.drew
  have hb := hb.drew
  refine U_begin (late := fun i => decide (7 ≤ i)) (S := fun u => Blk u w.heap.size #[.bool g1, .slice a1 n1 c1] 56 ∧ Blk u (w.heap.size + 1) #[.bool g2, .slice a2 n2 c2] 56 ∧ Blk u B8 #[.bool Gq, .slice ua un uc] 56) (by kernel_rfl) ?_
  generalize w4.drew = wd at *
  refine U_take2 5 (i := 0) (v := .agg #[.bool Gq, .slice ua un uc]) rfl (by kernel_rfl) (by kernel_rfl) (by kernel_rfl) (by kernel_rfl) (by kernel_rfl) (fun _ _ _ h => h) (.inl ⟨rfl, fun u hu => (by obtain ⟨⟨h1, h2⟩, _⟩ := hu.2.2.two; go_simp)⟩) ⟨kA, kB, kQ⟩ ?_
  refine U_take2 5 (i := 1) (v := .agg #[.bool g1, .slice a1 n1 c1]) rfl (by kernel_rfl) (by kernel_rfl) (by kernel_rfl) (by kernel_rfl) (by kernel_rfl) (fun _ _ _ h => h) (.inl ⟨rfl, fun u hu => (by obtain ⟨⟨h1, h2⟩, _⟩ := hu.1.two; go_simp)⟩) ⟨kA, kB, kQ⟩ ?_
  refine U_take2 5 (i := 2) (v := .agg #[.bool Gq, .slice ua un uc]) rfl (by kernel_rfl) (by kernel_rfl) (by kernel_rfl) (by kernel_rfl) (by kernel_rfl) (fun _ _ _ h => h) (.inl ⟨rfl, fun u hu => (by obtain ⟨⟨h1, h2⟩, _⟩ := hu.2.2.two; go_simp)⟩) ⟨kA, kB, kQ⟩ ?_
  refine U_take2 5 (i := 3) (v := .agg #[.bool g2, .slice a2 n2 c2]) rfl (by kernel_rfl) (by kernel_rfl) (by kernel_rfl) (by kernel_rfl) (by kernel_rfl) (fun _ _ _ h => h) (.inl ⟨rfl, fun u hu => (by obtain ⟨⟨h1, h2⟩, _⟩ := hu.2.1.two; go_simp)⟩) ⟨kA, kB, kQ⟩ ?_
  refine U_step (j := 4) (by kernel_rfl) rfl (fun K hK => ?_)
  go_simp
  have hc := hid (timesR_fn hqz.num hu (by omega) (by omega))
  (with_reducible refine hc.out.mono ?_); rintro e x4 ⟨r, rfl, hr, gg⟩
  clear hc
  have hr := hr.num
  have hb := hb.trans (gg.mono hb.size)
  have kA := kA.later gg
  have kB := kB.later gg
  have kR1 := kR1.later gg
  have kR2 := kR2.later gg
  have kQ := kQ.later gg
  have hv := hv.below gg
  have hu := hu.below gg
  have hqz := hqz.keep gg
  obtain ⟨rg, ra, rn, rc, rfl⟩ := hr.shape4
  refine hK.out _ _ (.inr ⟨kA, kB, kQ⟩) ?_
  clear hK K gg
  refine U_step (j := 5) (by kernel_rfl) rfl (fun K hK => ?_)
  go_simp
  have hc := hid (oppR_fn hr (by omega))
  (with_reducible refine hc.out.mono ?_); rintro e x5 ⟨p, rfl, hp, gg⟩
  clear hc
  have hb := hb.trans (gg.mono hb.size)
  have kA := kA.later gg
  have kB := kB.later gg
  have kR1 := kR1.later gg
  have kR2 := kR2.later gg
  have kQ := kQ.later gg
  have hv := hv.below gg
  have hu := hu.below gg
  have hqz := hqz.keep gg
  obtain ⟨pg, pa, pn, pc, rfl⟩ := hp.shape4
  refine hK.out _ _ (.inr ⟨kA, kB, kQ⟩) ?_
  clear hK K gg
  refine U_step (j := 6) (by kernel_rfl) rfl (fun K hK => ?_)
  go_simp
  have hc := hid (plusR_fn hv hp (by omega) (by rw [Int.natAbs_neg]; omega))
  (with_reducible refine hc.out.mono ?_); rintro e x6 ⟨t, rfl, ht, gg⟩
  clear hc
  have htb := hb.size
  have htb2 := kR2.lt
  have hb := hb.trans (gg.mono hb.size)
  have kA := kA.later gg
  have kB := kB.later gg
  have kR1 := kR1.later gg
  have kR2 := kR2.later gg
  have kQ := kQ.later gg
  have hv := hv.below gg
  have hu := hu.below gg
  have hqz := hqz.keep gg
  obtain ⟨tg, ta, tn, tc, rfl⟩ := ht.num.shape4
  refine hK.out _ _ (.inr ⟨kA, kB, kQ⟩) ?_
  clear hK K gg
  obtain ⟨⟨r1, r2⟩, r3, r4⟩ := kR1.two
  obtain ⟨⟨r5, r6⟩, r7, r8⟩ := kR2.two
  refine U_step (j := 7) (by kernel_rfl) rfl (fun K hK => ?_)
  go_simp
  refine hK.out _ _ (.inl rfl) ?_
  clear hK K
  have kR2 := kR2.set2_ne (b := w.heap.size + 1 + 1) (by omega) (.bool Gq) (.slice ua un uc)
  have kR1 := kR1.set2 (.bool Gq) (.slice ua un uc)
  have hqz := hqz.set2 (b := w.heap.size + 1 + 1) (by omega) (.bool Gq) (.slice ua un uc)
  have ht := ht.set2 (b := w.heap.size + 1 + 1) (by omega) (.bool Gq) (.slice ua un uc)
  have hb := (hb.setCell (p := ⟨w.heap.size + 1 + 1, 0, none⟩) (by simp; omega) (.bool Gq)).setCell (p := ⟨w.heap.size + 1 + 1, 1, none⟩) (by simp; omega) (.slice ua un uc)
  obtain ⟨⟨q1, q2⟩, q3, q4⟩ := kR1.two
  obtain ⟨⟨q5, q6⟩, q7, q8⟩ := kR2.two
  refine U_step (j := 8) (by kernel_rfl) rfl (fun K hK => ?_)
  go_simp
  refine hK.out _ _ (.inl rfl) ?_
  clear hK K
  refine U_done (by kernel_rfl) ?_ _
  have kR1 := kR1.set2_ne (b := w.heap.size + 1 + 1 + 1) (by omega) (.bool tg) (.slice ta tn tc)
  have kR2 := kR2.set2 (.bool tg) (.slice ta tn tc)
  have hqz := hqz.set2 (b := w.heap.size + 1 + 1 + 1) (by omega) (.bool tg) (.slice ta tn tc)
  have ht := ht.set2 (b := w.heap.size + 1 + 1 + 1) (by omega) (.bool tg) (.slice ta tn tc)
  have hb := (hb.setCell (p := ⟨w.heap.size + 1 + 1 + 1, 0, none⟩) (by simp; omega) (.bool tg)).setCell (p := ⟨w.heap.size + 1 + 1 + 1, 1, none⟩) (by simp; omega) (.slice ta tn tc)
  obtain ⟨⟨y1, y2⟩, _⟩ := kR1.two
  obtain ⟨⟨y3, y4⟩, _⟩ := kR2.two
  go_wp2
  refine bodyPost_ret (v := .tuple #[.agg #[.bool Gq, .slice ua un uc], .agg #[.bool tg, .slice ta tn tc]]) (by simp [results, Tryz.results78, go_sem, y1, y2, y3, y4]) rfl ⟨_, _, rfl, ?_, ?_, hb⟩
  · rw [FIN1.out.1]
    exact hqz.mono (by omega)
  · rw [FIN1.out.2]
    exact ht.mono (by omega)
theorem divR_fn {v u : Value} {a b : Int} {w : World} (hv : DNum w v a) (hu : DNum w u b) (hla : dlen 10 a.natAbs ≤ 1000000) (hlb : dlen 10 b.natAbs ≤ 1000000) (hb0 : b ≠ 0) :
    Calls Tryz.prog 78 #[v, u] w fun e w' => ∃ q r, e = .returned (.tuple #[q, r]) ∧ OwnDNum w' w.heap.size q (a.fdiv b) ∧ OwnDNum w' w.heap.size r (a.fmod b) ∧ Below w.heap.size w w' := by
  obtain ⟨g1, a1, n1, c1, rfl⟩ := hv.shape4
  obtain ⟨g2, a2, n2, c2, rfl⟩ := hu.shape4
  cases hg : (g1 == g2) with
  | true => exact divR_same hv hu hla hlb hb0 hg
  | false =>
    rcases Nat.eq_zero_or_pos (a.natAbs % b.natAbs) with h | h
    · exact divR_diff0 hv hu hla hlb hb0 hg (hid h)
    · exact divR_diff1 hv hu hla hlb hb0 hg h
end Go.Proofs.YtkhgoeippamobaaGreatDoor
/-
  The reference: Mul, Gcd.
-/
namespace Go.Proofs.YtkhgoeippamobaaGreatDoor
open Go.RowKit
theorem neg_two {a b : List UInt8} {pe z : Int} (h : ¬ (pOK a = true ∧ pOK b = true)) : twoRes a b pe z = ([], 2) := by unfold twoRes; rw [if_neg h]
set_option maxRecDepth 100000 in
set_option maxHeartbeats 4000000 in
theorem mulR_fn (a b : List UInt8) (ha : a.length ≤ 2000000) (hb : b.length ≤ 2000000) (w : World) :
    Calls Tryz.prog 24 #[.string ⟨a.toArray⟩, .string ⟨b.toArray⟩] w fun e w' => e = .returned (.tuple #[.string ⟨(mulRes a b).1.toArray⟩, .int .i64 (mulRes a b).2]) ∧ Below w.heap.size w w' := by
  have hB := hid (both_fn a b ha hb w)
  unfold BothQ at hB
  clear ha hb
  by_cases hok : pOK a = true ∧ pOK b = true
  case neg =>
    have hf : (pOK a && pOK b) = false := by
      cases h1 : pOK a <;> cases h2 : pOK b <;> simp_all
    have HR := hid (show mulRes a b = ([], 2) by exact neg_two hok)
    rw [hf] at hB
    have hB := hid hB.out
    clear hok hf
    go_enter Tryz.func24, Tryz.ntmps24
    go_wp2_with fail
    (with_reducible refine hB.out.mono ?_); rintro e w1 ⟨g1, s1, n1, c1, g2, s2, n2, c2, rfl, hb1, -⟩
    have hsz := hb1.size
    go_wp2
    go_ret2
    exact ⟨by rw [HR.out]; rfl, (hb1.alloc hsz _).alloc (by simp; omega) _⟩
  case pos =>
    have HR := hid (show mulRes a b = if big600 ≤ (pVal a).natAbs ∨ big600 ≤ (pVal b).natAbs then ([], 4) else resOf (pVal a * pVal b) by unfold mulRes twoRes; rw [if_pos hok, if_neg (by simp)])
    obtain ⟨oa, ob⟩ := hok
    rw [oa, ob] at hB
    have hB := hid hB.out
    go_enter Tryz.func24, Tryz.ntmps24
    go_wp2_with fail
    (with_reducible refine hB.out.mono ?_); rintro e w1 ⟨g1, s1, n1, c1, g2, s2, n2, c2, rfl, hb, hn⟩
    obtain ⟨⟨x', hx, hlx, hcx⟩, ⟨y', hy, hly, hcy⟩⟩ := hn (by first | rfl | trivial)
    have HAB := hid (anyBig_two hcx hcy)
    have HCX := hid hcx.small
    have HCY := hid hcy.small
    have HCYB := hid hcy
    clear hn hB oa ob hcx hcy
    have kX := Blk.new w1 #[.bool g1, .slice s1 n1 c1] 56
    have kY := Blk.new (w1.alloc (.cells #[.bool g1, .slice s1 n1 c1] 56)) #[.bool g2, .slice s2 n2 c2] 56
    simp only [World.size_alloc] at kY
    have kX := kX.alloc (.cells #[.bool g2, .slice s2 n2 c2] 56)
    have gg : Below w1.heap.size w1 ((w1.alloc (.cells #[.bool g1, .slice s1 n1 c1] 56)).alloc (.cells #[.bool g2, .slice s2 n2 c2] 56)) := ((Below.refl _ _).alloc (Nat.le_refl _) _).alloc (by simp) _
    have hx := hx.below gg
    have hy := hy.below gg
    have hb := hb.trans (gg.mono hb.size)
    clear gg
    have kN := Blk.new ((w1.alloc (.cells #[.bool g1, .slice s1 n1 c1] 56)).alloc (.cells #[.bool g2, .slice s2 n2 c2] 56)) #[.bool g1, .slice s1 n1 c1, .bool g2, .slice s2 n2 c2] 56
    have gg : Below ((w1.alloc (.cells #[.bool g1, .slice s1 n1 c1] 56)).alloc (.cells #[.bool g2, .slice s2 n2 c2] 56)).heap.size ((w1.alloc (.cells #[.bool g1, .slice s1 n1 c1] 56)).alloc (.cells #[.bool g2, .slice s2 n2 c2] 56)) (((w1.alloc (.cells #[.bool g1, .slice s1 n1 c1] 56)).alloc (.cells #[.bool g2, .slice s2 n2 c2] 56)).alloc (.cells #[.bool g1, .slice s1 n1 c1, .bool g2, .slice s2 n2 c2] 56)) := (Below.refl _ _).alloc (Nat.le_refl _) _
    obtain ⟨⟨p1, p2⟩, q1, q2⟩ := kX.two
    obtain ⟨⟨p3, p4⟩, q3, q4⟩ := kY.two
    have hx := hx.below gg
    have hy := hy.below gg
    have hb := hb.trans (gg.mono hb.size)
    have hN := Nums.mk2 kN hx hy
    have kX := kX.later gg
    have kY := kY.later gg
    simp only [World.size_alloc] at hN
    have hsc := hid (short_fn hN (fun x hm => by simp at hm; rcases hm with rfl | rfl <;> omega) (by simp))
    rw [HAB.out] at hsc
    clear gg kN hN
    go_wp2_with fail
    (with_reducible refine hsc.out.mono ?_); rintro e w2 ⟨rfl, gg⟩
    have hx := hx.below gg
    have hy := hy.below gg
    have hb := hb.trans (gg.mono hb.size)
    have kX := kX.later gg
    have kY := kY.later gg
    clear p1 p2 p3 p4 q1 q2 q3 q4 hsc gg
    generalize w1.heap.size = B1 at *
    by_cases hbig : big600 ≤ (pVal a).natAbs ∨ big600 ≤ (pVal b).natAbs
    · have hT : (!(decide (big600 ≤ (pVal a).natAbs) || decide (big600 ≤ (pVal b).natAbs))) = false := by
        rcases hbig with h | h <;> rw [decide_eq_true h] <;> simp
      have HR2 := hid (show mulRes a b = ([], 4) by rw [HR.out, if_pos hbig])
      rw [hT]
      clear hbig hT
      go_wp2
      go_ret2
      exact ⟨by rw [HR2.out]; rfl, hb⟩
    · have hT : (!(decide (big600 ≤ (pVal a).natAbs) || decide (big600 ≤ (pVal b).natAbs))) = true := by
        rw [decide_eq_false (show ¬ big600 ≤ (pVal a).natAbs by omega), decide_eq_false (show ¬ big600 ≤ (pVal b).natAbs by omega)]; rfl
      have ex : x' = pVal a := HCX.out (by omega)
      have ey : y' = pVal b := HCY.out (by omega)
      have hdx : dlen 10 x'.natAbs ≤ 600 := (digits_600 _).2 (by rw [ex]; omega)
      have hdy : dlen 10 y'.natAbs ≤ 600 := (digits_600 _).2 (by rw [ey]; omega)
      have EX := hid ex
      have EY := hid ey
      have HBIG := hid hbig
      obtain ⟨⟨p1, p2⟩, q1, q2⟩ := kX.two
      obtain ⟨⟨p3, p4⟩, q3, q4⟩ := kY.two
      rw [hT]
      clear hbig hT ex ey
      have HT := hid (timesR_fn hx hy (by omega) (by omega))
      have HR2 := hid (show mulRes a b = resOf (x' * y') by rw [HR.out, if_neg HBIG.out, EX.out, EY.out])
      have hdm : dlen 10 (x' * y').natAbs ≤ 1200 := by rw [Int.natAbs_mul]; have := dlen_mul_le x'.natAbs y'.natAbs; omega
      go_wp2_with fail
      (with_reducible refine HT.out.mono ?_); rintro e w3 ⟨q, rfl, hq, gg⟩
      have hb := hb.trans (gg.mono hb.size)
      obtain ⟨qg, qa, qn, qc, rfl⟩ := hq.num.shape4
      have HTO := hid (told_fn hq.num (by omega) (Nums.nil _) (fun x h => by cases h) (by decide))
      rw [toldRes_nil] at HTO
      clear gg
      go_wp2_with fail
      (with_reducible refine HTO.out.mono ?_); rintro e w4 ⟨rfl, gg⟩
      have hb := hb.trans (gg.mono hb.size)
      go_wp2
      go_ret2
      exact ⟨by rw [HR2.out]; rfl, hb⟩
set_option maxRecDepth 100000 in
set_option maxHeartbeats 4000000 in
theorem gcdR_fn (a b : List UInt8) (ha : a.length ≤ 2000000) (hb : b.length ≤ 2000000) (w : World) :
    Calls Tryz.prog 30 #[.string ⟨a.toArray⟩, .string ⟨b.toArray⟩] w fun e w' => e = .returned (.tuple #[.string ⟨(gcdRes a b).1.toArray⟩, .int .i64 (gcdRes a b).2]) ∧ Below w.heap.size w w' := by
  have hB := hid (both_fn a b ha hb w)
  unfold BothQ at hB
  clear ha hb
  by_cases hok : pOK a = true ∧ pOK b = true
  case neg =>
    have hf : (pOK a && pOK b) = false := by
      cases h1 : pOK a <;> cases h2 : pOK b <;> simp_all
    have HR := hid (show gcdRes a b = ([], 2) by exact neg_two hok)
    rw [hf] at hB
    have hB := hid hB.out
    clear hok hf
    go_enter Tryz.func30, Tryz.ntmps30
    go_wp2_with fail
    (with_reducible refine hB.out.mono ?_); rintro e w1 ⟨g1, s1, n1, c1, g2, s2, n2, c2, rfl, hb1, -⟩
    have hsz := hb1.size
    go_wp2
    go_ret2
    exact ⟨by rw [HR.out]; rfl, (hb1.alloc hsz _).alloc (by simp; omega) _⟩
  case pos =>
    have HR := hid (show gcdRes a b = if big600 ≤ (pVal a).natAbs ∨ big600 ≤ (pVal b).natAbs then ([], 4) else resOf (gcdI (pVal a) (pVal b)) by unfold gcdRes twoRes; rw [if_pos hok, if_neg (by simp)])
    obtain ⟨oa, ob⟩ := hok
    rw [oa, ob] at hB
    have hB := hid hB.out
    go_enter Tryz.func30, Tryz.ntmps30
    go_wp2_with fail
    (with_reducible refine hB.out.mono ?_); rintro e w1 ⟨g1, s1, n1, c1, g2, s2, n2, c2, rfl, hb, hn⟩
    obtain ⟨⟨x', hx, hlx, hcx⟩, ⟨y', hy, hly, hcy⟩⟩ := hn (by first | rfl | trivial)
    have HAB := hid (anyBig_two hcx hcy)
    have HCX := hid hcx.small
    have HCY := hid hcy.small
    have HCYB := hid hcy
    clear hn hB oa ob hcx hcy
    have kX := Blk.new w1 #[.bool g1, .slice s1 n1 c1] 56
    have kY := Blk.new (w1.alloc (.cells #[.bool g1, .slice s1 n1 c1] 56)) #[.bool g2, .slice s2 n2 c2] 56
    simp only [World.size_alloc] at kY
    have kX := kX.alloc (.cells #[.bool g2, .slice s2 n2 c2] 56)
    have gg : Below w1.heap.size w1 ((w1.alloc (.cells #[.bool g1, .slice s1 n1 c1] 56)).alloc (.cells #[.bool g2, .slice s2 n2 c2] 56)) := ((Below.refl _ _).alloc (Nat.le_refl _) _).alloc (by simp) _
    have hx := hx.below gg
    have hy := hy.below gg
    have hb := hb.trans (gg.mono hb.size)
    clear gg
    have kN := Blk.new ((w1.alloc (.cells #[.bool g1, .slice s1 n1 c1] 56)).alloc (.cells #[.bool g2, .slice s2 n2 c2] 56)) #[.bool g1, .slice s1 n1 c1, .bool g2, .slice s2 n2 c2] 56
    have gg : Below ((w1.alloc (.cells #[.bool g1, .slice s1 n1 c1] 56)).alloc (.cells #[.bool g2, .slice s2 n2 c2] 56)).heap.size ((w1.alloc (.cells #[.bool g1, .slice s1 n1 c1] 56)).alloc (.cells #[.bool g2, .slice s2 n2 c2] 56)) (((w1.alloc (.cells #[.bool g1, .slice s1 n1 c1] 56)).alloc (.cells #[.bool g2, .slice s2 n2 c2] 56)).alloc (.cells #[.bool g1, .slice s1 n1 c1, .bool g2, .slice s2 n2 c2] 56)) := (Below.refl _ _).alloc (Nat.le_refl _) _
    obtain ⟨⟨p1, p2⟩, q1, q2⟩ := kX.two
    obtain ⟨⟨p3, p4⟩, q3, q4⟩ := kY.two
    have hx := hx.below gg
    have hy := hy.below gg
    have hb := hb.trans (gg.mono hb.size)
    have hN := Nums.mk2 kN hx hy
    have kX := kX.later gg
    have kY := kY.later gg
    simp only [World.size_alloc] at hN
    have hsc := hid (short_fn hN (fun x hm => by simp at hm; rcases hm with rfl | rfl <;> omega) (by simp))
    rw [HAB.out] at hsc
    clear gg kN hN
    go_wp2_with fail
    (with_reducible refine hsc.out.mono ?_); rintro e w2 ⟨rfl, gg⟩
    have hx := hx.below gg
    have hy := hy.below gg
    have hb := hb.trans (gg.mono hb.size)
    have kX := kX.later gg
    have kY := kY.later gg
    clear p1 p2 p3 p4 q1 q2 q3 q4 hsc gg
    generalize w1.heap.size = B1 at *
    by_cases hbig : big600 ≤ (pVal a).natAbs ∨ big600 ≤ (pVal b).natAbs
    · have hT : (!(decide (big600 ≤ (pVal a).natAbs) || decide (big600 ≤ (pVal b).natAbs))) = false := by
        rcases hbig with h | h <;> rw [decide_eq_true h] <;> simp
      have HR2 := hid (show gcdRes a b = ([], 4) by rw [HR.out, if_pos hbig])
      rw [hT]
      clear hbig hT
      go_wp2
      go_ret2
      exact ⟨by rw [HR2.out]; rfl, hb⟩
    · have hT : (!(decide (big600 ≤ (pVal a).natAbs) || decide (big600 ≤ (pVal b).natAbs))) = true := by
        rw [decide_eq_false (show ¬ big600 ≤ (pVal a).natAbs by omega), decide_eq_false (show ¬ big600 ≤ (pVal b).natAbs by omega)]; rfl
      have ex : x' = pVal a := HCX.out (by omega)
      have ey : y' = pVal b := HCY.out (by omega)
      have hdx : dlen 10 x'.natAbs ≤ 600 := (digits_600 _).2 (by rw [ex]; omega)
      have hdy : dlen 10 y'.natAbs ≤ 600 := (digits_600 _).2 (by rw [ey]; omega)
      have EX := hid ex
      have EY := hid ey
      have HBIG := hid hbig
      obtain ⟨⟨p1, p2⟩, q1, q2⟩ := kX.two
      obtain ⟨⟨p3, p4⟩, q3, q4⟩ := kY.two
      rw [hT]
      clear hbig hT ex ey
      have HR2 := hid (show gcdRes a b = resOf ((Nat.gcd x'.natAbs y'.natAbs : Nat) : Int) by rw [HR.out, if_neg HBIG.out, EX.out, EY.out]; rfl)
      have hgs := gcd_small ((digits_600 _).1 hdx) ((digits_600 _).1 hdy)
      have HR3 := hid (show gcdRes a b = (numText 10 (Nat.gcd x'.natAbs y'.natAbs) false, 0) by rw [HR2.out]; unfold resOf; rw [Int.natAbs_natCast, if_pos hgs, decide_eq_false (show ¬ ((Nat.gcd x'.natAbs y'.natAbs : Nat) : Int) < 0 by omega)])
      have HGS := hid hgs
      have hm := hx.rep
      have hn := hy.rep
      clear hgs HR2
      generalize x'.natAbs = M at *
      generalize y'.natAbs = N at *
      go_wp2_with fail
      go_quiet (fail)
      have hm := hm.below (below_drewN (Below.refl w2.heap.size w2) nq)
      have hn := hn.below (below_drewN (Below.refl w2.heap.size w2) nq)
      have hb := below_drewN hb nq
      generalize w2.drewN nq = wd at *
      clear kX kY p1 p2 p3 p4 q1 q2 q3 q4 hx hy
      go_wp2_with fail
      go_loopg [9, 10] N (fun g mv nv wr => ∃ p q : Nat, g = q ∧ Nat.gcd p q = Nat.gcd M N ∧ dlen 10 p ≤ 600 ∧ dlen 10 q ≤ 600 ∧ DecRep wr mv p ∧ DecRep wr nv q ∧ Below w.heap.size w wr)
      case atStart => exact ⟨M, N, rfl, rfl, hdx, hdy, hm, hn, hb⟩
      case round =>
        obtain ⟨p, q, hg, hgcd, hp6, hq6, hpm, hqn, hbr⟩ := hrel
        obtain rfl := hg.symm
        have HGC := hid hgcd
        obtain ⟨pa, pc, rfl⟩ := hpm.shape
        obtain ⟨qa, qc, rfl⟩ := hqn.shape
        clear hgcd hm hn hb
        have hszr := hbr.size
        by_cases hq0 : 0 < q
        · have hlen : 0 < dlen 10 q := (dlen_pos_iff q).2 hq0
          have HD := hid (dividedR_fn hpm hqn (by omega) (by omega) hq0)
          have hmod := Nat.mod_lt p hq0
          have HMOD := hid hmod
          have HG2 := hid (show Nat.gcd q (p % q) = Nat.gcd M N by rw [← HGC.out, Nat.gcd_comm p q, Nat.gcd_rec q p, Nat.gcd_comm])
          have hr6 : dlen 10 (p % q) ≤ 600 := Nat.le_trans (dlen_mono _ _ (Nat.le_of_lt hmod)) hq6
          clear hmod hq0
          go_wp2_with fail
          (with_reducible refine HD.out.mono ?_); rintro e w3 ⟨u1, u2, rfl, hu1, hu2, gg⟩
          obtain ⟨va, vc, rfl⟩ := hu1.dec.shape
          obtain ⟨wa, wc, rfl⟩ := hu2.dec.shape
          have hb3 := hbr.trans (gg.mono hszr)
          have hq3 := hqn.below gg
          go_wp2
          go_roundg (p % q)
          case measure => exact HMOD.out
          case rel => exact ⟨q, p % q, rfl, HG2.out, hq6, hr6, hq3, hu2.dec, hb3⟩
        · have hq00 : q = 0 := by omega
          have HGE := hid (show Nat.gcd M N = p by rw [← HGC.out, hq00, Nat.gcd_zero_right])
          have hlen : dlen 10 q = 0 := (dlen_zero_iff 10 q (by decide)).2 hq00
          rw [hlen]
          have HN := hid (num_fn hpm (by omega) false)
          have HRF := hid (show gcdRes a b = (numText 10 p false, 0) by rw [HR3.out, HGE.out])
          rw [Bool.false_and] at HN
          clear hlen hq00 hq0 HGC HGE HR3
          go_wp2_with fail
          (with_reducible refine HN.out.mono ?_); rintro e w3 ⟨rfl, gg⟩
          have hb3 := hbr.trans (gg.mono hszr)
          have hD : DNum w3 (.agg #[.bool false, .slice pa (dlen 10 p) pc]) ((p : Nat) : Int) := ⟨_, by rw [decide_eq_false (show ¬ ((p : Nat) : Int) < 0 by omega)], by rw [Int.natAbs_natCast]; exact hpm.below gg⟩
          have HT := hid (textR_fn hD (by rw [Int.natAbs_natCast]; omega))
          rw [Int.natAbs_natCast, decide_eq_false (show ¬ ((p : Nat) : Int) < 0 by omega)] at HT
          go_wp2_with fail
          (with_reducible refine HT.out.mono ?_); rintro e w4 ⟨rfl, gg4⟩
          go_wp2
          go_ret2
          exact ⟨by rw [HRF.out]; rfl, hb3.trans (gg4.mono hb3.size)⟩
end Go.Proofs.YtkhgoeippamobaaGreatDoor
/-
  The reference: Div.
-/
namespace Go.Proofs.YtkhgoeippamobaaGreatDoor
open Go.RowKit
/-- what Div answers of two numbers that are not too long -/
def divOK (x y : Int) : Value := if (resOf (x.fdiv y)).2 = 0 then .tuple #[.string ⟨(resOf (x.fdiv y)).1.toArray⟩, .string ⟨(resOf (x.fmod y)).1.toArray⟩, .int .i64 (resOf (x.fmod y)).2] else .tuple #[.string ⟨#[]⟩, .string ⟨#[]⟩, .int .i64 (resOf (x.fdiv y)).2]
theorem divVal_neg {a b : List UInt8} (h : ¬ (pOK a = true ∧ pOK b = true)) : divVal a b = .tuple #[.string ⟨#[]⟩, .string ⟨#[]⟩, .int .i64 2] := by
  have h1 : quoRes a b = ([], 2) := neg_two h
  unfold divVal
  rw [h1]
  rfl
theorem divVal_zero {a b : List UInt8} (h : pOK a = true ∧ pOK b = true) (hz : pVal b = 0) : divVal a b = .tuple #[.string ⟨#[]⟩, .string ⟨#[]⟩, .int .i64 10] := by
  have h1 : quoRes a b = ([], 10) := by
    unfold quoRes twoRes divPe
    rw [if_pos h, if_pos hz, if_pos (by decide)]
  unfold divVal
  rw [h1]
  rfl
theorem divVal_pos {a b : List UInt8} (h : pOK a = true ∧ pOK b = true) (hz : pVal b ≠ 0) : divVal a b = if big600 ≤ (pVal a).natAbs ∨ big600 ≤ (pVal b).natAbs then .tuple #[.string ⟨#[]⟩, .string ⟨#[]⟩, .int .i64 4] else divOK (pVal a) (pVal b) := by
  have hp : divPe b = 0 := by unfold divPe; rw [if_neg hz]
  have h1 : quoRes a b = if big600 ≤ (pVal a).natAbs ∨ big600 ≤ (pVal b).natAbs then ([], 4) else resOf ((pVal a).fdiv (pVal b)) := by
    unfold quoRes twoRes
    rw [hp, if_pos h, if_neg (by simp)]
  have h2 : remRes a b = if big600 ≤ (pVal a).natAbs ∨ big600 ≤ (pVal b).natAbs then ([], 4) else resOf ((pVal a).fmod (pVal b)) := by
    unfold remRes twoRes
    rw [hp, if_pos h, if_neg (by simp)]
  unfold divVal divOK
  rw [h1, h2]
  by_cases hb : big600 ≤ (pVal a).natAbs ∨ big600 ≤ (pVal b).natAbs
  · simp only [if_pos hb]
    rfl
  · simp only [if_neg hb]
theorem divOK_small {x y : Int} (h : (x.fdiv y).natAbs < big600) (h2 : (x.fmod y).natAbs < big600) : divOK x y = .tuple #[.string ⟨(numText 10 (x.fdiv y).natAbs (decide (x.fdiv y < 0))).toArray⟩, .string ⟨(numText 10 (x.fmod y).natAbs (decide (x.fmod y < 0))).toArray⟩, .int .i64 0] := by
  have e1 : resOf (x.fdiv y) = (numText 10 (x.fdiv y).natAbs (decide (x.fdiv y < 0)), 0) := by unfold resOf; rw [if_pos h]
  have e2 : resOf (x.fmod y) = (numText 10 (x.fmod y).natAbs (decide (x.fmod y < 0)), 0) := by unfold resOf; rw [if_pos h2]
  unfold divOK
  rw [e1, e2]
  rfl
theorem divOK_big {x y : Int} (h : ¬ (x.fdiv y).natAbs < big600) : divOK x y = .tuple #[.string ⟨#[]⟩, .string ⟨#[]⟩, .int .i64 4] := by
  have e1 : resOf (x.fdiv y) = ([], 4) := by unfold resOf; rw [if_neg h]
  unfold divOK
  rw [e1]
  rfl
theorem fdiv_le (a b : Int) (hb : b ≠ 0) : (a.fdiv b).natAbs ≤ a.natAbs + 1 := by
  have h1 := Nat.div_le_self a.natAbs b.natAbs
  have hsz := fdiv_sizes a b hb
  by_cases hr : 0 < a.natAbs % b.natAbs ∧ (!(decide (a < 0) == decide (b < 0))) = true
  · have := (hsz.1 hr.1 hr.2).1
    rw [this]
    have h2 := sgnInt_abs (!(decide (a < 0) == decide (b < 0))) (a.natAbs / b.natAbs)
    omega
  · have hr2 : a.natAbs % b.natAbs = 0 ∨ (!(decide (a < 0) == decide (b < 0))) = false := by
      cases h3 : (!(decide (a < 0) == decide (b < 0)))
      · exact .inr rfl
      · left
        rw [h3] at hr
        exact Nat.eq_zero_of_not_pos fun h => hr ⟨h, rfl⟩
    have := (hsz.2 hr2).1
    rw [this]
    have h2 := sgnInt_abs (!(decide (a < 0) == decide (b < 0))) (a.natAbs / b.natAbs)
    omega
set_option maxRecDepth 100000 in
set_option maxHeartbeats 4000000 in
theorem divRf_fn (a b : List UInt8) (ha : a.length ≤ 2000000) (hb : b.length ≤ 2000000) (w : World) :
    Calls Tryz.prog 26 #[.string ⟨a.toArray⟩, .string ⟨b.toArray⟩] w fun e w' => e = .returned (divVal a b) ∧ Below w.heap.size w w' := by
  have hB := hid (both_fn a b ha hb w)
  unfold BothQ at hB
  clear ha hb
  by_cases hok : pOK a = true ∧ pOK b = true
  case neg =>
    have hf : (pOK a && pOK b) = false := by
      cases h1 : pOK a <;> cases h2 : pOK b <;> simp_all
    have HR := hid (show divVal a b = .tuple #[.string ⟨#[]⟩, .string ⟨#[]⟩, .int .i64 2] by exact divVal_neg hok)
    rw [hf] at hB
    have hB := hid hB.out
    clear hok hf
    go_enter Tryz.func26, Tryz.ntmps26
    go_wp2_with fail
    (with_reducible refine hB.out.mono ?_); rintro e w1 ⟨g1, s1, n1, c1, g2, s2, n2, c2, rfl, hb1, -⟩
    have hsz := hb1.size
    go_wp2
    go_ret3
    exact ⟨by rw [HR.out]; rfl, (hb1.alloc hsz _).alloc (by simp; omega) _⟩
  case pos =>
    rcases Decidable.em (pVal b = 0) with hz | hz
    · have HR := hid (divVal_zero hok hz)
      have HZ := hid hz
      obtain ⟨oa, ob⟩ := hok
      rw [oa, ob] at hB
      have hB := hid hB.out
      clear hz oa ob
      go_enter Tryz.func26, Tryz.ntmps26
      go_wp2_with fail
      (with_reducible refine hB.out.mono ?_); rintro e w1 ⟨g1, s1, n1, c1, g2, s2, n2, c2, rfl, hb, hn⟩
      obtain ⟨-, ⟨y', hy, hly, hcy⟩⟩ := hn (by first | rfl | trivial)
      have hy0 : y' = 0 := by
        rcases hcy with h | ⟨_, h, _⟩
        · rw [h]; exact HZ.out
        · have h1 := big600_pos
          have h2 := HZ.out
          omega
      have hn2 : n2 = 0 := by rw [hy.parts.2, hy0]; rfl
      subst hn2
      clear hn hcy hy hy0 hly
      have kX := Blk.new w1 #[.bool g1, .slice s1 n1 c1] 56
      have kY := Blk.new (w1.alloc (.cells #[.bool g1, .slice s1 n1 c1] 56)) #[.bool g2, .slice s2 0 c2] 56
      simp only [World.size_alloc] at kY
      obtain ⟨⟨p3, p4⟩, q3, q4⟩ := kY.two
      have hb := (hb.alloc hb.size (.cells #[.bool g1, .slice s1 n1 c1] 56)).alloc (by have := hb.size; simp; omega) (.cells #[.bool g2, .slice s2 0 c2] 56)
      go_wp2
      go_ret3
      exact ⟨by rw [HR.out]; rfl, hb⟩
    have HR := hid (divVal_pos hok hz)
    have HZ := hid hz
    clear hz
    obtain ⟨oa, ob⟩ := hok
    rw [oa, ob] at hB
    have hB := hid hB.out
    go_enter Tryz.func26, Tryz.ntmps26
    go_wp2_with fail
    (with_reducible refine hB.out.mono ?_); rintro e w1 ⟨g1, s1, n1, c1, g2, s2, n2, c2, rfl, hb, hn⟩
    obtain ⟨⟨x', hx, hlx, hcx⟩, ⟨y', hy, hly, hcy⟩⟩ := hn (by first | rfl | trivial)
    have HAB := hid (anyBig_two hcx hcy)
    have HCX := hid hcx.small
    have HCY := hid hcy.small
    have HCYB := hid hcy
    clear hn hB oa ob hcx hcy
    have kX := Blk.new w1 #[.bool g1, .slice s1 n1 c1] 56
    have kY := Blk.new (w1.alloc (.cells #[.bool g1, .slice s1 n1 c1] 56)) #[.bool g2, .slice s2 n2 c2] 56
    simp only [World.size_alloc] at kY
    have kX := kX.alloc (.cells #[.bool g2, .slice s2 n2 c2] 56)
    have gg : Below w1.heap.size w1 ((w1.alloc (.cells #[.bool g1, .slice s1 n1 c1] 56)).alloc (.cells #[.bool g2, .slice s2 n2 c2] 56)) := ((Below.refl _ _).alloc (Nat.le_refl _) _).alloc (by simp) _
    have hx := hx.below gg
    have hy := hy.below gg
    have hb := hb.trans (gg.mono hb.size)
    clear gg
    have hy0 : y' ≠ 0 := by
      rcases HCYB.out with h | ⟨h, _, _⟩
      · rw [h]; exact HZ.out
      · have h1 := big600_pos
        omega
    have HY0 := hid hy0
    have hlen2 : 0 < n2 := by rw [hy.parts.2]; exact (dlen_pos_iff _).2 (by omega)
    have hne2 : ((n2 : Int) == 0) = false := by rw [beq_eq_false_iff_ne]; omega
    clear hy0
    have kN := Blk.new ((w1.alloc (.cells #[.bool g1, .slice s1 n1 c1] 56)).alloc (.cells #[.bool g2, .slice s2 n2 c2] 56)) #[.bool g1, .slice s1 n1 c1, .bool g2, .slice s2 n2 c2] 56
    have gg : Below ((w1.alloc (.cells #[.bool g1, .slice s1 n1 c1] 56)).alloc (.cells #[.bool g2, .slice s2 n2 c2] 56)).heap.size ((w1.alloc (.cells #[.bool g1, .slice s1 n1 c1] 56)).alloc (.cells #[.bool g2, .slice s2 n2 c2] 56)) (((w1.alloc (.cells #[.bool g1, .slice s1 n1 c1] 56)).alloc (.cells #[.bool g2, .slice s2 n2 c2] 56)).alloc (.cells #[.bool g1, .slice s1 n1 c1, .bool g2, .slice s2 n2 c2] 56)) := (Below.refl _ _).alloc (Nat.le_refl _) _
    obtain ⟨⟨p1, p2⟩, q1, q2⟩ := kX.two
    obtain ⟨⟨p3, p4⟩, q3, q4⟩ := kY.two
    have hx := hx.below gg
    have hy := hy.below gg
    have hb := hb.trans (gg.mono hb.size)
    have hN := Nums.mk2 kN hx hy
    have kX := kX.later gg
    have kY := kY.later gg
    simp only [World.size_alloc] at hN
    have hsc := hid (short_fn hN (fun x hm => by simp at hm; rcases hm with rfl | rfl <;> omega) (by simp))
    rw [HAB.out] at hsc
    clear gg kN hN
    go_wp2_with fail
    (with_reducible refine hsc.out.mono ?_); rintro e w2 ⟨rfl, gg⟩
    have hx := hx.below gg
    have hy := hy.below gg
    have hb := hb.trans (gg.mono hb.size)
    have kX := kX.later gg
    have kY := kY.later gg
    clear p1 p2 p3 p4 q1 q2 q3 q4 hsc gg
    generalize w1.heap.size = B1 at *
    by_cases hbig : big600 ≤ (pVal a).natAbs ∨ big600 ≤ (pVal b).natAbs
    · have hT : (!(decide (big600 ≤ (pVal a).natAbs) || decide (big600 ≤ (pVal b).natAbs))) = false := by
        rcases hbig with h | h <;> rw [decide_eq_true h] <;> simp
      have HR2 := hid (show divVal a b = .tuple #[.string ⟨#[]⟩, .string ⟨#[]⟩, .int .i64 4] by rw [HR.out, if_pos hbig])
      rw [hT]
      clear hbig hT
      go_wp2
      go_ret3
      exact ⟨by rw [HR2.out]; rfl, hb⟩
    · have hT : (!(decide (big600 ≤ (pVal a).natAbs) || decide (big600 ≤ (pVal b).natAbs))) = true := by
        rw [decide_eq_false (show ¬ big600 ≤ (pVal a).natAbs by omega), decide_eq_false (show ¬ big600 ≤ (pVal b).natAbs by omega)]; rfl
      have ex : x' = pVal a := HCX.out (by omega)
      have ey : y' = pVal b := HCY.out (by omega)
      have hdx : dlen 10 x'.natAbs ≤ 600 := (digits_600 _).2 (by rw [ex]; omega)
      have hdy : dlen 10 y'.natAbs ≤ 600 := (digits_600 _).2 (by rw [ey]; omega)
      have EX := hid ex
      have EY := hid ey
      have HBIG := hid hbig
      obtain ⟨⟨p1, p2⟩, q1, q2⟩ := kX.two
      obtain ⟨⟨p3, p4⟩, q3, q4⟩ := kY.two
      rw [hT]
      clear hbig hT ex ey
      have HD := hid (divR_fn hx hy (by omega) (by omega) HY0.out)
      have hfm := fmod_abs x' y' HY0.out
      have hfd := fdiv_le x' y' HY0.out
      have hsm : (x'.fmod y').natAbs < big600 := by have := (digits_600 _).1 hdy; omega
      have hd1 : dlen 10 (x'.fdiv y').natAbs ≤ 700 := by
        have h1 := dlen_mono _ _ hfd
        have h2 := dlen_add_le x'.natAbs 1
        have h3 : dlen 10 1 = 1 := by decide
        omega
      have hd2 : dlen 10 (x'.fmod y').natAbs ≤ 600 := (digits_600 _).2 hsm
      have HR2 := hid (show divVal a b = divOK x' y' by rw [HR.out, if_neg HBIG.out, EX.out, EY.out])
      have HSM := hid hsm
      have HOKS := hid (fun h => divOK_small (x := x') (y := y') h hsm)
      have HOKB := hid (divOK_big (x := x') (y := y'))
      clear hfm hfd hsm HR HBIG EX EY
      generalize x'.fdiv y' = q at *
      generalize x'.fmod y' = r at *
      go_wp2_with fail
      (with_reducible refine HD.out.mono ?_); rintro e w3 ⟨u, v, rfl, hu, hv, gg⟩
      obtain ⟨ug, ua, un, uc, rfl⟩ := hu.num.shape4
      obtain ⟨vg, va, vn, vc, rfl⟩ := hv.num.shape4
      have hu := hu.num
      have hv := hv.num
      have hb := hb.trans (gg.mono hb.size)
      clear gg p1 p2 p3 p4 q1 q2 q3 q4 kX kY hx hy
      have kU := Blk.new w3 #[.bool ug, .slice ua un uc] 56
      have kV := Blk.new (w3.alloc (.cells #[.bool ug, .slice ua un uc] 56)) #[.bool vg, .slice va vn vc] 56
      have kN := Blk.new ((w3.alloc (.cells #[.bool ug, .slice ua un uc] 56)).alloc (.cells #[.bool vg, .slice va vn vc] 56)) #[.bool vg, .slice va vn vc] 56
      simp only [World.size_alloc] at kV kN
      have kU := (kU.alloc (.cells #[.bool vg, .slice va vn vc] 56))
      obtain ⟨⟨p1, p2⟩, q1, q2⟩ := kU.two
      obtain ⟨⟨p3, p4⟩, q3, q4⟩ := kV.two
      have kV := kV.alloc (.cells #[.bool vg, .slice va vn vc] 56)
      have gg : Below w3.heap.size w3 (((w3.alloc (.cells #[.bool ug, .slice ua un uc] 56)).alloc (.cells #[.bool vg, .slice va vn vc] 56)).alloc (.cells #[.bool vg, .slice va vn vc] 56)) := (((Below.refl _ _).alloc (Nat.le_refl _) _).alloc (by simp) _).alloc (by simp; omega) _
      have hu := hu.below gg
      have hv := hv.below gg
      have hb := hb.trans (gg.mono hb.size)
      have HT := hid (told_fn hu (by omega) (Nums.mk1 kN hv) (fun x hm => by simp at hm; subst hm; omega) (by simp))
      have hany : toldRes q [r] = resOf q := by
        unfold toldRes anyBig
        rw [List.any_cons, List.any_nil, decide_eq_false (show ¬ big600 ≤ r.natAbs by have := HSM.out; omega)]
        rfl
      rw [hany] at HT
      clear gg kN hany
      go_wp2_with fail
      (with_reducible refine HT.out.mono ?_); rintro e w4 ⟨rfl, gg⟩
      have hv := hv.below gg
      have kV := kV.later gg
      have hb := hb.trans (gg.mono hb.size)
      clear gg p1 p2 p3 p4 q1 q2 q3 q4 HT
      obtain ⟨⟨p3, p4⟩, q3, q4⟩ := kV.two
      by_cases hq : q.natAbs < big600
      · have HF := hid (HOKS.out hq)
        have e1 : resOf q = (numText 10 q.natAbs (decide (q < 0)), 0) := by unfold resOf; rw [if_pos hq]
        rw [e1]
        have HTX := hid (textR_fn hv (by omega))
        clear e1 hq
        go_wp2_with fail
        (with_reducible refine HTX.out.mono ?_); rintro e w5 ⟨rfl, gg⟩
        have hb := hb.trans (gg.mono hb.size)
        go_wp2
        go_ret3
        exact ⟨by rw [HR2.out, HF.out]; rfl, hb⟩
      · have HF := hid (HOKB.out hq)
        have e1 : resOf q = ([], 4) := by unfold resOf; rw [if_neg hq]
        rw [e1]
        clear e1 hq
        go_wp2
        go_ret3
        exact ⟨by rw [HR2.out, HF.out]; rfl, hb⟩
end Go.Proofs.YtkhgoeippamobaaGreatDoor
/-
  The reference: one.
-/
namespace Go.Proofs.YtkhgoeippamobaaGreatDoor
open Go.RowKit
/-- a number that the reference read -/
def CNum1 (w : World) (v : Value) (z : Int) : Prop := ∃ z', DNum w v z' ∧ dlen 10 z'.natAbs ≤ 2002000 ∧ Cut z' z
theorem CNum1.below {w w' : World} {v : Value} {z : Int} (h : CNum1 w v z) (hb : Below w.heap.size w w') : CNum1 w' v z := by
  obtain ⟨z', h1, h2, h3⟩ := h
  exact ⟨z', h1.below hb, h2, h3⟩
theorem PRef.cnum1 {w : World} {base : Nat} {v : Value} {z : Int} (h : PRef w base v z) : CNum1 w v z := by
  obtain ⟨z', h1, h2, h3⟩ := h
  exact ⟨z', h1.num, h2, h3⟩
theorem PRef.keep1 {w w' : World} {base : Nat} {v : Value} {z : Int} (h : PRef w base v z) (hb : Below w.heap.size w w') : PRef w' base v z := by
  obtain ⟨z', ⟨s, h0, h1⟩, h2, h3⟩ := h
  exact ⟨z', ⟨s, h0, Own.keep h1 hb (Nat.le_refl _)⟩, h2, h3⟩
theorem PRef.set2' {w : World} {base b : Nat} {v : Value} {z : Int} (h : PRef w base v z) (hb : b < base) (x y : Value) : PRef ((w.setCell ⟨b, 0, none⟩ x).setCell ⟨b, 1, none⟩ y) base v z := by
  obtain ⟨z', ⟨s, h0, h1⟩, h2, h3⟩ := h
  exact ⟨z', ⟨s, h0, own_set2 h1 x y hb⟩, h2, h3⟩
theorem Blk.set2' {w : World} {b : Nat} {x y : Value} {t : TypeId} (h : Blk w b #[x, y] t) (x' y' : Value) : Blk ((w.setCell ⟨b, 0, none⟩ x').setCell ⟨b, 1, none⟩ y') b #[x', y'] t := by
  have h0 : w.heap[b]? = _ := h
  have h1 := heap_setCell_same w b 0 _ t x' h0
  have h2 := heap_setCell_same _ b 1 _ t y' h1
  exact h2
theorem DNum.rep1 {w : World} {g : Bool} {a : Option Addr} {n c : Nat} {z : Int} (h : DNum w (.agg #[.bool g, .slice a n c]) z) : DecRep w (.slice a n c) z.natAbs := by
  obtain ⟨s, he, hd⟩ := h
  simp only [Value.agg.injEq, Array.mk.injEq, List.cons.injEq, and_true] at he
  rw [he.2]; exact hd
theorem DNum.parts1 {w : World} {g : Bool} {a : Option Addr} {n c : Nat} {z : Int} (h : DNum w (.agg #[.bool g, .slice a n c]) z) : g = decide (z < 0) ∧ n = dlen 10 z.natAbs := by
  obtain ⟨a', c', he, _⟩ := h.shape
  simp only [Value.agg.injEq, Array.mk.injEq, List.cons.injEq, Value.bool.injEq, Value.slice.injEq, and_true] at he
  exact ⟨he.1, he.2.2.1⟩
/-- what 'one' answers -/
def OneQ (o : Bool) (z : Int) (w : World) (e : Ending) (w' : World) : Prop :=
  ∃ g s n c, e = .returned (.tuple #[.agg #[.bool g, .slice s n c], .int .i64 (if o = true then 0 else 2)]) ∧ Below w.heap.size w w' ∧ (o = true → CNum1 w' (.agg #[.bool g, .slice s n c]) z)
set_option maxRecDepth 100000 in
set_option maxHeartbeats 4000000 in
theorem oneR_fn (a : List UInt8) (ha : a.length ≤ 2000000) (w : World) :
    Calls Tryz.prog 106 #[.string ⟨a.toArray⟩] w (OneQ (pOK a) (pVal a) w) := by
  have k1 := Blk.new w #[.bool false, .slice none 0 0] 56
  have hb0 : Below w.heap.size w (w.alloc (.cells #[.bool false, .slice none 0 0] 56)) := (Below.refl _ _).alloc (Nat.le_refl _) _
  have hw0 : w.heap.size + 1 ≤ (w.alloc (.cells #[.bool false, .slice none 0 0] 56)).heap.size := by simp
  have hA := fun w => hid (number_fn a ha w)
  unfold NumP at hA
  generalize pOK a = o1 at *
  clear ha
  go_enter Tryz.func106, Tryz.ntmps106
  go_wp2_with fail
  generalize w.alloc (.cells #[.bool false, .slice none 0 0] 56) = w0 at *
  (with_reducible refine (hA _).out.mono ?_); rintro e w1 ⟨v, rfl, gg, hv, g1, s1, n1, c1, rfl⟩
  have HV := hid hv
  clear hv
  have k1 := k1.later gg
  have hb := hb0.trans (gg.mono hb0.size)
  have hg1 := gg.size
  clear hb0 gg
  have gg : Below w1.heap.size w1 (w1.alloc (.cells #[.bool g1, .slice s1 n1 c1] 56)) := (Below.refl _ _).alloc (Nat.le_refl _) _
  have k3 := Blk.new w1 #[.bool g1, .slice s1 n1 c1] 56
  have HV := hid (fun h => (HV.out h).keep1 gg)
  have k1 := k1.later gg
  have hb := hb.trans (gg.mono hb.size)
  have hlt1 := k3.lt
  clear gg
  obtain ⟨⟨p1, p2⟩, q1, q2⟩ := k1.two
  obtain ⟨⟨p5, p6⟩, q5, q6⟩ := k3.two
  cases o1
  · go_wp2
    have k1F := k1.set2' (.bool false) (.slice none 0 0)
    obtain ⟨⟨r1, r2⟩, _⟩ := k1F.two
    have hbF := (hb.setCell (p := ⟨w.heap.size, 0, none⟩) (Nat.le_refl _) (.bool false)).setCell (p := ⟨w.heap.size, 1, none⟩) (Nat.le_refl _) (.slice none 0 0)
    exact bodyPost_ret (v := .tuple #[.agg #[.bool false, .slice none 0 0], .int .i64 2]) (by simp [results, Tryz.results106, go_sem, r1, r2]) rfl ⟨_, _, _, _, rfl, hbF, fun h => by simp at h⟩
  · have k1F := k1.set2' (.bool g1) (.slice s1 n1 c1)
    obtain ⟨⟨r1, r2⟩, _⟩ := k1F.two
    have hbF := (hb.setCell (p := ⟨w.heap.size, 0, none⟩) (Nat.le_refl _) (.bool g1)).setCell (p := ⟨w.heap.size, 1, none⟩) (Nat.le_refl _) (.slice s1 n1 c1)
    have n1' := ((HV.out (by first | rfl | trivial)).set2' (b := w.heap.size) (by omega) (.bool g1) (.slice s1 n1 c1)).cnum1
    go_wp2
    exact bodyPost_ret (v := .tuple #[.agg #[.bool g1, .slice s1 n1 c1], .int .i64 0]) (by simp [results, Tryz.results106, go_sem, r1, r2]) rfl ⟨_, _, _, _, rfl, hbF, fun _ => n1'⟩
end Go.Proofs.YtkhgoeippamobaaGreatDoor
/-
  The reference: Sign.
-/
namespace Go.Proofs.YtkhgoeippamobaaGreatDoor
open Go.RowKit
/-- what Sign answers -/
def signRes (a : List UInt8) : Int × Int :=
  if pOK a = true then if big600 ≤ (pVal a).natAbs then (0, 4) else (cmpI (pVal a) 0, 0) else (0, 2)
set_option maxRecDepth 100000 in
set_option maxHeartbeats 4000000 in
theorem signR_fn (a : List UInt8) (ha : a.length ≤ 2000000) (w : World) :
    Calls Tryz.prog 37 #[.string ⟨a.toArray⟩] w fun e w' => e = .returned (.tuple #[.int .i64 (signRes a).1, .int .i64 (signRes a).2]) ∧ Below w.heap.size w w' := by
  have hB := hid (oneR_fn a ha w)
  unfold OneQ at hB
  clear ha
  cases hok : pOK a with
  | false =>
    have HR := hid (show signRes a = (0, 2) by unfold signRes; rw [hok]; rfl)
    rw [hok] at hB
    have hB := hid hB.out
    clear hok
    go_enter Tryz.func37, Tryz.ntmps37
    go_wp2_with fail
    (with_reducible refine hB.out.mono ?_); rintro e w1 ⟨g1, s1, n1, c1, rfl, hb1, -⟩
    have hsz := hb1.size
    go_wp2
    go_ret2
    exact ⟨by rw [HR.out]; rfl, hb1.alloc hsz _⟩
  | true =>
    have HR := hid (show signRes a = if big600 ≤ (pVal a).natAbs then (0, 4) else (cmpI (pVal a) 0, 0) by unfold signRes; rw [if_pos hok])
    rw [hok] at hB
    have hB := hid hB.out
    clear hok
    go_enter Tryz.func37, Tryz.ntmps37
    go_wp2_with fail
    (with_reducible refine hB.out.mono ?_); rintro e w1 ⟨g1, s1, n1, c1, rfl, hb, hn⟩
    obtain ⟨x', hx, hlx, hcx⟩ := hn (by first | rfl | trivial)
    have HCX := hid hcx
    clear hn hB hcx
    have kX := Blk.new w1 #[.bool g1, .slice s1 n1 c1] 56
    have gg : Below w1.heap.size w1 (w1.alloc (.cells #[.bool g1, .slice s1 n1 c1] 56)) := (Below.refl _ _).alloc (Nat.le_refl _) _
    have hx := hx.below gg
    have hb := hb.trans (gg.mono hb.size)
    clear gg
    obtain ⟨⟨p1, p2⟩, q1, q2⟩ := kX.two
    have HL := hid (long_fn hx (by omega))
    have HLB := hid (Cut.big HCX.out)
    rw [HLB.out] at HL
    go_wp2_with fail
    (with_reducible refine HL.out.mono ?_); rintro e w2 ⟨rfl, gg⟩
    have hx := hx.below gg
    have hb := hb.trans (gg.mono hb.size)
    have kX := kX.later gg
    generalize w1.heap.size = B1 at *
    clear gg p1 p2 q1 q2 HL
    by_cases hbig : big600 ≤ (pVal a).natAbs
    · have HR3 := hid (show signRes a = (0, 4) by rw [HR.out, if_pos hbig])
      rw [decide_eq_true hbig]
      clear hbig
      go_wp2
      go_ret2
      exact ⟨by rw [HR3.out]; rfl, hb⟩
    · have HR3 := hid (show signRes a = (cmpI x' 0, 0) by rw [HR.out, if_neg hbig, HCX.out.small (by omega)])
      rw [decide_eq_false hbig]
      clear hbig HR HCX HLB
      go_wp2_with fail
      have kX := kX.drew
      have hx := hx.below ((Below.refl w2.heap.size w2).drew)
      have hb := hb.drew
      refine U_begin (late := fun i => decide (3 ≤ i)) (S := fun u => Blk u B1 #[.bool g1, .slice s1 n1 c1] 56) (by kernel_rfl) ?_
      generalize w2.drew = wd at *
      refine U_take2 5 (i := 0) (v := .agg #[.bool g1, .slice s1 n1 c1]) rfl (by kernel_rfl) (by kernel_rfl) (by kernel_rfl) (by kernel_rfl) (by kernel_rfl) (fun _ _ _ h => h) (.inl ⟨rfl, fun u hu => (by obtain ⟨⟨h1, h2⟩, _⟩ := hu.two; go_simp)⟩) kX ?_
      refine U_step (j := 1) (by kernel_rfl) rfl (fun K hK => ?_)
      go_simp
      have hc := fun w => hid (whole_fn 0 (by decide) (by decide) w)
      (with_reducible refine (hc _).out.mono ?_); rintro e w3 ⟨z, rfl, hz, gg⟩
      clear hc
      have hx := hx.below gg
      have hb := hb.trans (gg.mono hb.size)
      have kX := kX.later gg
      obtain ⟨zg, za, zn, zc, rfl⟩ := hz.num.shape4
      refine hK.out _ _ (.inr kX) ?_
      clear hK K gg
      refine U_step (j := 2) (by kernel_rfl) rfl (fun K hK => ?_)
      go_simp
      have hc := hid (orderR_fn hx hz.num (by omega) (by decide))
      (with_reducible refine hc.out.mono ?_); rintro e w4 ⟨rfl, gg⟩
      clear hc
      have hb := hb.trans (gg.mono hb.size)
      have kX := kX.later gg
      refine hK.out _ _ (.inr kX) ?_
      clear hK K gg
      refine U_step (j := 3) (by kernel_rfl) rfl (fun K hK => ?_)
      go_simp
      refine hK.out _ _ (.inl rfl) ?_
      clear hK K
      refine U_step (j := 4) (by kernel_rfl) rfl (fun K hK => ?_)
      go_simp
      refine hK.out _ _ (.inl rfl) ?_
      clear hK K
      refine U_done (by kernel_rfl) ?_ _
      go_wp2
      go_ret2
      exact ⟨by rw [HR3.out]; rfl, hb⟩
end Go.Proofs.YtkhgoeippamobaaGreatDoor
