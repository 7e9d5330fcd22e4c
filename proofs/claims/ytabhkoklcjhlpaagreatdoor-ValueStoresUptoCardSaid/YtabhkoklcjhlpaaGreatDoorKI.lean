/-
  Part KI of the proofs of this seat: contracts of functions and plain facts, merged from 2 texts.
-/
import Derived.Test.YtabhkoklcjhlpaaGreatDoorK0
import Derived.Test.YtabhkoklcjhlpaaGreatDoorK1
import Derived.Test.YtabhkoklcjhlpaaGreatDoorK2
import Derived.Test.YtabhkoklcjhlpaaGreatDoorK3
import Derived.Test.YtabhkoklcjhlpaaGreatDoorK4
import Derived.Test.YtabhkoklcjhlpaaGreatDoorK5
import Derived.Test.YtabhkoklcjhlpaaGreatDoorK6
import Derived.Test.YtabhkoklcjhlpaaGreatDoorK7
import Derived.Test.YtabhkoklcjhlpaaGreatDoorK8
import Derived.Test.YtabhkoklcjhlpaaGreatDoorK9
import Derived.Test.YtabhkoklcjhlpaaGreatDoorKA
import Derived.Test.YtabhkoklcjhlpaaGreatDoorKB
import Derived.Test.YtabhkoklcjhlpaaGreatDoorKC
import Derived.Test.YtabhkoklcjhlpaaGreatDoorKD
import Derived.Test.YtabhkoklcjhlpaaGreatDoorKE
import Derived.Test.YtabhkoklcjhlpaaGreatDoorKF
import Derived.Test.YtabhkoklcjhlpaaGreatDoorKG
import Derived.Test.YtabhkoklcjhlpaaGreatDoorKH
/-
  The law's acts in memory: light of a list, same.
-/
namespace Go.Proofs.YtabhkoklcjhlpaaGreatDoor.Pz
open Go.RowKit
/-- a row of acts that lies below B -/
def ActsB (B : Nat) (w : World) (v : Value) (al : List ActD) : Prop :=
  ∃ a cap, v = .slice a al.length cap ∧ ∀ i (h : i < al.length), ∃ (b o : Nat) (lv : Value), a = some ⟨b, o, none⟩ ∧ b < B ∧ StrsB B w lv al[i].l ∧
    w.cell? ⟨b, o + i * 6, none⟩ = some (.int .i64 al[i].kind) ∧ w.cell? ⟨b, o + i * 6 + 1, none⟩ = some (.int .i64 al[i].h) ∧ w.cell? ⟨b, o + i * 6 + 2, none⟩ = some (.int .i64 al[i].n) ∧
    w.cell? ⟨b, o + i * 6 + 3, none⟩ = some (.string ⟨al[i].s.toArray⟩) ∧ w.cell? ⟨b, o + i * 6 + 4, none⟩ = some (.string ⟨al[i].t.toArray⟩) ∧ w.cell? ⟨b, o + i * 6 + 5, none⟩ = some lv
theorem ActsB.low {B : Nat} {w w' : World} {v : Value} {al : List ActD} (h : ActsB B w v al) (hb : Below B w w') : ActsB B w' v al := by
  obtain ⟨a, cap, h1, h3⟩ := h
  refine ⟨a, cap, h1, fun i hi => ?_⟩
  obtain ⟨b, o, lv, q1, q2, q3, q4, q5, q6, q7, q8, q9⟩ := h3 i hi
  have key : ∀ (j : Nat) (x : Value), w.cell? ⟨b, j, none⟩ = some x → w'.cell? ⟨b, j, none⟩ = some x := fun j x hx => (hb.cell (p := ⟨b, j, none⟩) q2).trans hx
  exact ⟨b, o, lv, q1, q2, q3.low hb, key _ _ q4, key _ _ q5, key _ _ q6, key _ _ q7, key _ _ q8, key _ _ q9⟩
def bulkA (a : ActD) : Nat := a.s.length + a.t.length + 1 + sumS a.l
def bulkAs : List ActD → Nat
  | [] => 0
  | a :: l => bulkA a + bulkAs l
theorem bulkAs_drop (l : List ActD) (i : Nat) (h : i < l.length) : bulkAs (l.drop i) = bulkA l[i] + bulkAs (l.drop (i + 1)) := by
  rw [List.drop_eq_getElem_cons h, bulkAs]
theorem bulkAs_mem : ∀ (l : List ActD) (a : ActD), a ∈ l → bulkA a ≤ bulkAs l
  | x :: l, a, h => by
    rw [bulkAs]
    rcases List.mem_cons.1 h with rfl | h
    · omega
    · have := bulkAs_mem l a h
      omega
theorem bulkAs_len : ∀ (l : List ActD), l.length ≤ bulkAs l
  | [] => Nat.le_refl _
  | a :: l => by
    have := bulkAs_len l
    rw [bulkAs, List.length_cons, bulkA]
    omega
def lightB (al : List ActD) : Bool := decide (al.length ≤ 40) && decide (bulkAs al ≤ 3000)
set_option maxRecDepth 100000 in
set_option maxHeartbeats 4000000 in
theorem lightAs_fn {B : Nat} {w : World} {v : Value} {al : List ActD} (hv : ActsB B w v al) (hB : B ≤ w.heap.size) (hb : bulkAs al ≤ 10000000) :
    Calls Tryz.prog 8 #[v] w fun e w' => e = .returned (.bool (lightB al)) ∧ Below w.heap.size w w' := by
  have HV := hid hv
  obtain ⟨a, cap, rfl, hcell⟩ := hv
  obtain ⟨n, hn⟩ : ∃ n, n = al.length := ⟨_, rfl⟩
  have hnb : n ≤ 10000000 := by have := bulkAs_len al; omega
  have HN := hid hn
  have HD := hid (bulkAs_drop al)
  have HBB := hid hb
  have HSD := hid sumS_drop
  obtain ⟨ans, hans⟩ : ∃ x, x = lightB al := ⟨_, rfl⟩
  have HANS := hid hans
  rw [← hans, ← hn]
  clear hcell hn hb hans
  go_enter Tryz.func8, Tryz.ntmps8
  go_wp2
  go_loopg [3, 10] n (fun k mv iv wr => ∃ (m i : Nat), mv = .int .i64 (m : Nat) ∧ iv = .int .i64 (i : Nat) ∧ i ≤ n ∧ m + bulkAs (al.drop i) = bulkAs al ∧ Below w.heap.size w wr ∧ k = n - i)
  case atStart => exact ⟨0, 0, rfl, rfl, Nat.zero_le _, by simp, Below.refl _ _, by simp⟩
  case round =>
    obtain ⟨m, i, rfl, rfl, hi, hms, hbl, rfl⟩ := hrel
    rcases Nat.lt_or_ge i n with hlt | hge
    · have hlt' : i < al.length := by rw [← HN.out]; exact hlt
      have hbB : Below B w wr := hbl.mono hB
      obtain ⟨a', cap', e', hcell⟩ := HV.out.low hbB
      simp only [Value.slice.injEq] at e'
      obtain ⟨b, o, lv, ha, hbl2, hlv, q4, q5, q6, q7, q8, q9⟩ := hcell i hlt'
      rw [← e'.1] at ha
      clear hcell e'
      subst ha
      have hd := HD.out i hlt'
      have hbm := HBB.out
      obtain ⟨x, hx⟩ : ∃ x, x = al[i] := ⟨_, rfl⟩
      rw [← hx] at hlv q4 q5 q6 q7 q8 hd
      obtain ⟨kind, h, nn, s, t, l⟩ := x
      dsimp only at hlv q4 q5 q6 q7 q8 hd
      unfold bulkA at hd
      dsimp only at hd
      have hwz := hbl.size
      have hlvs := hid (hlv.strs (Nat.le_trans hB hwz))
      obtain ⟨la, lc, rfl, hlc, hlcell⟩ := hlv
      obtain ⟨ln, hln⟩ : ∃ ln, ln = l.length := ⟨_, rfl⟩
      rw [← hln] at q9
      have HLN := hid hln
      have hsz : (⟨s.toArray⟩ : ByteArray).size = s.length := Lib.size_mk _
      have htz : (⟨t.toArray⟩ : ByteArray).size = t.length := Lib.size_mk _
      have hlnb : ln ≤ 10000000 := by have := sumS_len l; omega
      obtain ⟨W, hW⟩ : ∃ W, W = wr.alloc (.cells #[.int .i64 kind, .int .i64 h, .int .i64 nn, .string ⟨s.toArray⟩, .string ⟨t.toArray⟩, .slice la ln lc] 25) := ⟨_, rfl⟩
      have hbW : Below wr.heap.size wr W := by rw [hW]; exact belowA _ _
      have HLV := hid (hlvs.out.below hbW)
      have HBW := hid (hbl.trans (hbW.mono hwz))
      have HMS := hid hms
      have HDD := hid hd
      have HWW := hid hW
      have hsb : m + s.length + t.length + 1 + sumS l ≤ 10000000 := by omega
      clear hlcell hln hms hd hbl hbB hx hW hbW hlc
      have hi0 : i = 0 ∨ 0 < i := by omega
      go_wp2
      rw [← HWW.out]
      go_loopg [3, 27] ln (fun k2 mv jv wr2 => ∃ (m2 j : Nat), mv = .int .i64 (m2 : Nat) ∧ jv = .int .i64 (j : Nat) ∧ j ≤ ln ∧ m2 + sumS (l.drop j) = m + s.length + t.length + 1 + sumS l ∧ wr2 = W ∧ k2 = ln - j)
      case atStart => exact ⟨m + (s.length + t.length + 1), 0, by go_num, rfl, Nat.zero_le _, by rw [List.drop_zero]; omega, rfl, by simp⟩
      case round =>
        obtain ⟨m2, j, rfl, rfl, hj, hms2, hw, rfl⟩ := hrel
        replace hw := hw.symm
        subst hw
        rcases Nat.lt_or_ge j ln with hlt2 | hge2
        · have hlt2' : j < l.length := by rw [← HLN.out]; exact hlt2
          obtain ⟨a2, c2, e2, hc2, hcell2⟩ := HLV.out
          simp only [Value.slice.injEq] at e2
          obtain ⟨p, hp, hbb, hcw⟩ := hcell2 j hlt2'
          rw [← e2.1] at hp
          clear hcell2 e2 hc2
          subst hp
          have hsd := HSD.out l j hlt2'
          rw [hsd] at hms2
          generalize l[j] = x at hcw hms2
          have hsz2 : (⟨x.toArray⟩ : ByteArray).size = x.length := Lib.size_mk _
          clear hsd
          by_cases h0 : j = 0
          · subst h0
            replace hcw : W.cell? p = some (.string ⟨x.toArray⟩) := hcw
            go_wp2
            go_roundg (ln - (0 + 1))
            case measure => omega
            case rel => exact ⟨m2 + (x.length + 1), 0 + 1, by go_num, by go_num, by omega, by omega, rfl, rfl⟩
          · go_wp2
            go_roundg (ln - (j + 1))
            case measure => omega
            case rel => exact ⟨m2 + (x.length + 1), j + 1, by go_num, by go_num, by omega, by omega, rfl, rfl⟩
        · obtain rfl : j = ln := by omega
          have hm2 : m2 + bulkAs (al.drop (i + 1)) = bulkAs al := by
            have h1 : l.drop j = [] := List.drop_eq_nil_of_le (by rw [← HLN.out]; exact Nat.le_refl _)
            rw [h1, sumS] at hms2
            have := HMS.out
            have := HDD.out
            omega
          have HM2 := hid hm2
          clear hm2 hms2
          go_wp2
          go_roundg (n - (i + 1))
          case measure => omega
          case rel => exact ⟨m2, i + 1, rfl, by go_num, by omega, HM2.out, HBW.out, rfl⟩
    · obtain rfl : i = n := by omega
      have hm2 : m = bulkAs al := by
        have h1 : al.drop i = [] := List.drop_eq_nil_of_le (by rw [← HN.out]; exact Nat.le_refl _)
        rw [h1, bulkAs] at hms
        omega
      have hAN : ans = (decide (i ≤ 40) && decide (m ≤ 3000)) := by rw [HANS.out, lightB, ← HN.out, ← hm2]
      have HAN := hid hAN
      clear hms hm2 hAN
      by_cases h40 : i ≤ 40
      · have h40' : (i : Int) ≤ 40 := by omega
        by_cases h3 : m ≤ 3000
        · have h3' : (m : Int) ≤ 3000 := by omega
          obtain rfl : ans = true := by rw [HAN.out, decide_eq_true h40, decide_eq_true h3]; rfl
          go_wp2
          go_ret
          exact ⟨rfl, hbl⟩
        · have h3' : ¬ (m : Int) ≤ 3000 := by omega
          obtain rfl : ans = false := by rw [HAN.out, decide_eq_false h3, Bool.and_false]
          go_wp2
          go_ret
          exact ⟨rfl, hbl⟩
      · have h40' : ¬ (i : Int) ≤ 40 := by omega
        obtain rfl : ans = false := by rw [HAN.out, decide_eq_false h40]; rfl
        go_wp2
        go_ret
        exact ⟨rfl, hbl⟩
section
variable {B st st2 : Nat} {w : World} {A : ShA}
set_option maxRecDepth 100000 in
set_option maxHeartbeats 4000000 in
theorem sameS_fn (hj : J2 B st st2 w A (AR A)) (hml : ML w) (hmB : 0 < B) (hA : A.length ≤ 1000) :
    Calls Tryz.prog 41 #[.pointer (some ⟨st, 0, none⟩), .pointer (some ⟨st2, 0, none⟩), .bool true] w fun e w' => e = .returned (.bool true) ∧ J2 B st st2 w' A (AR A) ∧ Below B w w' ∧ KeepX w w' := by
  have HJ := hid hj
  have HM := hid hml
  have HCT := hid (show ∀ u, J2 B st st2 u A (AR A) → Calls Tryz.prog 40 #[.pointer (some ⟨st2, 0, none⟩)] u fun e u' => e = .returned (.int .i64 (A.length : Nat)) ∧ u' = u from fun u hu => by
    obtain ⟨v, S, v2, R, h1, h2, h3, h4⟩ := hu
    have h9 := count_fn h2
    rw [shapeR_lenR h4, AR_len] at h9
    exact h9)
  have HTP := hid (show ∀ (u : World) (h : Int), J2 B st st2 u A (AR A) → ML u → Calls Tryz.prog 14 #[.pointer (some ⟨st, 0, none⟩), .int .i64 h] u fun e u' => e = .returned (.tuple #[.string ⟨(textA A h).1.toArray⟩, .int .i64 (textA A h).2]) ∧ J2 B st st2 u' A (AR A) ∧ Below B u u' ∧ KeepX u u' from fun u h hu hm =>
    hu.prog fun v S h1 h3 => by
      have h9 := textA_fn h1 hm h
      rw [h3] at h9
      exact h9.mono fun e w' hh => ⟨hh.1, _, hh.2, h3⟩)
  have HTR := hid (show ∀ (u : World) (h : Int), J2 B st st2 u A (AR A) → Calls Tryz.prog 77 #[.pointer (some ⟨st2, 0, none⟩), .int .i64 h] u fun e u' => e = .returned (.tuple #[.string ⟨(textA A h).1.toArray⟩, .int .i64 (textA A h).2]) ∧ u' = u from fun u h hu => by
    obtain ⟨v, S, v2, R, h1, h2, h3, h4⟩ := hu
    have h9 := textSR_fn h2 h
    rw [h4, ← text_rel] at h9
    exact h9)
  have HFP := hid (show ∀ (u : World) (h : Int), J2 B st st2 u A (AR A) → Calls Tryz.prog 13 #[.pointer (some ⟨st, 0, none⟩), .int .i64 h] u fun e u' => e = .returned (.tuple #[.int .i64 (faceA A h).1, .int .i64 (faceA A h).2]) ∧ u' = u from fun u h hu => by
    obtain ⟨v, S, v2, R, h1, h2, h3, h4⟩ := hu
    have h9 := faceA_fn h1 h
    rw [h3] at h9
    exact h9)
  have HFR := hid (show ∀ (u : World) (h : Int), J2 B st st2 u A (AR A) → Calls Tryz.prog 78 #[.pointer (some ⟨st2, 0, none⟩), .int .i64 h] u fun e u' => e = .returned (.tuple #[.int .i64 (faceA A h).1, .int .i64 (faceA A h).2]) ∧ u' = u from fun u h hu => by
    obtain ⟨v, S, v2, R, h1, h2, h3, h4⟩ := hu
    have h9 := faceSR_fn h2 h
    rw [h4, ← face_rel] at h9
    exact h9)
  obtain ⟨n, hn⟩ : ∃ n, n = A.length := ⟨_, rfl⟩
  rw [← hn] at HCT hA
  clear hj hml hn
  go_enter Tryz.func41, Tryz.ntmps41
  go_wp2_with fail
  go_loopg [7] (n + 2) (fun k iv wr => ∃ i : Nat, iv = .int .i64 ((i : Int) - 1) ∧ i ≤ n + 2 ∧ J2 B st st2 wr A (AR A) ∧ ML wr ∧ Below B w wr ∧ KeepX w wr ∧ k = n + 2 - i)
  case atStart => exact ⟨0, rfl, Nat.zero_le _, HJ.out, HM.out, Below.refl _ _, KeepX.refl _, by simp⟩
  case round =>
    obtain ⟨i, rfl, hi, hj, hm, hbl, hkx, rfl⟩ := hrel
    have HC := hid (HCT.out wr hj)
    rcases Nat.lt_or_ge i (n + 2) with hlt | hge
    · have hle : (i : Int) - 1 ≤ (n : Int) := by omega
      have HT1 := hid (HTP.out wr ((i : Int) - 1) hj hm)
      have HB := hid hbl
      have HK := hid hkx
      have HML := hid hm
      clear hj hbl hkx hm
      obtain ⟨tt, htt⟩ : ∃ tt, tt = textA A ((i : Int) - 1) := ⟨_, rfl⟩
      obtain ⟨ff, hff⟩ : ∃ ff, ff = faceA A ((i : Int) - 1) := ⟨_, rfl⟩
      rw [← htt] at HT1
      obtain ⟨t1, t2⟩ := tt
      obtain ⟨f1, f2⟩ := ff
      have HTT := hid htt
      have HFF := hid hff
      have HT1 := hid HT1.out
      dsimp only at HT1
      clear htt hff
      go_wp2_with fail
      (with_reducible refine HC.out.mono ?_); rintro e wr' ⟨rfl, hw⟩; subst hw
      go_wp2_with fail
      (with_reducible refine HT1.out.mono ?_); rintro e w2 ⟨rfl, hj2, hb2, hx2⟩
      have HT2 := hid (HTR.out w2 ((i : Int) - 1) hj2)
      have HF1 := hid (HFP.out w2 ((i : Int) - 1) hj2)
      have HF2 := hid (HFR.out w2 ((i : Int) - 1) hj2)
      rw [← HTT.out] at HT2
      rw [← HFF.out] at HF1 HF2
      dsimp only at HT2 HF1 HF2
      have HJ2 := hid hj2
      have HM2 := hid (HML.out.lowB hmB hb2)
      have HB2 := hid (HB.out.trans hb2)
      have HK2 := hid (HK.out.trans hx2)
      clear hj2 hb2 hx2
      go_wp2_with fail
      (with_reducible refine HT2.out.mono ?_); rintro e w2' ⟨rfl, hw⟩; subst hw
      go_wp2_with fail
      (with_reducible refine HF1.out.mono ?_); rintro e w2' ⟨rfl, hw⟩; subst hw
      go_wp2_with fail
      (with_reducible refine HF2.out.mono ?_); rintro e w2' ⟨rfl, hw⟩; subst hw
      go_wp2
      go_roundg (n + 2 - (i + 1))
      case measure => omega
      case rel => exact ⟨i + 1, by rw [Value.int.injEq]; exact ⟨rfl, by omega⟩, by omega, HJ2.out, HM2.out, HB2.out, HK2.out, rfl⟩
    · have hgt : ¬ ((i : Int) - 1 ≤ (n : Int)) := by omega
      have HB := hid hbl
      have HK := hid hkx
      have HJJ := hid hj
      clear hj hbl hkx hm
      go_wp2_with fail
      (with_reducible refine HC.out.mono ?_); rintro e wr' ⟨rfl, hw⟩; subst hw
      go_wp2
      go_ret
      exact ⟨rfl, HJJ.out, HB.out, HK.out⟩
end
end Go.Proofs.YtabhkoklcjhlpaaGreatDoor.Pz
/-
  Arguments opened: rows of acts.
-/
namespace Go.Proofs.YtabhkoklcjhlpaaGreatDoor.Opn
open Go.ChangeMaps Go.ChangeShapes Go.WideShapes Go.ChangeAt Go.RowKit
section
variable {P : Program} {H : Type} {enc : TypeId × Value → H} {W : World}
theorem acts_list (Q : Nat → Pz.ActD → Prop) : ∀ (elems : List (DataW H × List MemPlace)) (k : Nat), (∀ i y, elems[i]? = some y → ∃ a, Q (k + i) a ∧ Pz.bulkA a ≤ Rows.uptoBulk y.1) →
    ∃ al : List Pz.ActD, al.length = elems.length ∧ (∀ i (h : i < al.length), Q (k + i) al[i]) ∧ Pz.bulkAs al ≤ Rows.uptoBulkAll (elems.map (·.1))
  | [], k, _ => ⟨[], rfl, fun i h => absurd h (Nat.not_lt_zero _), Nat.zero_le _⟩
  | y :: elems, k, h => by
    obtain ⟨a, ha, hb⟩ := h 0 y rfl
    obtain ⟨al, h1, h2, h3⟩ := acts_list Q elems (k + 1) (fun i z hz => by
      obtain ⟨a, q1, q2⟩ := h (i + 1) z hz
      exact ⟨a, by rw [show k + 1 + i = k + (i + 1) by omega]; exact q1, q2⟩)
    refine ⟨a :: al, by simp [h1], fun i hi => ?_, ?_⟩
    · cases i with
      | zero => exact ha
      | succ i =>
        have := h2 i (by simpa using hi)
        rw [show k + 1 + i = k + (i + 1) by omega] at this
        exact this
    · show Pz.bulkA a + Pz.bulkAs al ≤ Rows.uptoBulk y.1 + Rows.uptoBulkAll (elems.map (·.1))
      omega
/-- a row of texts in a field -/
theorem strs_cell {ts tl : TypeId} (hl : P.underlying tl = some (.slice ts)) (hs : P.underlying ts = some .string) (hcs : P.cellsOf ts = 1) {m : Nat} {c : Value} {x : DataW H × List MemPlace}
    (h : DataW.trod enc P W 0 (fun _ => true) true m tl [c] = some x) (hlt : ∀ q ∈ x.2, q.block < W.heap.size) : ∃ l, Pz.StrsB W.heap.size W c l ∧ Pz.sumS l ≤ Rows.uptoBulk x.1 := by
  rcases open_strings hl hs hcs h with ⟨hc, hx⟩ | ⟨a, len, cap, ss, hc, _, hle, hm, hz, hx, hcell, hws⟩
  · simp only [List.cons.injEq, and_true] at hc
    subst hc
    exact ⟨[], ⟨none, 0, rfl, Nat.le_refl _, fun i hi => absurd hi (Nat.not_lt_zero _)⟩, Nat.zero_le _⟩
  · simp only [List.cons.injEq, and_true] at hc
    subst hc
    subst hx
    simp only [if_true] at hz
    have hln : ((ss.take len).map (·.data.toList)).length = len := by rw [List.length_map, List.length_take]; omega
    refine ⟨(ss.take len).map (·.data.toList), ⟨some a, cap, by rw [hln], by rw [hln]; exact hle, fun i hi => ⟨a, rfl, ?_, ?_⟩⟩, ?_⟩
    · rw [hln] at hi
      exact blk_lt (n := ss.length) hlt (by omega) (hcell 0 (by omega))
    · rw [hcell i (by rw [hln] at hi; omega), getD_data ss len i hi]
    · simp only [Rows.uptoBulk]
      rw [bulk_strs, bulk_strs]
      omega
theorem opened_acts {t e ti ts tl : TypeId} {fs : Array Field} (ht : P.underlying t = some (.slice e)) (he : P.underlying e = some (.struct fs)) (hce : P.cellsOf e = 6)
    (hf0 : ∃ f, fs[0]? = some f ∧ f.type = ti ∧ f.offset = 0) (hf1 : ∃ f, fs[1]? = some f ∧ f.type = ti ∧ f.offset = 1) (hf2 : ∃ f, fs[2]? = some f ∧ f.type = ti ∧ f.offset = 2)
    (hf3 : ∃ f, fs[3]? = some f ∧ f.type = ts ∧ f.offset = 3) (hf4 : ∃ f, fs[4]? = some f ∧ f.type = ts ∧ f.offset = 4) (hf5 : ∃ f, fs[5]? = some f ∧ f.type = tl ∧ f.offset = 5) (hfn : fs.size = 6)
    (hi : P.underlying ti = some (.int .i64)) (hci : P.cellsOf ti = 1) (hs : P.underlying ts = some .string) (hcs : P.cellsOf ts = 1) (hl : P.underlying tl = some (.slice ts)) (hcl : P.cellsOf tl = 1)
    {r : Reach} {b0 : Nat} {v : Value} {d : DataW H} {p : List MemPlace} (hv : Value.okWide P W r b0 t v) (h : DataW.Trod enc P W 0 (fun _ => true) true t v d p) (hlt : ∀ x ∈ p, x.block < W.heap.size) :
    ∃ l, Pz.ActsB W.heap.size W v l ∧ Pz.bulkAs l ≤ Rows.uptoBulk d ∧ l.length ≤ maxLen := by
  obtain ⟨a1, n1, c1, rfl⟩ := okWide_slice ht hv
  obtain ⟨fuel, hf⟩ := h
  rcases DataW.trod_slice ht hf with ⟨hcs', hx⟩ | ⟨a, len, cap, elems, rest, n, _, hcs', hx, hb, hle, hm, hlen, hel, hsp, hns⟩
  · simp [Value.cells] at hcs'
    obtain ⟨rfl, rfl, rfl⟩ := hcs'
    exact ⟨[], ⟨none, 0, rfl, fun i hi => absurd hi (Nat.not_lt_zero _)⟩, Nat.zero_le _, Nat.zero_le _⟩
  · simp [Value.cells] at hcs'
    obtain ⟨rfl, rfl, rfl⟩ := hcs'
    simp only [Prod.mk.injEq] at hx
    obtain ⟨rfl, rfl⟩ := hx
    rw [hce] at hel hlt
    obtain ⟨b, o, spot⟩ := a
    -- each element
    have each : ∀ i y, elems[i]? = some y → ∃ ad : Pz.ActD, (∃ lv, spot = none ∧ b < W.heap.size ∧ Pz.StrsB W.heap.size W lv ad.l ∧
        W.cell? ⟨b, o + i * 6, none⟩ = some (.int .i64 ad.kind) ∧ W.cell? ⟨b, o + i * 6 + 1, none⟩ = some (.int .i64 ad.h) ∧ W.cell? ⟨b, o + i * 6 + 2, none⟩ = some (.int .i64 ad.n) ∧
        W.cell? ⟨b, o + i * 6 + 3, none⟩ = some (.string ⟨ad.s.toArray⟩) ∧ W.cell? ⟨b, o + i * 6 + 4, none⟩ = some (.string ⟨ad.t.toArray⟩) ∧ W.cell? ⟨b, o + i * 6 + 5, none⟩ = some lv) ∧ Pz.bulkA ad ≤ Rows.uptoBulk y.1 := by
      intro i y hy
      have hil : i < n1 := by
        have := (List.getElem?_eq_some_iff.1 hy).1
        omega
      have hb' := hel i hil
      rw [hy, Option.bind_eq_some_iff] at hb'
      obtain ⟨cs, hcells, htr⟩ := hb'
      obtain ⟨_, hcl6, hget⟩ := World.cells?_some hcells
      obtain ⟨xs, m, _, hyx, _, hxl, hg⟩ := DataW.trod_struct he htr
      rw [hfn] at hxl
      obtain ⟨k0, k1, k2, k3, k4, k5, rfl⟩ : ∃ k0 k1 k2 k3 k4 k5, cs = [k0, k1, k2, k3, k4, k5] := by
        match cs, hcl6 with
        | [k0, k1, k2, k3, k4, k5], _ => exact ⟨_, _, _, _, _, _, rfl⟩
      obtain ⟨x0, x1, x2, x3, x4, x5, rfl⟩ : ∃ k0 k1 k2 k3 k4 k5, xs = [k0, k1, k2, k3, k4, k5] := by
        match xs, hxl with
        | [k0, k1, k2, k3, k4, k5], _ => exact ⟨_, _, _, _, _, _, rfl⟩
      obtain ⟨f0, g0, rfl, o0⟩ := hf0
      obtain ⟨f1, g1, t1, o1⟩ := hf1
      obtain ⟨f2, g2, t2, o2⟩ := hf2
      obtain ⟨f3, g3, rfl, o3⟩ := hf3
      obtain ⟨f4, g4, t4, o4⟩ := hf4
      obtain ⟨f5, g5, rfl, o5⟩ := hf5
      have e0 := hg 0 f0 g0
      have e1 := hg 1 f1 g1
      have e2 := hg 2 f2 g2
      have e3 := hg 3 f3 g3
      have e4 := hg 4 f4 g4
      have e5 := hg 5 f5 g5
      rw [o0, hci] at e0
      rw [t1, o1, hci] at e1
      rw [t2, o2, hci] at e2
      rw [o3, hcs] at e3
      rw [t4, o4, hcs] at e4
      rw [o5, hcl] at e5
      simp only [List.drop_zero, List.drop_succ_cons, List.take_succ_cons, List.take_zero, List.getElem?_cons_zero, List.getElem?_cons_succ] at e0 e1 e2 e3 e4 e5
      obtain ⟨z0, q0, r0, _⟩ := DataW.trod_int hi e0
      obtain ⟨z1, q1, r1, _⟩ := DataW.trod_int hi e1
      obtain ⟨z2, q2, r2, _⟩ := DataW.trod_int hi e2
      obtain ⟨z3, q3, r3, _⟩ := DataW.trod_string hs e3
      obtain ⟨z4, q4, r4, _⟩ := DataW.trod_string hs e4
      simp only [List.cons.injEq, and_true] at q0 q1 q2 q3 q4
      subst q0 q1 q2 q3 q4
      have hmem : y ∈ elems := List.mem_of_getElem? hy
      have hpl : ∀ q ∈ x5.2, q.block < W.heap.size := fun q hq => hlt q (List.mem_append_right _ (List.mem_flatMap.2 ⟨y, List.mem_append_left _ hmem, by rw [hyx]; simp [hq]⟩))
      obtain ⟨l, hsl, hsb⟩ := strs_cell hl hs hcs e5 hpl
      have hspot : spot = none := by
        have hb0 := hel 0 (by omega)
        rw [List.getElem?_eq_getElem (by omega), Option.bind_eq_some_iff] at hb0
        obtain ⟨cs0, hcells0, _⟩ := hb0
        obtain ⟨_, hcl0, hget0⟩ := World.cells?_some hcells0
        have hc9 := hget0 0 (by omega)
        rw [List.getElem?_eq_getElem (by omega)] at hc9
        simpa [Addr.add] using World.cell?_spot hc9
      subst hspot
      have hc : ∀ j, j < 6 → W.cell? ⟨b, o + i * 6 + j, none⟩ = ([.int .i64 z0, .int .i64 z1, .int .i64 z2, .string z3, .string z4, k5] : List Value)[j]? := fun j hj => by
        have := hget j hj
        rw [Pz.add_none, Pz.add_none] at this
        exact this
      have hblk : b < W.heap.size := hlt (.cell b (o + 0)) (List.mem_append_left _ (MemPlace.mem_row.2 ⟨0, by
        have := (List.getElem?_eq_some_iff.1 hy).1
        omega, by simp⟩))
      refine ⟨⟨z0, z1, z2, z3.data.toList, z4.data.toList, l⟩, ⟨k5, rfl, hblk, hsl, hc 0 (by omega), hc 1 (by omega), hc 2 (by omega), ?_, ?_, hc 5 (by omega)⟩, ?_⟩
      · rw [hc 3 (by omega)]
        cases z3
        simp
      · rw [hc 4 (by omega)]
        cases z4
        simp
      · rw [hyx, r0, r1, r2, r3, r4]
        unfold Pz.bulkA
        simp only [List.map_cons, List.map_nil, Rows.uptoBulk, Rows.uptoBulkAll]
        omega
    obtain ⟨al, h1, h2, h3⟩ := acts_list (fun i ad => ∃ lv, spot = none ∧ b < W.heap.size ∧ Pz.StrsB W.heap.size W lv ad.l ∧
        W.cell? ⟨b, o + i * 6, none⟩ = some (.int .i64 ad.kind) ∧ W.cell? ⟨b, o + i * 6 + 1, none⟩ = some (.int .i64 ad.h) ∧ W.cell? ⟨b, o + i * 6 + 2, none⟩ = some (.int .i64 ad.n) ∧
        W.cell? ⟨b, o + i * 6 + 3, none⟩ = some (.string ⟨ad.s.toArray⟩) ∧ W.cell? ⟨b, o + i * 6 + 4, none⟩ = some (.string ⟨ad.t.toArray⟩) ∧ W.cell? ⟨b, o + i * 6 + 5, none⟩ = some lv) elems 0 (fun i y hy => by rw [Nat.zero_add]; exact each i y hy)
    refine ⟨al, ⟨some ⟨b, o, spot⟩, c1, by rw [h1, hlen], fun i hi => ?_⟩, ?_, by omega⟩
    · obtain ⟨lv, rfl, q1, q2, q3⟩ := h2 i hi
      rw [Nat.zero_add] at q3
      exact ⟨b, o, lv, rfl, q1, q2, q3⟩
    · simp only [Rows.uptoBulk]
      omega
end
end Go.Proofs.YtabhkoklcjhlpaaGreatDoor.Opn
