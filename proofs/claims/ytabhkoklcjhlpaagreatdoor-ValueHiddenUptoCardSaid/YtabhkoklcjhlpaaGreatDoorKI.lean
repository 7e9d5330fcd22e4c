/-
  Part KI of the proofs of this seat: contracts of functions and plain facts, merged from 5 texts.
-/
import Derived.Test.YtabhkoklcjhlpaaGreatDoorK0
import Derived.Test.YtabhkoklcjhlpaaGreatDoorK1
import Derived.Test.YtabhkoklcjhlpaaGreatDoorK2
import Derived.Test.YtabhkoklcjhlpaaGreatDoorK3
import Derived.Test.YtabhkoklcjhlpaaGreatDoorK4
import Derived.Test.YtabhkoklcjhlpaaGreatDoorK5
import Derived.Test.YtabhkoklcjhlpaaGreatDoorK6
import Derived.Test.YtabhkoklcjhlpaaGreatDoorK7
import Derived.Test.YtabhkoklcjhlpaaGreatDoorK8
import Derived.Test.YtabhkoklcjhlpaaGreatDoorK9
import Derived.Test.YtabhkoklcjhlpaaGreatDoorKA
import Derived.Test.YtabhkoklcjhlpaaGreatDoorKB
import Derived.Test.YtabhkoklcjhlpaaGreatDoorKC
import Derived.Test.YtabhkoklcjhlpaaGreatDoorKD
import Derived.Test.YtabhkoklcjhlpaaGreatDoorKE
import Derived.Test.YtabhkoklcjhlpaaGreatDoorKF
import Derived.Test.YtabhkoklcjhlpaaGreatDoorKG
import Derived.Test.YtabhkoklcjhlpaaGreatDoorKH
/-
  The law's acts in memory: light of a list, same.
-/
namespace Go.Proofs.YtabhkoklcjhlpaaGreatDoor.Pz
open Go.RowKit
/-- a row of acts that lies below B -/
def ActsB (B : Nat) (w : World) (v : Value) (al : List ActD) : Prop :=
  ∃ a cap, v = .slice a al.length cap ∧ ∀ i (h : i < al.length), ∃ (b o : Nat) (lv : Value), a = some ⟨b, o, none⟩ ∧ b < B ∧ StrsB B w lv al[i].l ∧
    w.cell? ⟨b, o + i * 6, none⟩ = some (.int .i64 al[i].kind) ∧ w.cell? ⟨b, o + i * 6 + 1, none⟩ = some (.int .i64 al[i].h) ∧ w.cell? ⟨b, o + i * 6 + 2, none⟩ = some (.int .i64 al[i].n) ∧
    w.cell? ⟨b, o + i * 6 + 3, none⟩ = some (.string ⟨al[i].s.toArray⟩) ∧ w.cell? ⟨b, o + i * 6 + 4, none⟩ = some (.string ⟨al[i].t.toArray⟩) ∧ w.cell? ⟨b, o + i * 6 + 5, none⟩ = some lv
theorem ActsB.low {B : Nat} {w w' : World} {v : Value} {al : List ActD} (h : ActsB B w v al) (hb : Below B w w') : ActsB B w' v al := by
  obtain ⟨a, cap, h1, h3⟩ := h
  refine ⟨a, cap, h1, fun i hi => ?_⟩
  obtain ⟨b, o, lv, q1, q2, q3, q4, q5, q6, q7, q8, q9⟩ := h3 i hi
  have key : ∀ (j : Nat) (x : Value), w.cell? ⟨b, j, none⟩ = some x → w'.cell? ⟨b, j, none⟩ = some x := fun j x hx => (hb.cell (p := ⟨b, j, none⟩) q2).trans hx
  exact ⟨b, o, lv, q1, q2, q3.low hb, key _ _ q4, key _ _ q5, key _ _ q6, key _ _ q7, key _ _ q8, key _ _ q9⟩
def bulkA (a : ActD) : Nat := a.s.length + a.t.length + 1 + sumS a.l
def bulkAs : List ActD → Nat
  | [] => 0
  | a :: l => bulkA a + bulkAs l
theorem bulkAs_drop (l : List ActD) (i : Nat) (h : i < l.length) : bulkAs (l.drop i) = bulkA l[i] + bulkAs (l.drop (i + 1)) := by
  rw [List.drop_eq_getElem_cons h, bulkAs]
theorem bulkAs_mem : ∀ (l : List ActD) (a : ActD), a ∈ l → bulkA a ≤ bulkAs l
  | x :: l, a, h => by
    rw [bulkAs]
    rcases List.mem_cons.1 h with rfl | h
    · omega
    · have := bulkAs_mem l a h
      omega
theorem bulkAs_len : ∀ (l : List ActD), l.length ≤ bulkAs l
  | [] => Nat.le_refl _
  | a :: l => by
    have := bulkAs_len l
    rw [bulkAs, List.length_cons, bulkA]
    omega
def lightB (al : List ActD) : Bool := decide (al.length ≤ 40) && decide (bulkAs al ≤ 3000)
set_option maxRecDepth 100000 in
set_option maxHeartbeats 4000000 in
theorem lightAs_fn {B : Nat} {w : World} {v : Value} {al : List ActD} (hv : ActsB B w v al) (hB : B ≤ w.heap.size) (hb : bulkAs al ≤ 10000000) :
    Calls Tryz.prog 8 #[v] w fun e w' => e = .returned (.bool (lightB al)) ∧ Below w.heap.size w w' := by
  have HV := hid hv
  obtain ⟨a, cap, rfl, hcell⟩ := hv
  obtain ⟨n, hn⟩ : ∃ n, n = al.length := ⟨_, rfl⟩
  have hnb : n ≤ 10000000 := by have := bulkAs_len al; omega
  have HN := hid hn
  have HD := hid (bulkAs_drop al)
  have HBB := hid hb
  have HSD := hid sumS_drop
  obtain ⟨ans, hans⟩ : ∃ x, x = lightB al := ⟨_, rfl⟩
  have HANS := hid hans
  rw [← hans, ← hn]
  clear hcell hn hb hans
  go_enter Tryz.func8, Tryz.ntmps8
  go_wp2
  go_loopg [3, 10] n (fun k mv iv wr => ∃ (m i : Nat), mv = .int .i64 (m : Nat) ∧ iv = .int .i64 (i : Nat) ∧ i ≤ n ∧ m + bulkAs (al.drop i) = bulkAs al ∧ Below w.heap.size w wr ∧ k = n - i)
  case atStart => exact ⟨0, 0, rfl, rfl, Nat.zero_le _, by simp, Below.refl _ _, by simp⟩
  case round =>
    obtain ⟨m, i, rfl, rfl, hi, hms, hbl, rfl⟩ := hrel
    rcases Nat.lt_or_ge i n with hlt | hge
    · have hlt' : i < al.length := by rw [← HN.out]; exact hlt
      have hbB : Below B w wr := hbl.mono hB
      obtain ⟨a', cap', e', hcell⟩ := HV.out.low hbB
      simp only [Value.slice.injEq] at e'
      obtain ⟨b, o, lv, ha, hbl2, hlv, q4, q5, q6, q7, q8, q9⟩ := hcell i hlt'
      rw [← e'.1] at ha
      clear hcell e'
      subst ha
      have hd := HD.out i hlt'
      have hbm := HBB.out
      obtain ⟨x, hx⟩ : ∃ x, x = al[i] := ⟨_, rfl⟩
      rw [← hx] at hlv q4 q5 q6 q7 q8 hd
      obtain ⟨kind, h, nn, s, t, l⟩ := x
      dsimp only at hlv q4 q5 q6 q7 q8 hd
      unfold bulkA at hd
      dsimp only at hd
      have hwz := hbl.size
      have hlvs := hid (hlv.strs (Nat.le_trans hB hwz))
      obtain ⟨la, lc, rfl, hlc, hlcell⟩ := hlv
      obtain ⟨ln, hln⟩ : ∃ ln, ln = l.length := ⟨_, rfl⟩
      rw [← hln] at q9
      have HLN := hid hln
      have hsz : (⟨s.toArray⟩ : ByteArray).size = s.length := Lib.size_mk _
      have htz : (⟨t.toArray⟩ : ByteArray).size = t.length := Lib.size_mk _
      have hlnb : ln ≤ 10000000 := by have := sumS_len l; omega
      obtain ⟨W, hW⟩ : ∃ W, W = wr.alloc (.cells #[.int .i64 kind, .int .i64 h, .int .i64 nn, .string ⟨s.toArray⟩, .string ⟨t.toArray⟩, .slice la ln lc] 25) := ⟨_, rfl⟩
      have hbW : Below wr.heap.size wr W := by rw [hW]; exact belowA _ _
      have HLV := hid (hlvs.out.below hbW)
      have HBW := hid (hbl.trans (hbW.mono hwz))
      have HMS := hid hms
      have HDD := hid hd
      have HWW := hid hW
      have hsb : m + s.length + t.length + 1 + sumS l ≤ 10000000 := by omega
      clear hlcell hln hms hd hbl hbB hx hW hbW hlc
      have hi0 : i = 0 ∨ 0 < i := by omega
      go_wp2
      rw [← HWW.out]
      go_loopg [3, 27] ln (fun k2 mv jv wr2 => ∃ (m2 j : Nat), mv = .int .i64 (m2 : Nat) ∧ jv = .int .i64 (j : Nat) ∧ j ≤ ln ∧ m2 + sumS (l.drop j) = m + s.length + t.length + 1 + sumS l ∧ wr2 = W ∧ k2 = ln - j)
      case atStart => exact ⟨m + (s.length + t.length + 1), 0, by go_num, rfl, Nat.zero_le _, by rw [List.drop_zero]; omega, rfl, by simp⟩
      case round =>
        obtain ⟨m2, j, rfl, rfl, hj, hms2, hw, rfl⟩ := hrel
        replace hw := hw.symm
        subst hw
        rcases Nat.lt_or_ge j ln with hlt2 | hge2
        · have hlt2' : j < l.length := by rw [← HLN.out]; exact hlt2
          obtain ⟨a2, c2, e2, hc2, hcell2⟩ := HLV.out
          simp only [Value.slice.injEq] at e2
          obtain ⟨p, hp, hbb, hcw⟩ := hcell2 j hlt2'
          rw [← e2.1] at hp
          clear hcell2 e2 hc2
          subst hp
          have hsd := HSD.out l j hlt2'
          rw [hsd] at hms2
          generalize l[j] = x at hcw hms2
          have hsz2 : (⟨x.toArray⟩ : ByteArray).size = x.length := Lib.size_mk _
          clear hsd
          by_cases h0 : j = 0
          · subst h0
            replace hcw : W.cell? p = some (.string ⟨x.toArray⟩) := hcw
            go_wp2
            go_roundg (ln - (0 + 1))
            case measure => omega
            case rel => exact ⟨m2 + (x.length + 1), 0 + 1, by go_num, by go_num, by omega, by omega, rfl, rfl⟩
          · go_wp2
            go_roundg (ln - (j + 1))
            case measure => omega
            case rel => exact ⟨m2 + (x.length + 1), j + 1, by go_num, by go_num, by omega, by omega, rfl, rfl⟩
        · obtain rfl : j = ln := by omega
          have hm2 : m2 + bulkAs (al.drop (i + 1)) = bulkAs al := by
            have h1 : l.drop j = [] := List.drop_eq_nil_of_le (by rw [← HLN.out]; exact Nat.le_refl _)
            rw [h1, sumS] at hms2
            have := HMS.out
            have := HDD.out
            omega
          have HM2 := hid hm2
          clear hm2 hms2
          go_wp2
          go_roundg (n - (i + 1))
          case measure => omega
          case rel => exact ⟨m2, i + 1, rfl, by go_num, by omega, HM2.out, HBW.out, rfl⟩
    · obtain rfl : i = n := by omega
      have hm2 : m = bulkAs al := by
        have h1 : al.drop i = [] := List.drop_eq_nil_of_le (by rw [← HN.out]; exact Nat.le_refl _)
        rw [h1, bulkAs] at hms
        omega
      have hAN : ans = (decide (i ≤ 40) && decide (m ≤ 3000)) := by rw [HANS.out, lightB, ← HN.out, ← hm2]
      have HAN := hid hAN
      clear hms hm2 hAN
      by_cases h40 : i ≤ 40
      · have h40' : (i : Int) ≤ 40 := by omega
        by_cases h3 : m ≤ 3000
        · have h3' : (m : Int) ≤ 3000 := by omega
          obtain rfl : ans = true := by rw [HAN.out, decide_eq_true h40, decide_eq_true h3]; rfl
          go_wp2
          go_ret
          exact ⟨rfl, hbl⟩
        · have h3' : ¬ (m : Int) ≤ 3000 := by omega
          obtain rfl : ans = false := by rw [HAN.out, decide_eq_false h3, Bool.and_false]
          go_wp2
          go_ret
          exact ⟨rfl, hbl⟩
      · have h40' : ¬ (i : Int) ≤ 40 := by omega
        obtain rfl : ans = false := by rw [HAN.out, decide_eq_false h40]; rfl
        go_wp2
        go_ret
        exact ⟨rfl, hbl⟩
section
variable {B st st2 : Nat} {Q : Held} {w : World} {A : ShA}
set_option maxRecDepth 100000 in
set_option maxHeartbeats 4000000 in
theorem sameS_fn (hj : J2 B st st2 Q w A (AR A)) (hml : ML w) (hmB : 0 < B) (hA : A.length ≤ 1000) :
    Calls Tryz.prog 41 #[.pointer (some ⟨st, 0, none⟩), .pointer (some ⟨st2, 0, none⟩), .bool true] w fun e w' => e = .returned (.bool true) ∧ J2 B st st2 Q w' A (AR A) ∧ Below B w w' ∧ KeepX w w' := by
  have HJ := hid hj
  have HM := hid hml
  have HCT := hid (show ∀ u, J2 B st st2 Q u A (AR A) → Calls Tryz.prog 40 #[.pointer (some ⟨st2, 0, none⟩)] u fun e u' => e = .returned (.int .i64 (A.length : Nat)) ∧ u' = u from fun u hu => by
    obtain ⟨v, S, v2, R, h1, h2, h3, h4, _⟩ := hu
    have h9 := count_fn h2
    rw [shapeR_lenR h4, AR_len] at h9
    exact h9)
  have HTP := hid (show ∀ (u : World) (h : Int), J2 B st st2 Q u A (AR A) → ML u → Calls Tryz.prog 14 #[.pointer (some ⟨st, 0, none⟩), .int .i64 h] u fun e u' => e = .returned (.tuple #[.string ⟨(textA A h).1.toArray⟩, .int .i64 (textA A h).2]) ∧ J2 B st st2 Q u' A (AR A) ∧ Below B u u' ∧ KeepX u u' from fun u h hu hm =>
    hu.prog fun v S h1 h3 => by
      have h9 := textA_fn h1 hm h
      rw [h3] at h9
      exact h9.mono fun e w' hh => ⟨hh.1, _, hh.2, h3⟩)
  have HTR := hid (show ∀ (u : World) (h : Int), J2 B st st2 Q u A (AR A) → Calls Tryz.prog 77 #[.pointer (some ⟨st2, 0, none⟩), .int .i64 h] u fun e u' => e = .returned (.tuple #[.string ⟨(textA A h).1.toArray⟩, .int .i64 (textA A h).2]) ∧ u' = u from fun u h hu => by
    obtain ⟨v, S, v2, R, h1, h2, h3, h4, _⟩ := hu
    have h9 := textSR_fn h2 h
    rw [h4, ← text_rel] at h9
    exact h9)
  have HFP := hid (show ∀ (u : World) (h : Int), J2 B st st2 Q u A (AR A) → Calls Tryz.prog 13 #[.pointer (some ⟨st, 0, none⟩), .int .i64 h] u fun e u' => e = .returned (.tuple #[.int .i64 (faceA A h).1, .int .i64 (faceA A h).2]) ∧ u' = u from fun u h hu => by
    obtain ⟨v, S, v2, R, h1, h2, h3, h4, _⟩ := hu
    have h9 := faceA_fn h1 h
    rw [h3] at h9
    exact h9)
  have HFR := hid (show ∀ (u : World) (h : Int), J2 B st st2 Q u A (AR A) → Calls Tryz.prog 78 #[.pointer (some ⟨st2, 0, none⟩), .int .i64 h] u fun e u' => e = .returned (.tuple #[.int .i64 (faceA A h).1, .int .i64 (faceA A h).2]) ∧ u' = u from fun u h hu => by
    obtain ⟨v, S, v2, R, h1, h2, h3, h4, _⟩ := hu
    have h9 := faceSR_fn h2 h
    rw [h4, ← face_rel] at h9
    exact h9)
  obtain ⟨n, hn⟩ : ∃ n, n = A.length := ⟨_, rfl⟩
  rw [← hn] at HCT hA
  clear hj hml hn
  go_enter Tryz.func41, Tryz.ntmps41
  go_wp2_with fail
  go_loopg [7] (n + 2) (fun k iv wr => ∃ i : Nat, iv = .int .i64 ((i : Int) - 1) ∧ i ≤ n + 2 ∧ J2 B st st2 Q wr A (AR A) ∧ ML wr ∧ Below B w wr ∧ KeepX w wr ∧ k = n + 2 - i)
  case atStart => exact ⟨0, rfl, Nat.zero_le _, HJ.out, HM.out, Below.refl _ _, KeepX.refl _, by simp⟩
  case round =>
    obtain ⟨i, rfl, hi, hj, hm, hbl, hkx, rfl⟩ := hrel
    have HC := hid (HCT.out wr hj)
    rcases Nat.lt_or_ge i (n + 2) with hlt | hge
    · have hle : (i : Int) - 1 ≤ (n : Int) := by omega
      have HT1 := hid (HTP.out wr ((i : Int) - 1) hj hm)
      have HB := hid hbl
      have HK := hid hkx
      have HML := hid hm
      clear hj hbl hkx hm
      obtain ⟨tt, htt⟩ : ∃ tt, tt = textA A ((i : Int) - 1) := ⟨_, rfl⟩
      obtain ⟨ff, hff⟩ : ∃ ff, ff = faceA A ((i : Int) - 1) := ⟨_, rfl⟩
      rw [← htt] at HT1
      obtain ⟨t1, t2⟩ := tt
      obtain ⟨f1, f2⟩ := ff
      have HTT := hid htt
      have HFF := hid hff
      have HT1 := hid HT1.out
      dsimp only at HT1
      clear htt hff
      go_wp2_with fail
      (with_reducible refine HC.out.mono ?_); rintro e wr' ⟨rfl, hw⟩; subst hw
      go_wp2_with fail
      (with_reducible refine HT1.out.mono ?_); rintro e w2 ⟨rfl, hj2, hb2, hx2⟩
      have HT2 := hid (HTR.out w2 ((i : Int) - 1) hj2)
      have HF1 := hid (HFP.out w2 ((i : Int) - 1) hj2)
      have HF2 := hid (HFR.out w2 ((i : Int) - 1) hj2)
      rw [← HTT.out] at HT2
      rw [← HFF.out] at HF1 HF2
      dsimp only at HT2 HF1 HF2
      have HJ2 := hid hj2
      have HM2 := hid (HML.out.lowB hmB hb2)
      have HB2 := hid (HB.out.trans hb2)
      have HK2 := hid (HK.out.trans hx2)
      clear hj2 hb2 hx2
      go_wp2_with fail
      (with_reducible refine HT2.out.mono ?_); rintro e w2' ⟨rfl, hw⟩; subst hw
      go_wp2_with fail
      (with_reducible refine HF1.out.mono ?_); rintro e w2' ⟨rfl, hw⟩; subst hw
      go_wp2_with fail
      (with_reducible refine HF2.out.mono ?_); rintro e w2' ⟨rfl, hw⟩; subst hw
      go_wp2
      go_roundg (n + 2 - (i + 1))
      case measure => omega
      case rel => exact ⟨i + 1, by rw [Value.int.injEq]; exact ⟨rfl, by omega⟩, by omega, HJ2.out, HM2.out, HB2.out, HK2.out, rfl⟩
    · have hgt : ¬ ((i : Int) - 1 ≤ (n : Int)) := by omega
      have HB := hid hbl
      have HK := hid hkx
      have HJJ := hid hj
      clear hj hbl hkx hm
      go_wp2_with fail
      (with_reducible refine HC.out.mono ?_); rintro e wr' ⟨rfl, hw⟩; subst hw
      go_wp2
      go_ret
      exact ⟨rfl, HJJ.out, HB.out, HK.out⟩
end
end Go.Proofs.YtabhkoklcjhlpaaGreatDoor.Pz
/-
  Arguments opened: rows of acts.
-/
namespace Go.Proofs.YtabhkoklcjhlpaaGreatDoor.Opn
open Go.ChangeMaps Go.ChangeShapes Go.WideShapes Go.ChangeAt Go.RowKit
section
variable {P : Program} {H : Type} {enc : TypeId × Value → H} {W : World}
theorem acts_list (Q : Nat → Pz.ActD → Prop) : ∀ (elems : List (DataW H × List MemPlace)) (k : Nat), (∀ i y, elems[i]? = some y → ∃ a, Q (k + i) a ∧ Pz.bulkA a ≤ Rows.uptoBulk y.1) →
    ∃ al : List Pz.ActD, al.length = elems.length ∧ (∀ i (h : i < al.length), Q (k + i) al[i]) ∧ Pz.bulkAs al ≤ Rows.uptoBulkAll (elems.map (·.1))
  | [], k, _ => ⟨[], rfl, fun i h => absurd h (Nat.not_lt_zero _), Nat.zero_le _⟩
  | y :: elems, k, h => by
    obtain ⟨a, ha, hb⟩ := h 0 y rfl
    obtain ⟨al, h1, h2, h3⟩ := acts_list Q elems (k + 1) (fun i z hz => by
      obtain ⟨a, q1, q2⟩ := h (i + 1) z hz
      exact ⟨a, by rw [show k + 1 + i = k + (i + 1) by omega]; exact q1, q2⟩)
    refine ⟨a :: al, by simp [h1], fun i hi => ?_, ?_⟩
    · cases i with
      | zero => exact ha
      | succ i =>
        have := h2 i (by simpa using hi)
        rw [show k + 1 + i = k + (i + 1) by omega] at this
        exact this
    · show Pz.bulkA a + Pz.bulkAs al ≤ Rows.uptoBulk y.1 + Rows.uptoBulkAll (elems.map (·.1))
      omega
/-- a row of texts in a field -/
theorem strs_cell {ts tl : TypeId} (hl : P.underlying tl = some (.slice ts)) (hs : P.underlying ts = some .string) (hcs : P.cellsOf ts = 1) {m : Nat} {c : Value} {x : DataW H × List MemPlace}
    (h : DataW.trod enc P W 0 (fun _ => true) true m tl [c] = some x) (hlt : ∀ q ∈ x.2, q.block < W.heap.size) : ∃ l, Pz.StrsB W.heap.size W c l ∧ Pz.sumS l ≤ Rows.uptoBulk x.1 := by
  rcases open_strings hl hs hcs h with ⟨hc, hx⟩ | ⟨a, len, cap, ss, hc, _, hle, hm, hz, hx, hcell, hws⟩
  · simp only [List.cons.injEq, and_true] at hc
    subst hc
    exact ⟨[], ⟨none, 0, rfl, Nat.le_refl _, fun i hi => absurd hi (Nat.not_lt_zero _)⟩, Nat.zero_le _⟩
  · simp only [List.cons.injEq, and_true] at hc
    subst hc
    subst hx
    simp only [if_true] at hz
    have hln : ((ss.take len).map (·.data.toList)).length = len := by rw [List.length_map, List.length_take]; omega
    refine ⟨(ss.take len).map (·.data.toList), ⟨some a, cap, by rw [hln], by rw [hln]; exact hle, fun i hi => ⟨a, rfl, ?_, ?_⟩⟩, ?_⟩
    · rw [hln] at hi
      exact blk_lt (n := ss.length) hlt (by omega) (hcell 0 (by omega))
    · rw [hcell i (by rw [hln] at hi; omega), getD_data ss len i hi]
    · simp only [Rows.uptoBulk]
      rw [bulk_strs, bulk_strs]
      omega
theorem opened_acts {t e ti ts tl : TypeId} {fs : Array Field} (ht : P.underlying t = some (.slice e)) (he : P.underlying e = some (.struct fs)) (hce : P.cellsOf e = 6)
    (hf0 : ∃ f, fs[0]? = some f ∧ f.type = ti ∧ f.offset = 0) (hf1 : ∃ f, fs[1]? = some f ∧ f.type = ti ∧ f.offset = 1) (hf2 : ∃ f, fs[2]? = some f ∧ f.type = ti ∧ f.offset = 2)
    (hf3 : ∃ f, fs[3]? = some f ∧ f.type = ts ∧ f.offset = 3) (hf4 : ∃ f, fs[4]? = some f ∧ f.type = ts ∧ f.offset = 4) (hf5 : ∃ f, fs[5]? = some f ∧ f.type = tl ∧ f.offset = 5) (hfn : fs.size = 6)
    (hi : P.underlying ti = some (.int .i64)) (hci : P.cellsOf ti = 1) (hs : P.underlying ts = some .string) (hcs : P.cellsOf ts = 1) (hl : P.underlying tl = some (.slice ts)) (hcl : P.cellsOf tl = 1)
    {r : Reach} {b0 : Nat} {v : Value} {d : DataW H} {p : List MemPlace} (hv : Value.okWide P W r b0 t v) (h : DataW.Trod enc P W 0 (fun _ => true) true t v d p) (hlt : ∀ x ∈ p, x.block < W.heap.size) :
    ∃ l, Pz.ActsB W.heap.size W v l ∧ Pz.bulkAs l ≤ Rows.uptoBulk d ∧ l.length ≤ maxLen := by
  obtain ⟨a1, n1, c1, rfl⟩ := okWide_slice ht hv
  obtain ⟨fuel, hf⟩ := h
  rcases DataW.trod_slice ht hf with ⟨hcs', hx⟩ | ⟨a, len, cap, elems, rest, n, _, hcs', hx, hb, hle, hm, hlen, hel, hsp, hns⟩
  · simp [Value.cells] at hcs'
    obtain ⟨rfl, rfl, rfl⟩ := hcs'
    exact ⟨[], ⟨none, 0, rfl, fun i hi => absurd hi (Nat.not_lt_zero _)⟩, Nat.zero_le _, Nat.zero_le _⟩
  · simp [Value.cells] at hcs'
    obtain ⟨rfl, rfl, rfl⟩ := hcs'
    simp only [Prod.mk.injEq] at hx
    obtain ⟨rfl, rfl⟩ := hx
    rw [hce] at hel hlt
    obtain ⟨b, o, spot⟩ := a
    -- each element
    have each : ∀ i y, elems[i]? = some y → ∃ ad : Pz.ActD, (∃ lv, spot = none ∧ b < W.heap.size ∧ Pz.StrsB W.heap.size W lv ad.l ∧
        W.cell? ⟨b, o + i * 6, none⟩ = some (.int .i64 ad.kind) ∧ W.cell? ⟨b, o + i * 6 + 1, none⟩ = some (.int .i64 ad.h) ∧ W.cell? ⟨b, o + i * 6 + 2, none⟩ = some (.int .i64 ad.n) ∧
        W.cell? ⟨b, o + i * 6 + 3, none⟩ = some (.string ⟨ad.s.toArray⟩) ∧ W.cell? ⟨b, o + i * 6 + 4, none⟩ = some (.string ⟨ad.t.toArray⟩) ∧ W.cell? ⟨b, o + i * 6 + 5, none⟩ = some lv) ∧ Pz.bulkA ad ≤ Rows.uptoBulk y.1 := by
      intro i y hy
      have hil : i < n1 := by
        have := (List.getElem?_eq_some_iff.1 hy).1
        omega
      have hb' := hel i hil
      rw [hy, Option.bind_eq_some_iff] at hb'
      obtain ⟨cs, hcells, htr⟩ := hb'
      obtain ⟨_, hcl6, hget⟩ := World.cells?_some hcells
      obtain ⟨xs, m, _, hyx, _, hxl, hg⟩ := DataW.trod_struct he htr
      rw [hfn] at hxl
      obtain ⟨k0, k1, k2, k3, k4, k5, rfl⟩ : ∃ k0 k1 k2 k3 k4 k5, cs = [k0, k1, k2, k3, k4, k5] := by
        match cs, hcl6 with
        | [k0, k1, k2, k3, k4, k5], _ => exact ⟨_, _, _, _, _, _, rfl⟩
      obtain ⟨x0, x1, x2, x3, x4, x5, rfl⟩ : ∃ k0 k1 k2 k3 k4 k5, xs = [k0, k1, k2, k3, k4, k5] := by
        match xs, hxl with
        | [k0, k1, k2, k3, k4, k5], _ => exact ⟨_, _, _, _, _, _, rfl⟩
      obtain ⟨f0, g0, rfl, o0⟩ := hf0
      obtain ⟨f1, g1, t1, o1⟩ := hf1
      obtain ⟨f2, g2, t2, o2⟩ := hf2
      obtain ⟨f3, g3, rfl, o3⟩ := hf3
      obtain ⟨f4, g4, t4, o4⟩ := hf4
      obtain ⟨f5, g5, rfl, o5⟩ := hf5
      have e0 := hg 0 f0 g0
      have e1 := hg 1 f1 g1
      have e2 := hg 2 f2 g2
      have e3 := hg 3 f3 g3
      have e4 := hg 4 f4 g4
      have e5 := hg 5 f5 g5
      rw [o0, hci] at e0
      rw [t1, o1, hci] at e1
      rw [t2, o2, hci] at e2
      rw [o3, hcs] at e3
      rw [t4, o4, hcs] at e4
      rw [o5, hcl] at e5
      simp only [List.drop_zero, List.drop_succ_cons, List.take_succ_cons, List.take_zero, List.getElem?_cons_zero, List.getElem?_cons_succ] at e0 e1 e2 e3 e4 e5
      obtain ⟨z0, q0, r0, _⟩ := DataW.trod_int hi e0
      obtain ⟨z1, q1, r1, _⟩ := DataW.trod_int hi e1
      obtain ⟨z2, q2, r2, _⟩ := DataW.trod_int hi e2
      obtain ⟨z3, q3, r3, _⟩ := DataW.trod_string hs e3
      obtain ⟨z4, q4, r4, _⟩ := DataW.trod_string hs e4
      simp only [List.cons.injEq, and_true] at q0 q1 q2 q3 q4
      subst q0 q1 q2 q3 q4
      have hmem : y ∈ elems := List.mem_of_getElem? hy
      have hpl : ∀ q ∈ x5.2, q.block < W.heap.size := fun q hq => hlt q (List.mem_append_right _ (List.mem_flatMap.2 ⟨y, List.mem_append_left _ hmem, by rw [hyx]; simp [hq]⟩))
      obtain ⟨l, hsl, hsb⟩ := strs_cell hl hs hcs e5 hpl
      have hspot : spot = none := by
        have hb0 := hel 0 (by omega)
        rw [List.getElem?_eq_getElem (by omega), Option.bind_eq_some_iff] at hb0
        obtain ⟨cs0, hcells0, _⟩ := hb0
        obtain ⟨_, hcl0, hget0⟩ := World.cells?_some hcells0
        have hc9 := hget0 0 (by omega)
        rw [List.getElem?_eq_getElem (by omega)] at hc9
        simpa [Addr.add] using World.cell?_spot hc9
      subst hspot
      have hc : ∀ j, j < 6 → W.cell? ⟨b, o + i * 6 + j, none⟩ = ([.int .i64 z0, .int .i64 z1, .int .i64 z2, .string z3, .string z4, k5] : List Value)[j]? := fun j hj => by
        have := hget j hj
        rw [Pz.add_none, Pz.add_none] at this
        exact this
      have hblk : b < W.heap.size := hlt (.cell b (o + 0)) (List.mem_append_left _ (MemPlace.mem_row.2 ⟨0, by
        have := (List.getElem?_eq_some_iff.1 hy).1
        omega, by simp⟩))
      refine ⟨⟨z0, z1, z2, z3.data.toList, z4.data.toList, l⟩, ⟨k5, rfl, hblk, hsl, hc 0 (by omega), hc 1 (by omega), hc 2 (by omega), ?_, ?_, hc 5 (by omega)⟩, ?_⟩
      · rw [hc 3 (by omega)]
        cases z3
        simp
      · rw [hc 4 (by omega)]
        cases z4
        simp
      · rw [hyx, r0, r1, r2, r3, r4]
        unfold Pz.bulkA
        simp only [List.map_cons, List.map_nil, Rows.uptoBulk, Rows.uptoBulkAll]
        omega
    obtain ⟨al, h1, h2, h3⟩ := acts_list (fun i ad => ∃ lv, spot = none ∧ b < W.heap.size ∧ Pz.StrsB W.heap.size W lv ad.l ∧
        W.cell? ⟨b, o + i * 6, none⟩ = some (.int .i64 ad.kind) ∧ W.cell? ⟨b, o + i * 6 + 1, none⟩ = some (.int .i64 ad.h) ∧ W.cell? ⟨b, o + i * 6 + 2, none⟩ = some (.int .i64 ad.n) ∧
        W.cell? ⟨b, o + i * 6 + 3, none⟩ = some (.string ⟨ad.s.toArray⟩) ∧ W.cell? ⟨b, o + i * 6 + 4, none⟩ = some (.string ⟨ad.t.toArray⟩) ∧ W.cell? ⟨b, o + i * 6 + 5, none⟩ = some lv) elems 0 (fun i y hy => by rw [Nat.zero_add]; exact each i y hy)
    refine ⟨al, ⟨some ⟨b, o, spot⟩, c1, by rw [h1, hlen], fun i hi => ?_⟩, ?_, by omega⟩
    · obtain ⟨lv, rfl, q1, q2, q3⟩ := h2 i hi
      rw [Nat.zero_add] at q3
      exact ⟨b, o, lv, rfl, q1, q2, q3⟩
    · simp only [Rows.uptoBulk]
      omega
end
end Go.Proofs.YtabhkoklcjhlpaaGreatDoor.Opn
/-
  The law ValueStores walked.
-/
namespace Go.Proofs.YtabhkoklcjhlpaaGreatDoor.Pz
open Go.RowKit
theorem store_new {B st : Nat} {w : World} (h : w.heap[st]? = some (.cells #[.slice none 0 0] 69 (0, 0))) (h1 : B ≤ st) (h2 : B ≤ w.heap.size) : StoreIs B st w (.slice none 0 0) [] :=
  ⟨⟨h, World.ownsRow_nil _ _ _ _⟩, by simp, by simp, by simp, by simp, ⟨h1, h2, by simp⟩⟩
theorem store_newR {B st : Nat} {w : World} (h : w.heap[st]? = some (.cells #[.slice none 0 0] 105 (0, 0))) (h1 : B ≤ st) (h2 : B ≤ w.heap.size) : RStAt B st w (.slice none 0 0) [] :=
  ⟨h, World.ownsRow_nil _ _ _ _, by simp, by simp, ⟨h1, h2, by simp⟩⟩
theorem act_ok {al : List ActD} (h : lightB al = true) {a : ActD} (ha : a ∈ al) : a.ok := by
  unfold lightB at h
  rw [Bool.and_eq_true] at h
  have h1 := of_decide_eq_true h.2
  have h2 := bulkAs_mem al a ha
  unfold bulkA at h2
  exact ⟨by omega, by omega, joinOk_light (by omega)⟩
set_option maxRecDepth 100000 in
set_option maxHeartbeats 4000000 in
theorem valueStores_fn (al : List ActD) (v : Value) (w : World) (hml : ML w) (hv : ActsB w.heap.size w v al) (hb : bulkAs al ≤ 10000000) :
    Calls Tryz.prog 7 #[v] w fun e w' => e = .returned (.bool true) ∧ Below w.heap.size w w' := by
  obtain ⟨B, hB⟩ : ∃ B, B = w.heap.size := ⟨_, rfl⟩
  have hmB : 0 < B := by rw [hB]; exact hml.lt
  rw [← hB] at hv ⊢
  have HL := hid (lightAs_fn hv (by omega) hb)
  have HV := hid hv
  have HM := hid hml
  have hBw : B ≤ w.heap.size := by omega
  have AW := fun u (h : Below B w u) => hid (awake_fn u (HM.out.lowB hmB h))
  obtain ⟨a, cap, rfl, hcell⟩ := hv
  obtain ⟨n, hn⟩ : ∃ n, n = al.length := ⟨_, rfl⟩
  have HN := hid hn
  rw [← hn] at HL HV ⊢
  have hnb : n ≤ 10000000 := by have := bulkAs_len al; omega
  clear hml hcell hn hb hB
  cases hlt : lightB al with
  | false =>
    rw [hlt] at HL
    clear hlt
    go_enter Tryz.func7, Tryz.ntmps7
    go_wp2_with fail
    (with_reducible refine HL.out.mono ?_); rintro e w1 ⟨rfl, hb1⟩
    have HB1 := hid (hb1.mono hBw)
    have haw := AW _ HB1.out
    clear hb1
    go_wp2_with fail
    (with_reducible refine haw.out.mono ?_); rintro e w2 ⟨rfl, hb2⟩
    have HB2 := hid (HB1.out.trans (hb2.mono (Nat.le_trans hBw HB1.out.size)))
    clear hb2
    go_wp2
    go_ret
    exact ⟨rfl, HB2.out⟩
  | true =>
    rw [hlt] at HL
    have HLT := hid hlt
    have hn40 : n ≤ 40 := by
      have h9 := hlt
      unfold lightB at h9
      rw [Bool.and_eq_true] at h9
      have := of_decide_eq_true h9.1
      have := HN.out
      omega
    clear hlt
    go_enter Tryz.func7, Tryz.ntmps7
    go_wp2_with fail
    (with_reducible refine HL.out.mono ?_); rintro e w1 ⟨rfl, hb1⟩
    have HB1 := hid (hb1.mono hBw)
    have HNS := hid (newStore_fn w1)
    clear hb1
    go_wp2_with fail
    (with_reducible refine HNS.out.mono ?_); rintro e w2 ⟨rfl, hst, hb2⟩
    have hz1 := Nat.le_trans hBw HB1.out.size
    have HB2 := hid (HB1.out.trans (hb2.mono hz1))
    have HNR := hid (newStoreR_fn w2)
    have HST := hid hst
    obtain ⟨st, hst0⟩ : ∃ st, st = w1.heap.size := ⟨_, rfl⟩
    rw [← hst0]
    have HST0 := hid hst0
    clear hb2 hst hst0
    go_wp2_with fail
    (with_reducible refine HNR.out.mono ?_); rintro e w3 ⟨rfl, hst2, hb3⟩
    have hz2 := Nat.le_trans hBw HB2.out.size
    have HB3 := hid (HB2.out.trans (hb3.mono hz2))
    obtain ⟨st2, hst20⟩ : ∃ st2, st2 = w2.heap.size := ⟨_, rfl⟩
    rw [← hst20]
    have hz3 := Nat.le_trans hBw HB3.out.size
    have hj : J2 B st st2 [] w3 [] (AR []) := by
      have h2 := HST.out.blk
      rw [← HST0.out] at h2
      refine ⟨_, _, _, _, store_new ((hb3.block st (Array.getElem?_eq_some_iff.1 h2).1).trans h2) (by have := HST0.out; omega) hz3, store_newR (st := st2) (by rw [hst20]; exact hst2.blk) (by omega) hz3, rfl, rfl, fun _ hq => (by cases hq), fun _ hq => (by cases hq)⟩
    have HJ := hid hj
    clear hst2 hb3 hst20 hj
    go_wp2
    go_loopg [15] n (fun k iv wr => ∃ (i : Nat) (A : ShA), iv = .int .i64 (i : Nat) ∧ i ≤ n ∧ J2 B st st2 [] wr A (AR A) ∧ Below B w wr ∧ A.length ≤ i ∧ k = n - i)
    case atStart => exact ⟨0, [], rfl, Nat.zero_le _, HJ.out, HB3.out, Nat.le_refl _, by simp⟩
    case round =>
      obtain ⟨i, A, rfl, hi, hj, hbl, hAl, rfl⟩ := hrel
      rcases Nat.lt_or_ge i n with hlt | hge
      · have hlt' : i < al.length := by rw [← HN.out]; exact hlt
        obtain ⟨a', cap', e', hcell⟩ := HV.out.low hbl
        simp only [Value.slice.injEq] at e'
        obtain ⟨b, o, lv, ha, hbl2, hlv, q4, q5, q6, q7, q8, q9⟩ := hcell i hlt'
        rw [← e'.1] at ha
        clear hcell e'
        subst ha
        obtain ⟨x, hx⟩ : ∃ x, x = al[i] := ⟨_, rfl⟩
        have hxok : x.ok := act_ok HLT.out (by rw [hx]; exact List.getElem_mem hlt')
        rw [← hx] at hlv q4 q5 q6 q7 q8
        have HOK := hid hxok
        have HLV := hid hlv
        have hlsh : ∃ la ln lc, lv = .slice la ln lc := by
          obtain ⟨la, lc, e, _⟩ := hlv
          exact ⟨_, _, _, e⟩
        obtain ⟨la, ln, lc, rfl⟩ := hlsh
        have hwz := Nat.le_trans hBw hbl.size
        have HPL := fun (u : World) (hbu : Below wr.heap.size wr u) => hid (play_fn (hj.on hbu) (HM.out.lowB hmB (hbl.trans (hbu.mono hwz))) hmB (by omega) x (.slice la ln lc) (HLV.out.low (hbu.mono hwz)) HOK.out)
        obtain ⟨kind, h, nn, s, t, l⟩ := x
        dsimp only at q4 q5 q6 q7 q8
        unfold ActD.cells at HPL
        dsimp only at HPL
        obtain ⟨W, hW⟩ : ∃ W, W = wr.alloc (.cells #[.int .i64 kind, .int .i64 h, .int .i64 nn, .string ⟨s.toArray⟩, .string ⟨t.toArray⟩, .slice la ln lc] 25) := ⟨_, rfl⟩
        have hbW : Below wr.heap.size wr W := by rw [hW]; exact belowA _ _
        have hpl := HPL W hbW
        have HBW := hid (hbl.trans (hbW.mono hwz))
        have HWW := hid hW
        clear HPL hj hlv hxok hbl hx hbW hW HLV HOK
        have hi0 : i = 0 ∨ 0 < i := by omega
        go_wp2_with fail
        rw [← HWW.out]
        (with_reducible refine hpl.out.mono ?_); rintro e w4 ⟨rfl, hq⟩
        obtain ⟨A', hj4, hA4, hb4, hx4⟩ : ∃ A', PlayQ B st st2 [] W A A' w4 := ⟨_, hq⟩
        clear hq
        have HB4 := hid (HBW.out.trans hb4)
        have HJ4 := hid hj4
        have HSA := hid (sameS_fn hj4 (HM.out.lowB hmB HB4.out) hmB (by omega))
        clear hj4 hb4 hx4 q4 q5 q6 q7 q8 q9 hpl
        go_wp2_with fail
        (with_reducible refine HSA.out.mono ?_); rintro e w5 ⟨rfl, hj5, hb5, hx5⟩
        have HB5 := hid (HB4.out.trans hb5)
        have HJ5 := hid hj5
        clear hj5 hb5 hx5
        go_wp2
        go_roundg (n - (i + 1))
        case measure => omega
        case rel => exact ⟨i + 1, A', by go_num, by omega, HJ5.out, HB5.out, by omega, rfl⟩
      · obtain rfl : i = n := by omega
        have haw := AW _ hbl
        have HBB := hid hbl
        have hwz := Nat.le_trans hBw hbl.size
        clear hj hbl
        go_wp2_with fail
        (with_reducible refine haw.out.mono ?_); rintro e w4 ⟨rfl, hb4⟩
        have HB9 := hid (HBB.out.trans (hb4.mono hwz))
        clear hb4
        go_wp2
        go_ret
        exact ⟨rfl, HB9.out⟩
end Go.Proofs.YtabhkoklcjhlpaaGreatDoor.Pz
/-
  What an act does to the texts alone.
-/
namespace Go.Proofs.YtabhkoklcjhlpaaGreatDoor.Pz
open Go.RowKit
def txR (X : ShR) : List Str := X.map (·.1)
def txA (A : ShA) : List Str := A.map (·.1)
theorem txA_AR (A : ShA) : txA A = txR (AR A) := by simp [txA, txR, AR]
theorem txA_len (A : ShA) : (txA A).length = A.length := by simp [txA]
def copyT (T : List Str) (k : Int) : List Str := match pickA T k with
  | none => T
  | some t => T ++ [t]
def appendT (T : List Str) (k : Int) (s : Str) : List Str := match pickA T k with
  | none => T
  | some t => if t.length + s.length ≤ 65536 then T.set k.toNat (t ++ s) else T
def enterT (T : List Str) (k : Int) (l : List Str) : List Str := if enterErr l = 0 then T.set k.toNat (quotedL l) else T
def putT (T : List Str) (k j : Int) (s : Str) : List Str := match pickA T k with
  | none => T
  | some t => if (splitE t).2.2 ≠ 0 then T else if 0 ≤ j ∧ j < ((splitE t).1.length : Int) then enterT T k ((splitE t).1.set j.toNat s) else T
def enterKeyT (T : List Str) (k : Int) (key s : Str) : List Str := match pickA T k with
  | none => T
  | some t => if (pairsE t).2 ≠ 0 then T else enterT T k (dictSet (pairsE t).1 key s)
def elemT (T : List Str) (k j : Int) : Str × Int := match pickA T k with
  | none => ([], 5)
  | some t => if (splitE t).2.2 = 0 then pickS (splitE t).1 j else ([], (splitE t).2.2)
def textT (T : List Str) (k : Int) : Str × Int := match pickA T k with
  | none => ([], 5)
  | some t => (t, 0)
theorem pick_txR (X : ShR) (k : Int) : pickA (txR X) k = (pickA X k).map (·.1) := by
  unfold pickA txR
  split
  · rw [List.getElem?_map]
  · rfl
theorem pick_txA (X : ShA) (k : Int) : pickA (txA X) k = (pickA X k).map (·.1) := by
  unfold pickA txA
  split
  · rw [List.getElem?_map]
  · rfl
theorem txR_set (X : ShR) (i : Nat) (p : Str × Int) : txR (X.set i p) = (txR X).set i p.1 := by simp [txR, List.map_set]
theorem txR_keep {X : ShR} {k : Int} {p : Str × Int} (hp : pickA X k = some p) (m : Int) : txR (X.set k.toNat (p.1, m)) = txR X := by
  obtain ⟨i, rfl, hi⟩ := pickA_some hp
  rw [txR_set, Int.toNat_natCast]
  exact set_self (by simp [txR, hi])
theorem copy_tx (X : ShR) (k : Int) : txR (copyR X k).2 = copyT (txR X) k := by
  unfold copyR copyT
  rw [pick_txR]
  cases pickA X k with
  | none => rfl
  | some p => simp [txR]
theorem ask_tx (X : ShR) (k n : Int) : txR (askR X k n).2 = txR X := by
  unfold askR
  cases hp : pickA X k with
  | none => rfl
  | some p => exact txR_keep hp _
theorem elem_tx (X : ShR) (k n : Int) : txR (elemR X k n).2 = txR X ∧ (elemR X k n).1 = elemT (txR X) k n := by
  unfold elemR elemT
  rw [pick_txR]
  cases hp : pickA X k with
  | none => exact ⟨rfl, rfl⟩
  | some p => exact ⟨txR_keep hp _, rfl⟩
theorem append_tx (X : ShR) (k : Int) (s : Str) : txR (appendR X k s).2 = appendT (txR X) k s := by
  unfold appendR appendT
  rw [pick_txR]
  cases hp : pickA X k with
  | none => rfl
  | some p =>
    dsimp only [Option.map]
    split
    · exact txR_set _ _ _
    · rfl
theorem enter_tx {X : ShR} {k : Int} {p : Str × Int} (hp : pickA X k = some p) (m : Int) (l : List Str) (f : Int) : txR (enterR X k (p.1, m) l f).2 = enterT (txR X) k l := by
  unfold enterR enterT
  split
  · exact txR_set _ _ _
  · exact txR_keep hp _
theorem put_tx (X : ShR) (k j : Int) (s : Str) : txR (putR X k j s).2 = putT (txR X) k j s := by
  unfold putR putT
  rw [pick_txR]
  cases hp : pickA X k with
  | none => rfl
  | some p =>
    dsimp only [Option.map]
    split
    · exact txR_keep hp _
    · split
      · exact enter_tx hp _ _ _
      · exact txR_keep hp _
theorem enterKey_tx (X : ShR) (k : Int) (key s : Str) : txR (enterKeyR X k key s).2 = enterKeyT (txR X) k key s := by
  unfold enterKeyR enterKeyT
  rw [pick_txR]
  cases hp : pickA X k with
  | none => rfl
  | some p =>
    dsimp only [Option.map]
    split
    · exact txR_keep hp _
    · exact enter_tx hp _ _ _
theorem forget_tx (A : ShA) : txA (forgetA A) = txA A := by simp [txA, forgetA]
theorem text_tx (A : ShA) (k : Int) : textA A k = textT (txA A) k := by
  unfold textA textT
  rw [pick_txA]
  cases pickA A k <;> rfl
/-- Element twice: nothing more is changed -/
theorem elem_twice (X : ShR) (k n : Int) : (elemR (elemR X k n).2 k n).2 = (elemR X k n).2 := by
  unfold elemR
  cases hp : pickA X k with
  | none =>
    dsimp only
    rw [hp]
  | some p =>
    obtain ⟨i, rfl, hi⟩ := pickA_some hp
    have hil := (List.getElem?_eq_some_iff.1 hi).1
    dsimp only
    rw [Int.toNat_natCast]
    have h2 : pickA (X.set i (p.1, faceIf (splitE p.1).2.2 1 p.2)) (i : Int) = some (p.1, faceIf (splitE p.1).2.2 1 p.2) := by
      unfold pickA
      rw [if_pos (by omega), Int.toNat_natCast, List.getElem?_set_self hil]
    rw [h2]
    dsimp only
    rw [List.set_set]
    congr 2
    unfold faceIf
    split <;> rfl
end Go.Proofs.YtabhkoklcjhlpaaGreatDoor.Pz
/-
  A second store of the program beside both: held.
-/
namespace Go.Proofs.YtabhkoklcjhlpaaGreatDoor.Pz
open Go.RowKit
section
variable {B st stx sty st2 : Nat} {w w' : World} {v : Value} {S : List SV}
open Classical in
theorem StoreIs.kept (h : StoreIs B st w v S) (hb : Below B w w') (hF : ∀ k ∈ foot st v S, w'.heap[k]? = w.heap[k]?) (hx : KeepX w w') : StoreIs B st w' v S := by
  refine h.other (A := (List.range w.heap.size).filter fun k => decide (w'.heap[k]? ≠ w.heap[k]?)) ⟨hb.os, hb.tape, hb.output, hb.size, fun k hk hn => ?_⟩ (fun k hk hm => ?_) (fun k hk cur hc => ?_)
  · by_cases he : w'.heap[k]? = w.heap[k]?
    · exact he
    · exact absurd (List.mem_filter.2 ⟨List.mem_range.2 hk, by simpa using he⟩) hn
  · have h2 := (List.mem_filter.1 hm).2
    simp only [ne_eq, decide_not, Bool.not_eq_eq_eq_not, Bool.not_true, decide_eq_false_iff_not] at h2
    exact h2 (hF k hk)
  · have h2 := (List.mem_filter.1 hk).2
    simp only [ne_eq, decide_not, Bool.not_eq_eq_eq_not, Bool.not_true, decide_eq_false_iff_not] at h2
    exact h2 (by rw [hc]; exact hx k _ _ _ hc (by decide))
def heldOf (w : World) (F : List Nat) : Held := F.map fun k => (k, w.heap[k]?)
theorem heldOf_mem {w : World} {F : List Nat} {k : Nat} (h : k ∈ F) : (k, w.heap[k]?) ∈ heldOf w F := List.mem_map.2 ⟨k, h, rfl⟩
/-- two stores of the program and one of the reference -/
def J3 (B stx sty st2 : Nat) (w : World) (X A : ShA) (A2 : ShR) : Prop := ∃ vx Sx, StoreIs B stx w vx Sx ∧ shape Sx = X ∧ J2 B sty st2 (heldOf w (foot stx vx Sx)) w A A2
variable {X X' A A' : ShA} {A2 A2' : ShR} {f : FuncId} {args : Array Value} {r : Value}
theorem J3.fitX (h : J3 B stx sty st2 w X A A2) : FitA X := by
  obtain ⟨vx, Sx, h1, rfl, _⟩ := h
  intro p hp
  obtain ⟨x, hx, rfl⟩ := List.mem_map.1 hp
  exact h1.fit x hx
theorem J3.fit (h : J3 B stx sty st2 w X A A2) : FitA A := by
  obtain ⟨vx, Sx, _, _, h3⟩ := h
  exact h3.fit
theorem J3.low (h : J3 B stx sty st2 w X A A2) : B ≤ w.heap.size := by
  obtain ⟨vx, Sx, h1, _⟩ := h
  exact h1.low.2.1
theorem J3.kept (h : J3 B stx sty st2 w X A A2) (hb : Below B w w') (hx : KeepX w w') (hc : ∀ Q, J2 B sty st2 Q w A A2 → J2 B sty st2 Q w' A' A2') : J3 B stx sty st2 w' X A' A2' := by
  obtain ⟨vx, Sx, h1, h2, h3⟩ := h
  have hj := hc _ h3
  have hF : ∀ k ∈ foot stx vx Sx, w'.heap[k]? = w.heap[k]? := fun k hk => by
    obtain ⟨v, S, v2, R, _, _, _, _, g5, _⟩ := hj
    exact (g5 _ (heldOf_mem hk)).2.1
  have he : heldOf w' (foot stx vx Sx) = heldOf w (foot stx vx Sx) := by
    unfold heldOf
    exact List.map_congr_left fun k hk => by rw [hF k hk]
  exact ⟨vx, Sx, h1.kept hb hF hx, h2, by rw [he]; exact hj⟩
theorem J3.on (h : J3 B stx sty st2 w X A A2) (hb : Below w.heap.size w w') : J3 B stx sty st2 w' X A A2 := h.kept (hb.mono h.low) (KeepX.of hb) fun _ hq => hq.on hb
/-- what does to both does to all three -/
theorem J3.both (h : J3 B stx sty st2 w X A A2) (hc : ∀ Q, J2 B sty st2 Q w A A2 → Calls Tryz.prog f args w fun e w' => e = .returned r ∧ J2 B sty st2 Q w' A' A2' ∧ Below B w w' ∧ KeepX w w') :
    Calls Tryz.prog f args w fun e w' => e = .returned r ∧ J3 B stx sty st2 w' X A' A2' ∧ Below B w w' ∧ KeepX w w' := by
  obtain ⟨vx, Sx, h1, h2, h3⟩ := h
  refine (hc _ h3).mono ?_
  rintro e w' ⟨he, hj, hb, hx⟩
  have hF : ∀ k ∈ foot stx vx Sx, w'.heap[k]? = w.heap[k]? := fun k hk => by
    obtain ⟨v, S, v2, R, _, _, _, _, g5, _⟩ := hj
    exact (g5 _ (heldOf_mem hk)).2.1
  have hq : heldOf w' (foot stx vx Sx) = heldOf w (foot stx vx Sx) := by
    unfold heldOf
    exact List.map_congr_left fun k hk => by rw [hF k hk]
  exact ⟨he, ⟨vx, Sx, h1.kept hb hF hx, h2, by rw [hq]; exact hj⟩, hb, hx⟩
/-- an act of the first store -/
theorem J3.progX (h : J3 B stx sty st2 w X A A2) (hc : ∀ v S, StoreIs B stx w v S → shape S = X → Calls Tryz.prog f args w fun e w' => e = .returned r ∧ StepA B stx w v S w' X') :
    Calls Tryz.prog f args w fun e w' => e = .returned r ∧ J3 B stx sty st2 w' X' A A2 ∧ Below B w w' ∧ KeepX w w' := by
  obtain ⟨vx, Sx, h1, h2, v, S, v2, R, g1, g2, g3, g4, g5, g6⟩ := h
  refine (hc vx Sx h1 h2).mono ?_
  rintro e w' ⟨he, S', ⟨v', a1, a2, a3⟩, a4⟩
  have dx : ∀ k ∈ foot stx vx Sx, k ∉ foot sty v S := fun k hk => (g5 _ (heldOf_mem hk)).2.2
  have dr : ∀ k ∈ foot stx vx Sx, k ∉ footR st2 v2 R := fun k hk => (g6 _ (heldOf_mem hk)).2.2
  refine ⟨he, ⟨v', S', a1, a4, v, S, v2, R, g1.other a2 (fun k hk hk2 => dx k hk2 hk) (fun k hk cur => h1.noStr hk cur), g2.other a2 (fun k hk hk2 => dr k hk2 hk), g3, g4, fun q hq => ?_, fun q hq => ?_⟩, a2.low h1.low.2.1 fun k hk => (h1.lt hk).2, a2.keepX fun k hk => ?_⟩
  · obtain ⟨k, hk, rfl⟩ := List.mem_map.1 hq
    exact ⟨(a1.lt hk).1, rfl, fun hm => (a3 k hk).elim (fun h4 => dx k h4 hm) fun h4 => by have := (g1.lt hm).1; omega⟩
  · obtain ⟨k, hk, rfl⟩ := List.mem_map.1 hq
    exact ⟨(a1.lt hk).1, rfl, fun hm => (a3 k hk).elim (fun h4 => dr k h4 hm) fun h4 => by have := (g2.lt hm).1; omega⟩
  · obtain ⟨cs, T, e1, e2⟩ := h1.ty hk
    exact ⟨cs, T, e1, by simp only [List.mem_cons, List.not_mem_nil, or_false] at e2 ⊢; rcases e2 with rfl | rfl | rfl | rfl <;> simp⟩
/-- what an act makes of the texts -/
def stepT (a : ActD) (T : List Str) : List Str :=
  if a.kind = 0 then T ++ [a.s] else if a.kind = 1 then T ++ [quotedL a.l] else if a.kind = 2 then copyT T a.h else if a.kind = 3 then T else if a.kind = 4 then T
  else if a.kind = 5 then appendT T a.h a.s else if a.kind = 6 then putT T a.h a.n a.s else if a.kind = 7 then enterKeyT T a.h a.s a.t else T
theorem step_tx {A : ShA} (h : FitA A) (a : ActD) : txA (stepA a A) = stepT a (txA A) := by
  unfold stepA stepT
  split
  · simp [txA]
  · split
    · simp [txA]
    · split
      · rw [txA_AR, (copy_rel A a.h).2, copy_tx, ← txA_AR]
      · split
        · rw [txA_AR, (ask_rel h a.h a.n).2, ask_tx, ← txA_AR]
        · split
          · rw [txA_AR, (elem_rel h a.h a.n).2, (elem_tx _ _ _).1, ← txA_AR]
          · split
            · rw [txA_AR, (append_rel A a.h a.s).2, append_tx, ← txA_AR]
            · split
              · rw [txA_AR, (put_rel h a.h a.n a.s).2, put_tx, ← txA_AR]
              · split
                · rw [txA_AR, (enterKey_rel h a.h a.s a.t).2, enterKey_tx, ← txA_AR]
                · split
                  · exact forget_tx A
                  · rfl
theorem elem_txA {A : ShA} (h : FitA A) (k n : Int) : (elemA A k n).1 = elemT (txA A) k n := by
  rw [(elem_rel h k n).1, (elem_tx _ _ _).2, ← txA_AR]
theorem elem_again {A : ShA} {k n : Int} (h : FitA A) (h2 : FitA (elemA A k n).2) : AR (elemA (elemA A k n).2 k n).2 = AR (elemA A k n).2 := by
  rw [(elem_rel h2 k n).2, (elem_rel h k n).2, elem_twice]
end
end Go.Proofs.YtabhkoklcjhlpaaGreatDoor.Pz
