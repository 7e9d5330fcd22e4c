/-
  Part KD of the proofs of this seat: contracts of functions and plain facts, merged from 6 texts.
-/
import Derived.Test.YtabhkoklcjhlpaaGreatDoorK0
import Derived.Test.YtabhkoklcjhlpaaGreatDoorK1
import Derived.Test.YtabhkoklcjhlpaaGreatDoorK2
import Derived.Test.YtabhkoklcjhlpaaGreatDoorK3
import Derived.Test.YtabhkoklcjhlpaaGreatDoorK4
import Derived.Test.YtabhkoklcjhlpaaGreatDoorK5
import Derived.Test.YtabhkoklcjhlpaaGreatDoorK6
import Derived.Test.YtabhkoklcjhlpaaGreatDoorK7
import Derived.Test.YtabhkoklcjhlpaaGreatDoorK8
import Derived.Test.YtabhkoklcjhlpaaGreatDoorK9
import Derived.Test.YtabhkoklcjhlpaaGreatDoorKA
import Derived.Test.YtabhkoklcjhlpaaGreatDoorKB
import Derived.Test.YtabhkoklcjhlpaaGreatDoorKC
/-
  Join, whatever its limits, of the program and of the reference.
-/
namespace Go.Proofs.YtabhkoklcjhlpaaGreatDoor.Pz
open Go.RowKit
/-- what Join answers -/
def joinRes (l : List Str) : Str × Int := if l.length ≤ 10000 ∧ (quotedL l).length ≤ 65536 then (quotedL l, 0) else ([], 4)
theorem slash_ge : ∀ (s : Str) (b : Bool), s.length ≤ (slash b s).length
  | [], b => by simp [slash]
  | c :: t, b => by
    have ih := slash_ge t false
    rw [slash]
    split <;> simp <;> omega
theorem quote_ge (s : Str) : s.length ≤ (quote s).length := by
  unfold quote
  split
  · rename_i h
    rw [List.isEmpty_iff.1 h]
    simp
  · split
    · exact Nat.le_refl _
    · split
      · simp; omega
      · exact slash_ge s true
theorem joinRes_yes {l : List Str} (h1 : l.length ≤ 10000) (h2 : (quotedL l).length ≤ 65536) : joinRes l = (quotedL l, 0) := by
  unfold joinRes
  rw [if_pos ⟨h1, h2⟩]
theorem joinRes_no {l : List Str} (h : 10000 < l.length ∨ 65536 < (quotedL l).length) : joinRes l = ([], 4) := by
  unfold joinRes
  rw [if_neg (by omega)]
theorem quotedL_has (l : List Str) (i : Nat) (h : i < l.length) : (quote l[i]).length ≤ (quotedL l).length ∧ (quotedL (l.take (i + 1))).length ≤ (quotedL l).length ∧ l[i].length ≤ (quotedL l).length := by
  have h1 := quotedL_take_le l (l.length - (i + 1)) (i + 1) (by omega)
  have h2 := quotedL_take l i h
  have h3 := quote_ge l[i]
  refine ⟨?_, h1, ?_⟩ <;>
  · rw [h2] at h1
    split at h1
    · omega
    · simp at h1
      omega
theorem joinRes_of_ok {l : List Str} (h : joinOk l) : joinRes l = (quotedL l, 0) := joinRes_yes h.1 h.2.2
theorem joinOk_of {l : List Str} (h : (joinRes l).2 = 0) : joinOk l := by
  unfold joinRes at h
  split at h
  · rename_i hh
    refine ⟨hh.1, fun s hs => ?_, hh.2⟩
    obtain ⟨i, hi, rfl⟩ := List.mem_iff_getElem.1 hs
    have := (quotedL_has l i hi).2.2
    omega
  · cases h
set_option maxRecDepth 100000 in
set_option maxHeartbeats 2000000 in
theorem joinA_fn (l : List Str) (v : Value) (w : World) (hm : ML w) (hv : StrsAt w v l) (hll : l.length ≤ 9223372036854775807) :
    Calls Tryz.prog 48 #[v] w fun e w' => e = .returned (.tuple #[.string ⟨(joinRes l).1.toArray⟩, .int .i64 (joinRes l).2]) ∧ Below w.heap.size w w' := by
  obtain ⟨a, cap, rfl, hcap, hcell⟩ := hv
  obtain ⟨n, hn⟩ : ∃ n, n = l.length := ⟨_, rfl⟩
  have HV := hid hcell
  have HN := hid hn
  by_cases h1 : l.length ≤ 10000
  case neg =>
    have HR := hid (joinRes_no (l := l) (.inl (by omega)))
    have hge : (n : Int) > 10000 := by omega
    rw [← hn] at hcap hll ⊢
    clear hcell h1 hn hm
    go_enter Tryz.func48, Tryz.ntmps48
    go_wp2
    go_ret2
    rw [HR.out]
    exact ⟨rfl, Below.refl _ _⟩
  have hlen : ¬ ((n : Int) > 10000) := by omega
  have HT := hid (quotedL_take l)
  have HAS := hid (quotedL_has l)
  have H1 := hid h1
  have HM := hid hm
  have hB0 := Bld.new w
  have hW0 : Below w.heap.size w (w.alloc (.cells #[.pointer none, .slice none 0 0] 111)) := (Below.refl _ _).alloc (Nat.le_refl _) _
  rw [← hn] at hcap ⊢
  clear hcell hm h1 hn hll
  go_enter Tryz.func48, Tryz.ntmps48
  go_wp2_with fail
  generalize w.alloc (.cells #[.pointer none, .slice none 0 0] 111) = w0 at *
  go_loopg [12] n (fun k iv wr => ∃ (i : Nat), iv = .int .i64 (i : Nat) ∧ i ≤ n ∧ (quotedL (l.take i)).length ≤ 65536 ∧ Bld wr w.heap.size (quotedL (l.take i)) ∧ Below w.heap.size w wr ∧ k = n - i)
  case atStart => exact ⟨0, rfl, Nat.zero_le _, by simp [quotedL], hB0, hW0, by simp⟩
  case round =>
    obtain ⟨i, rfl, hi, hq0, hB, hbl, rfl⟩ := hrel
    clear hB0 hW0 w0
    have hbs := hB.lt
    have hqm : ML wr := HM.out.below hbl
    rcases Nat.lt_or_ge i n with hlt | hge
    · have hlt' : i < l.length := by rw [← HN.out]; exact hlt
      obtain ⟨p, rfl, hbb, hcw⟩ := HV.out i hlt'
      have hcw1 : wr.cell? (p.add i) = some (.string ⟨l[i].toArray⟩) := by rw [hbl.cell (p := p.add i) (by rw [add_block]; exact hbb)]; exact hcw
      have ht := HT.out i hlt'
      have has := HAS.out i hlt'
      generalize l[i] = s at hcw hcw1 ht has
      have hsz : (⟨s.toArray⟩ : ByteArray).size = s.length := Lib.size_mk _
      have hz0 : i = 0 → wr.cell? p = some (.string ⟨s.toArray⟩) := by
        intro h0
        subst h0
        exact hcw1
      obtain ⟨Q, hQ⟩ : ∃ Q, Q = quotedL (l.take (i + 1)) := ⟨_, rfl⟩
      rw [← hQ] at ht has
      have HQ := hid hQ
      have HASS := hid has
      have hqe := quote_len s
      by_cases hbig : s.length ≤ 65536
      case neg =>
        have HR := hid (joinRes_no (l := l) (.inr (by have := HASS.out.2.2; omega)))
        have hs2 : (s.length : Int) > 65536 := by omega
        clear ht has hcw hQ hqe
        by_cases h0 : i = 0
        · subst h0
          replace hcw1 := hz0 rfl
          clear hz0
          go_wp2
          go_ret2
          rw [HR.out]
          exact ⟨rfl, hbl⟩
        · have hi0 : (0 : Int) < (i : Int) := by omega
          have hc1 : Calls Tryz.prog 79 #[.pointer (some ⟨w.heap.size, 0, none⟩), .int .u8 32] wr fun e w' => e = .returned .nilIface ∧ Bld w' w.heap.size (quotedL (l.take i) ++ [32]) ∧ Kept w.heap.size wr w' := wbyte_fn hB 32 (by omega)
          have HC1 := hid hc1
          clear hc1 hz0
          go_wp2_with fail
          (with_reducible refine HC1.out.mono ?_); rintro e wx ⟨rfl, hBx, hkx⟩
          have hblx := hid (hbl.trans hkx.1)
          have hcx : wx.cell? (p.add i) = some (.string ⟨s.toArray⟩) := by rw [hblx.out.cell (p := p.add i) (by rw [add_block]; exact hbb), ← hbl.cell (p := p.add i) (by rw [add_block]; exact hbb)]; exact hcw1
          clear hkx hBx
          go_wp2
          go_ret2
          rw [HR.out]
          exact ⟨rfl, hblx.out⟩
      have hs2 : ¬ ((s.length : Int) > 65536) := by omega
      have hq := fun u hu => quote_fn s (by omega) u hu
      have HC := hid hq
      obtain ⟨Q0, hQ0⟩ : ∃ Q, Q = quotedL (l.take i) := ⟨_, rfl⟩
      rw [← hQ0] at ht hB hq0
      have HQ0 := hid hQ0
      have HT2 := hid ht
      clear hQ hQ0 ht hq hcw has
      have hQb : Q.length ≤ 1000000 := by rw [HT2.out]; split <;> (try simp) <;> omega
      by_cases h0 : i = 0
      · subst h0
        replace hcw1 := hz0 rfl
        clear hz0
        have ht := hid (HT2.out.trans (if_pos rfl))
        have hz : Q0 = [] := HQ0.out
        subst hz
        go_wp2_with fail
        (with_reducible refine (HC.out _ hqm).mono ?_); rintro e w1 ⟨rfl, hb1⟩
        have hB1 := hB.below hb1
        have hbl1 := hbl.trans (hb1.mono (by omega))
        have hc2 := hid (wstr_fn hB1 (quote s) (by simp; omega))
        go_wp2_with fail
        (with_reducible refine hc2.out.mono ?_); rintro e w2 ⟨rfl, hB2, hk2⟩
        rw [show ([] : Str) ++ quote s = Q by rw [ht.out]; simp] at hB2
        have hc3 := hid (len_fn hB2)
        go_wp2_with fail
        (with_reducible refine hc3.out.mono ?_); rintro e w3 ⟨rfl, hw⟩; subst w3
        have HB2 := hid hB2
        have HBL2 := hid (hbl1.trans hk2.1)
        clear hB2 hB1 hbl1 hk2 hb1 hB
        by_cases hQle : Q.length ≤ 65536
        · have hQ65 : ¬ ((Q.length : Int) > 65536) := by omega
          go_wp2
          go_roundg (n - (0 + 1))
          case measure => omega
          case rel => exact ⟨0 + 1, by go_num, by omega, by rw [← HQ.out]; exact hQle, by rw [← HQ.out]; exact HB2.out, HBL2.out, rfl⟩
        · have hQ65 : (Q.length : Int) > 65536 := by omega
          have HR := hid (joinRes_no (l := l) (.inr (by have := HASS.out.2.1; omega)))
          go_wp2
          go_ret2
          rw [HR.out]
          exact ⟨rfl, HBL2.out⟩
      · have ht := hid (HT2.out.trans (if_neg h0))
        have hi0 : (0 : Int) < (i : Int) := by omega
        have hc1 : Calls Tryz.prog 79 #[.pointer (some ⟨w.heap.size, 0, none⟩), .int .u8 32] wr fun e w' => e = .returned .nilIface ∧ Bld w' w.heap.size (Q0 ++ [32]) ∧ Kept w.heap.size wr w' := wbyte_fn hB 32 (by omega)
        have HC1 := hid hc1
        clear hc1 hz0
        go_wp2_with fail
        (with_reducible refine HC1.out.mono ?_); rintro e wx ⟨rfl, hBx, hkx⟩
        have hblx := hbl.trans hkx.1
        replace hqm : ML wx := HM.out.below hblx
        have hcx : wx.cell? (p.add i) = some (.string ⟨s.toArray⟩) := by rw [hblx.cell (p := p.add i) (by rw [add_block]; exact hbb), ← hbl.cell (p := p.add i) (by rw [add_block]; exact hbb)]; exact hcw1
        have hbsx := hBx.lt
        clear hB hbl hbs hkx hcw1
        go_wp2_with fail
        (with_reducible refine (HC.out _ hqm).mono ?_); rintro e w1 ⟨rfl, hb1⟩
        have hB1 := hBx.below hb1
        have hbl1 := hblx.trans (hb1.mono (by omega))
        have hc2 := hid (wstr_fn hB1 (quote s) (by simp; omega))
        go_wp2_with fail
        (with_reducible refine hc2.out.mono ?_); rintro e w2 ⟨rfl, hB2, hk2⟩
        rw [show (Q0 ++ [32]) ++ quote s = Q by rw [ht.out]; simp] at hB2
        have hc3 := hid (len_fn hB2)
        go_wp2_with fail
        (with_reducible refine hc3.out.mono ?_); rintro e w3 ⟨rfl, hw⟩; subst w3
        have HB2 := hid hB2
        have HBL2 := hid (hbl1.trans hk2.1)
        clear hB2 hB1 hbl1 hk2 hb1 hBx hblx hcx
        by_cases hQle : Q.length ≤ 65536
        · have hQ65 : ¬ ((Q.length : Int) > 65536) := by omega
          go_wp2
          go_roundg (n - (i + 1))
          case measure => omega
          case rel => exact ⟨i + 1, by go_num, by omega, by rw [← HQ.out]; exact hQle, by rw [← HQ.out]; exact HB2.out, HBL2.out, rfl⟩
        · have hQ65 : (Q.length : Int) > 65536 := by omega
          have HR := hid (joinRes_no (l := l) (.inr (by have := HASS.out.2.1; omega)))
          go_wp2
          go_ret2
          rw [HR.out]
          exact ⟨rfl, HBL2.out⟩
    · obtain rfl : i = n := by omega
      have hc := hid (str_fn hB)
      have hR : quotedL (l.take i) = quotedL l := by rw [List.take_of_length_le (by rw [← HN.out]; exact Nat.le_refl _)]
      have HR := hid hR
      have HJ := hid (joinRes_yes (l := l) H1.out (by rw [← hR]; exact hq0))
      clear hR
      go_wp2_with fail
      (with_reducible refine hc.out.mono ?_); rintro e w1 ⟨rfl, hB1, hk1⟩
      go_wp2
      go_ret2
      rw [HJ.out, HR.out]
      exact ⟨rfl, hbl.trans hk1.1⟩
set_option maxRecDepth 100000 in
set_option maxHeartbeats 2000000 in
theorem joinRA_fn (l : List Str) (v : Value) (w : World) (hv : StrsAt w v l) (h2 : ∀ s ∈ l, s.length ≤ 1000000) (hll : l.length ≤ 9223372036854775807) :
    Calls Tryz.prog 51 #[v] w fun e w' => e = .returned (.tuple #[.string ⟨(joinRes l).1.toArray⟩, .int .i64 (joinRes l).2]) ∧ Below w.heap.size w w' := by
  obtain ⟨a, cap, rfl, hcap, hcell⟩ := hv
  obtain ⟨n, hn⟩ : ∃ n, n = l.length := ⟨_, rfl⟩
  have HV := hid hcell
  have HN := hid hn
  by_cases h1 : l.length ≤ 10000
  case neg =>
    have HR := hid (joinRes_no (l := l) (.inl (by omega)))
    have hge : (n : Int) > 10000 := by omega
    rw [← hn] at hcap hll ⊢
    clear hcell h1 hn h2
    go_enter Tryz.func51, Tryz.ntmps51
    go_wp2
    go_ret2
    rw [HR.out]
    exact ⟨rfl, Below.refl _ _⟩
  have hlen : ¬ ((n : Int) > 10000) := by omega
  have HT := hid (quotedL_take l)
  have HAS := hid (quotedL_has l)
  have H1 := hid h1
  have H2 := hid h2
  rw [← hn] at hcap ⊢
  clear hcell h2 h1 hn hll
  go_enter Tryz.func51, Tryz.ntmps51
  go_wp2_with fail
  go_loopg [4, 12] n (fun k sv iv wr => ∃ (i : Nat) (Q0 : Str), sv = .string ⟨Q0.toArray⟩ ∧ iv = .int .i64 (i : Nat) ∧ i ≤ n ∧ Q0.length ≤ 65536 ∧ Q0 = quotedL (l.take i) ∧ Below w.heap.size w wr ∧ k = n - i)
  case atStart => exact ⟨0, [], rfl, rfl, Nat.zero_le _, by simp, rfl, Below.refl _ _, by simp⟩
  case round =>
    obtain ⟨i, Q0, rfl, rfl, hi, hq0, hQ0, hbl, rfl⟩ := hrel
    have hsw := hbl.size
    rcases Nat.lt_or_ge i n with hlt | hge
    · have hlt' : i < l.length := by rw [← HN.out]; exact hlt
      obtain ⟨p, rfl, hbb, hcw⟩ := HV.out i hlt'
      have hcw1 : wr.cell? (p.add i) = some (.string ⟨l[i].toArray⟩) := by rw [hbl.cell (p := p.add i) (by rw [add_block]; exact hbb)]; exact hcw
      have ht := HT.out i hlt'
      have has := HAS.out i hlt'
      have h2 := H2.out l[i] (List.getElem_mem hlt')
      generalize l[i] = s at hcw hcw1 ht has h2
      have hsz : (⟨s.toArray⟩ : ByteArray).size = s.length := Lib.size_mk _
      have hz0 : i = 0 → wr.cell? p = some (.string ⟨s.toArray⟩) := by
        intro h0
        subst h0
        exact hcw1
      obtain ⟨Q, hQ⟩ : ∃ Q, Q = quotedL (l.take (i + 1)) := ⟨_, rfl⟩
      rw [← hQ] at ht has
      have HQ := hid hQ
      have HASS := hid has
      have hqe := quote_len s
      have HC := hid (quoteR_fn s (by omega) wr)
      rw [← hQ0] at ht
      have HQ0 := hid hQ0
      have HT2 := hid ht
      clear hQ hQ0 ht hcw has
      have hQb : Q.length ≤ 3000000 := by rw [HT2.out]; split <;> (try simp) <;> omega
      have hqz : (⟨(quote s).toArray⟩ : ByteArray).size = (quote s).length := Lib.size_mk _
      have hzz : (⟨Q0.toArray⟩ : ByteArray).size = Q0.length := Lib.size_mk _
      by_cases h0 : i = 0
      · subst h0
        replace hcw1 := hz0 rfl
        clear hz0
        have hz : Q0 = [] := HQ0.out
        subst hz
        have hqQ : Q = quote s := HT2.out.trans (if_pos rfl)
        rw [← hqQ] at HC hqe hqz
        have HASS2 := hid HASS.out.2.1
        clear hqQ HT2 HASS hsz
        by_cases hQle : Q.length ≤ 65536
        · have hQ65 : ¬ ((Q.length : Int) > 65536) := by omega
          go_wp2_with fail
          (with_reducible refine HC.out.mono ?_); rintro e w1 ⟨rfl, hb1⟩
          have HBL2 := hid (hbl.trans (hb1.mono hsw))
          clear hb1
          go_wp2
          go_roundg (n - (0 + 1))
          case measure => omega
          case rel => exact ⟨0 + 1, Q, by rw [Value.string.injEq, ByteArray.ext_iff]; simp, by go_num, by omega, hQle, HQ.out, HBL2.out, rfl⟩
        · have hQ65 : (Q.length : Int) > 65536 := by omega
          have HR := hid (joinRes_no (l := l) (.inr (by have := HASS2.out; omega)))
          go_wp2_with fail
          (with_reducible refine HC.out.mono ?_); rintro e w1 ⟨rfl, hb1⟩
          have HBL2 := hid (hbl.trans (hb1.mono hsw))
          clear hb1
          go_wp2
          go_ret2
          rw [HR.out]
          exact ⟨rfl, HBL2.out⟩
      · have hi0 : (0 : Int) < (i : Int) := by omega
        have hqQ : Q = Q0 ++ 32 :: quote s := HT2.out.trans (if_neg h0)
        obtain ⟨q, hq⟩ : ∃ q, q = quote s := ⟨_, rfl⟩
        rw [← hq] at hqQ HC hqe hqz
        have hl2 : Q0.length + 1 + q.length = Q.length := by rw [hqQ]; simp; omega
        have HQQ := hid hqQ
        have HASS2 := hid HASS.out.2.1
        clear hqQ HT2 hq HASS hz0 hsz
        by_cases hQle : Q.length ≤ 65536
        · have hQ65 : ¬ (((Q0.length + 1 + q.length : Nat) : Int) > 65536) := by omega
          go_wp2_with fail
          (with_reducible refine HC.out.mono ?_); rintro e w1 ⟨rfl, hb1⟩
          have HBL2 := hid (hbl.trans (hb1.mono hsw))
          clear hb1
          go_wp2
          go_roundg (n - (i + 1))
          case measure => omega
          case rel => exact ⟨i + 1, Q, by rw [HQQ.out, Value.string.injEq, ByteArray.ext_iff]; simp, by go_num, by omega, hQle, HQ.out, HBL2.out, rfl⟩
        · have hQ65 : ((Q0.length + 1 + q.length : Nat) : Int) > 65536 := by omega
          have HR := hid (joinRes_no (l := l) (.inr (by have := HASS2.out; omega)))
          go_wp2_with fail
          (with_reducible refine HC.out.mono ?_); rintro e w1 ⟨rfl, hb1⟩
          have HBL2 := hid (hbl.trans (hb1.mono hsw))
          clear hb1
          go_wp2
          go_ret2
          rw [HR.out]
          exact ⟨rfl, HBL2.out⟩
    · obtain rfl : i = n := by omega
      have hR : Q0 = quotedL l := by rw [hQ0, List.take_of_length_le (by rw [← HN.out]; exact Nat.le_refl _)]
      have HJ := hid (joinRes_yes (l := l) H1.out (by rw [← hR]; exact hq0))
      have HR := hid hR
      clear hR hQ0
      go_wp2
      go_ret2
      rw [HJ.out, HR.out]
      exact ⟨rfl, hbl⟩
end Go.Proofs.YtabhkoklcjhlpaaGreatDoor.Pz
/-
  A store in memory, told by a list of values.
-/
namespace Go.Proofs.YtabhkoklcjhlpaaGreatDoor.Pz
open Go.RowKit
/-- a value of a store: its block, the block of what it shares, its text, its face -/
structure SV where
  vb : Nat
  sb : Nat
  t : Str
  f : Fc
structure StoreIs (B st : Nat) (w : World) (v : Value) (S : List SV) : Prop where
  sta : StAt B st w v (S.map SV.vb)
  nd : (S.map SV.vb).Nodup
  val : ∀ x ∈ S, ∃ fv told, ValAt x.vb x.sb w fv x.t told ((S.map SV.sb).count x.sb) x.f
  fit : ∀ x ∈ S, Fit x.f x.t ∧ x.f.small ∧ x.t.length ≤ 65536
  same : ∀ x ∈ S, ∀ y ∈ S, x.sb = y.sb → x.t = y.t
  low : B ≤ st ∧ B ≤ w.heap.size ∧ ∀ x ∈ S, B ≤ x.vb ∧ B ≤ x.sb
def foot (st : Nat) (v : Value) (S : List SV) : List Nat := st :: (v.ownBlock.toList ++ (S.map SV.vb ++ S.map SV.sb))
theorem foot_mem {st : Nat} {v : Value} {S : List SV} {k : Nat} : k ∈ foot st v S ↔ k = st ∨ v.ownBlock = some k ∨ (∃ x ∈ S, x.vb = k) ∨ ∃ x ∈ S, x.sb = k := by
  unfold foot
  simp only [List.mem_cons, List.mem_append, Option.mem_toList, List.mem_map]
/-- from one store's state to another -/
def Step (B st : Nat) (w : World) (v : Value) (S : List SV) (w' : World) (S' : List SV) : Prop :=
  ∃ v', StoreIs B st w' v' S' ∧ Only (foot st v S) w w' ∧ ∀ k ∈ foot st v' S', k ∈ foot st v S ∨ w.heap.size ≤ k
section
variable {B st : Nat} {w w' : World} {v : Value} {S : List SV}
theorem StoreIs.at (h : StoreIs B st w v S) {x : SV} (hx : x ∈ S) : ∃ fv told, ValAt x.vb x.sb w fv x.t told ((S.map SV.sb).count x.sb) x.f := h.val x hx
theorem StoreIs.lt (h : StoreIs B st w v S) {k : Nat} (hk : k ∈ foot st v S) : k < w.heap.size ∧ B ≤ k := by
  rcases foot_mem.1 hk with rfl | hk | ⟨x, hx, rfl⟩ | ⟨x, hx, rfl⟩
  · exact ⟨(Array.getElem?_eq_some_iff.1 h.sta.blk).1, h.low.1⟩
  · exact ⟨(ownsRow_lt h.sta.row k hk).1, ownsRow_base h.sta.row k hk⟩
  · obtain ⟨fv, told, hv⟩ := h.val x hx
    exact ⟨hv.vlt.1, (h.low.2.2 x hx).1⟩
  · obtain ⟨fv, told, hv⟩ := h.val x hx
    exact ⟨hv.vlt.2, (h.low.2.2 x hx).2⟩
/-- no text lies in a block of the store -/
theorem StoreIs.noStr (h : StoreIs B st w v S) {k : Nat} (hk : k ∈ foot st v S) (cur : Array Value) : w.heap[k]? ≠ some (Obj.cells cur 9 (0, 0)) := by
  intro hc
  rcases foot_mem.1 hk with rfl | hk | ⟨x, hx, rfl⟩ | ⟨x, hx, rfl⟩
  · exact kinds_ne hc h.sta.blk (by decide) rfl
  · obtain ⟨_, cur2, h2⟩ := ownsRow_lt h.sta.row k hk
    exact kinds_ne hc h2 (by decide) rfl
  · obtain ⟨fv, told, hv⟩ := h.val x hx
    exact kinds_ne hc hv.val (by decide) rfl
  · obtain ⟨fv, told, hv⟩ := h.val x hx
    exact kinds_ne hc hv.shr (by decide) rfl
/-- blocks that are not the store's are written -/
theorem StoreIs.other {A : List Nat} (h : StoreIs B st w v S) (ho : Only A w w') (hA : ∀ k ∈ foot st v S, k ∉ A) (hs : ∀ k ∈ A, ∀ cur : Array Value, w.heap[k]? ≠ some (Obj.cells cur 9 (0, 0))) : StoreIs B st w' v S := by
  refine ⟨h.sta.other ho fun k hk => ⟨fun e => hA k (foot_mem.2 (.inl e)) hk, fun e => hA k (foot_mem.2 (.inr (.inl e))) hk⟩, h.nd, fun x hx => ?_, h.fit, h.same, ⟨h.low.1, Nat.le_trans h.low.2.1 ho.size, h.low.2.2⟩⟩
  obtain ⟨fv, told, hv⟩ := h.val x hx
  exact ⟨fv, told, hv.other ho (hA _ (foot_mem.2 (.inr (.inr (.inl ⟨x, hx, rfl⟩))))) (hA _ (foot_mem.2 (.inr (.inr (.inr ⟨x, hx, rfl⟩))))) hs⟩
theorem StoreIs.on (h : StoreIs B st w v S) (hb : Below w.heap.size w w') : StoreIs B st w' v S := h.other (A := []) (Only.of hb []) (by simp) (by simp)
/-- a value was asked: its own two blocks alone are written -/
theorem StoreIs.asked (h : StoreIs B st w v S) {i : Nat} {x : SV} (hi : S[i]? = some x) {fv fv' : Value} {told told' : Bool} {f' : Fc} (hv : ValAt x.vb x.sb w fv x.t told ((S.map SV.sb).count x.sb) x.f)
    (ho : Only [x.vb, x.sb] w w') (hv' : ValAt x.vb x.sb w' fv' x.t told' ((S.map SV.sb).count x.sb) f') (ht : told = true → told' = true) (hf : Fit f' x.t) (hs : f'.small) :
    StoreIs B st w' v (S.set i { x with f := f' }) := by
  have hil := (List.getElem?_eq_some_iff.1 hi).1
  have hxe := (List.getElem?_eq_some_iff.1 hi).2
  have hxm : x ∈ S := by rw [← hxe]; exact List.getElem_mem hil
  have mv : (S.set i { x with f := f' }).map SV.vb = S.map SV.vb := by
    rw [List.map_set]
    apply List.ext_getElem? 
    intro j
    by_cases hj : i = j
    · subst hj
      rw [List.getElem?_set_self (by simpa using hil), List.getElem?_map, hi]
      rfl
    · rw [List.getElem?_set_ne hj]
  have ms : (S.set i { x with f := f' }).map SV.sb = S.map SV.sb := by
    rw [List.map_set]
    apply List.ext_getElem? 
    intro j
    by_cases hj : i = j
    · subst hj
      rw [List.getElem?_set_self (by simpa using hil), List.getElem?_map, hi]
      rfl
    · rw [List.getElem?_set_ne hj]
  have mem : ∀ y ∈ S.set i { x with f := f' }, y = { x with f := f' } ∨ (y ∈ S ∧ y.vb ≠ x.vb) := by
    intro y hy
    obtain ⟨j, hj, rfl⟩ := List.mem_iff_getElem.1 hy
    by_cases hji : i = j
    · subst hji
      left
      simp
    · right
      have hj' : j < S.length := by simpa using hj
      rw [List.getElem_set_ne hji]
      refine ⟨List.getElem_mem hj', fun e => hji ?_⟩
      have h1 : (S.map SV.vb)[j]'(by simpa using hj') = (S.map SV.vb)[i]'(by simpa using hil) := by
        rw [List.getElem_map, List.getElem_map, e, hxe]
      exact ((List.getElem_inj h.nd).1 h1).symm
  have mem2 : ∀ y ∈ S.set i { x with f := f' }, ∃ y0 ∈ S, y0.t = y.t ∧ y0.sb = y.sb ∧ y0.vb = y.vb := by
    intro y hy
    rcases mem y hy with rfl | ⟨hy, _⟩
    · exact ⟨x, hxm, rfl, rfl, rfl⟩
    · exact ⟨y, hy, rfl, rfl, rfl⟩
  refine ⟨?_, by rw [mv]; exact h.nd, fun y hy => ?_, fun y hy => ?_, fun y hy z hz e => ?_, ⟨h.low.1, Nat.le_trans h.low.2.1 ho.size, fun y hy => ?_⟩⟩
  · rw [mv]
    exact h.sta.value hv ho
  · rw [ms]
    rcases mem y hy with rfl | ⟨hy, hne⟩
    · exact ⟨fv', told', hv'⟩
    · obtain ⟨fy, ty, hvy⟩ := h.val y hy
      have hstr : ∀ k ∈ [x.vb, x.sb], ∀ cur : Array Value, w.heap[k]? ≠ some (Obj.cells cur 9 (0, 0)) := by
        intro k hk cur hc
        simp only [List.mem_cons, List.not_mem_nil, or_false] at hk
        rcases hk with rfl | rfl
        · exact kinds_ne hc hv.val (by decide) rfl
        · exact kinds_ne hc hv.shr (by decide) rfl
      have n1 : y.vb ≠ x.sb := kinds_ne hvy.val hv.shr (by decide)
      by_cases hsb : y.sb = x.sb
      · have htt := h.same y hy x hxm hsb
        have hsy := hvy.shr
        rw [hsb, hv.shr] at hsy
        have htold : told = ty := by
          simp only [Option.some.injEq, Obj.cells.injEq, Array.mk.injEq, List.cons.injEq, Value.bool.injEq, and_true] at hsy
          exact hsy.2
        refine ⟨fy, told', ⟨?_, ho.cells hvy.val (by simp [hne, n1]), FaceIs.keep hvy.face fun k cur hc => ho.cells hc fun e => hstr k e cur hc, fun hf => ?_⟩⟩
        · rw [hsb, htt]
          exact hv'.shr
        · refine hvy.un ?_
          rw [← htold]
          cases ht0 : told with
          | false => rfl
          | true => rw [ht ht0] at hf; cases hf
      · have n2 : y.sb ≠ x.vb := fun e => kinds_ne hvy.shr (by rw [e]; exact hv.val) (by decide) rfl
        exact ⟨fy, ty, hvy.other ho (by simp [hne, n1]) (by simp [hsb, n2]) hstr⟩
  · rcases mem y hy with rfl | ⟨hy, _⟩
    · exact ⟨hf, hs, (h.fit x hxm).2.2⟩
    · exact h.fit y hy
  · obtain ⟨y0, hy0, a1, a2, _⟩ := mem2 y hy
    obtain ⟨z0, hz0, b1, b2, _⟩ := mem2 z hz
    rw [← a1, ← b1]
    exact h.same y0 hy0 z0 hz0 (by rw [a2, b2, e])
  · obtain ⟨y0, hy0, _, a2, a3⟩ := mem2 y hy
    rw [← a2, ← a3]
    exact h.low.2.2 y0 hy0
theorem foot_set {i : Nat} {x : SV} (hi : S[i]? = some x) (f' : Fc) : foot st v (S.set i { x with f := f' }) = foot st v S := by
  have hil := (List.getElem?_eq_some_iff.1 hi).1
  have m (g : SV → Nat) (hg : g { x with f := f' } = g x) : (S.set i { x with f := f' }).map g = S.map g := by
    rw [List.map_set]
    apply List.ext_getElem? 
    intro j
    by_cases hj : i = j
    · subst hj
      rw [List.getElem?_set_self (by simpa using hil), List.getElem?_map, hi, hg]
      rfl
    · rw [List.getElem?_set_ne hj]
  unfold foot
  rw [m SV.vb rfl, m SV.sb rfl]
theorem foot_val {x : SV} (hx : x ∈ S) : ∀ k ∈ [x.vb, x.sb], k ∈ foot st v S := by
  intro k hk
  simp only [List.mem_cons, List.not_mem_nil, or_false] at hk
  rcases hk with rfl | rfl
  · exact foot_mem.2 (.inr (.inr (.inl ⟨x, hx, rfl⟩)))
  · exact foot_mem.2 (.inr (.inr (.inr ⟨x, hx, rfl⟩)))
theorem StoreIs.askedStep (h : StoreIs B st w v S) {i : Nat} {x : SV} (hi : S[i]? = some x) {fv fv' : Value} {told told' : Bool} {f' : Fc} (hv : ValAt x.vb x.sb w fv x.t told ((S.map SV.sb).count x.sb) x.f)
    (ho : Only [x.vb, x.sb] w w') (hv' : ValAt x.vb x.sb w' fv' x.t told' ((S.map SV.sb).count x.sb) f') (ht : told = true → told' = true) (hf : Fit f' x.t) (hs : f'.small) :
    Step B st w v S w' (S.set i { x with f := f' }) := by
  have hxm : x ∈ S := List.mem_of_getElem? hi
  exact ⟨v, h.asked hi hv ho hv' ht hf hs, ho.more (foot_val hxm), fun k hk => .inl (by rwa [foot_set hi] at hk)⟩
theorem Step.refl (h : StoreIs B st w v S) : Step B st w v S w S := ⟨v, h, Only.refl _ _, fun _ hk => .inl hk⟩
theorem Step.same (h : StoreIs B st w v S) (hb : Below w.heap.size w w') : Step B st w v S w' S := ⟨v, h.on hb, Only.of hb _, fun _ hk => .inl hk⟩
end
end Go.Proofs.YtabhkoklcjhlpaaGreatDoor.Pz
/-
  A store: values are added (Add, Make), asked (Ask, Element, Text, Face).
-/
namespace Go.Proofs.YtabhkoklcjhlpaaGreatDoor.Pz
open Go.RowKit
set_option maxRecDepth 100000 in
theorem addG_fn {B st : Nat} {w : World} {v : Value} {ps : List Nat} (h : StAt B st w v ps) (p : Nat) (hB : B ≤ w.heap.size) (hn : ps.length ≤ 1000000) :
    Calls Tryz.prog 42 #[.pointer (some ⟨st, 0, none⟩), .pointer (some ⟨p, 0, none⟩)] w fun e w' => e = .returned (.int .i64 (ps.length : Nat)) ∧ ∃ v', StAt B st w' v' (ps ++ [p]) ∧ Only (st :: v.ownBlock.toList) w w' ∧ (∀ g, v'.ownBlock = some g → v.ownBlock = some g ∨ w.heap.size ≤ g) := by
  obtain ⟨i0, hi, hz0, hz1, hz2⟩ := info_parts Tryz.infoV
  obtain ⟨a, c, rfl⟩ := h.shape
  obtain ⟨n, hn0⟩ : ∃ n, n = ps.length := ⟨_, rfl⟩
  have c0 : w.cell? ⟨st, 0, none⟩ = some (.slice a n c) := by rw [Lib.cell_of_heap h.blk, hn0]; rfl
  have hown : (w.alloc (.cells #[.pointer (some ⟨p, 0, none⟩)] 40)).ownsRow B 40 1 (.slice a n c) n (ptrs ps) := by
    have := h.row
    rw [← hn0] at this
    exact World.ownsRow.alloc this _
  have hst := (Array.getElem?_eq_some_iff.1 h.blk).1
  have hnst : ∀ (X : World) (v' : Value) (m : Nat) (xs : List Value), X.ownsRow B 40 1 v' m xs → ∀ (cs : Array Value) (fz : Nat × Nat), X.heap[st]? = some (.cells cs 69 fz) → v'.ownBlock ≠ some st := fun X v' m xs hr cs fz hs e => by
    obtain ⟨_, cur, hc⟩ := ownsRow_lt hr st e
    exact kinds_ne hs hc (by decide) rfl
  have hlen : (ptrs ps ++ [.pointer (some ⟨p, 0, none⟩)]) = ptrs (ps ++ [p]) := by simp [ptrs]
  have HL := hid hlen
  have HNS := hid hnst
  have H := hid h
  have HN := hid hn0
  have HO := hid hown
  have hB1 : B ≤ (w.alloc (.cells #[.pointer (some ⟨p, 0, none⟩)] 40)).heap.size := by simp; omega
  have hmx : n + 1 ≤ maxLen := by unfold maxLen; omega
  have hby : (n + 1) * 8 ≤ 140737488355328 := by omega
  rw [← hn0] at hn ⊢
  clear hown h hn0 hnst hlen
  go_enter Tryz.func42, Tryz.ntmps42
  go_wp2_with (at_builtin; refine wpList_append_own_at _ rfl (.tmp 9) (.tmp 11) 67 rfl B 40 i0 (.pointer none) 1 8 Tryz.underlying67 hi hz0 hz1 hz2 rfl (by decide) _ n (ptrs ps) rfl HO.out ⟨w.heap.size, 0, none⟩ 1 1 [.pointer (some ⟨p, 0, none⟩)] rfl rfl (cell_one_new _ _ _) (by simp [Value.oneCell']) hmx hby hB1 ?_)
  intro v2 w2 hr2 hg2 _ hat
  have hsz2 := hg2.size
  have hb2 : w2.heap[st]? = some (.cells #[.slice a n c] 69 (0, 0)) := (hg2.block st (by simp; omega) fun e => HNS.out _ _ _ _ HO.out _ _ (((Below.heap_alloc _ _ _ (by omega)).trans H.out.blk)) e.symm).trans ((Below.heap_alloc _ _ _ (by omega)).trans (by rw [HN.out]; exact H.out.blk))
  have d0 : w2.cell? ⟨st, 0, none⟩ = some (.slice a n c) := by rw [Lib.cell_of_heap hb2]; rfl
  have d1 : w2.frozen? ⟨st, 0, none⟩ = false := Lib.frozen_of_heap hb2 0
  obtain ⟨a2, c2, e2⟩ : ∃ a2 c2, v2 = .slice a2 (n + 1) c2 := by
    rcases hr2.2 with ⟨_, h0⟩ | ⟨g, cap, cur, e, _⟩
    · omega
    · exact ⟨_, _, e⟩
  subst e2
  have hat2 : ∀ g, (Value.slice a2 (n + 1) c2).ownBlock = some g → (Value.slice a n c).ownBlock = some g ∨ w.heap.size ≤ g := by
    intro g hgv
    rcases hat with h2 | h2
    · exact .inl (by rw [← h2]; exact hgv)
    · rw [h2] at hgv
      have := Option.some.inj hgv
      (try simp at this)
      exact .inr (by omega)
  have HAT := hid hat2
  have hvst : (Value.slice a2 (n + 1) c2).ownBlock ≠ some st := HNS.out _ _ _ _ hr2 _ _ hb2
  obtain ⟨w3, hw3⟩ : ∃ w3, w3 = w2.setCell ⟨st, 0, none⟩ (.slice a2 (n + 1) c2) := ⟨_, rfl⟩
  have hset : ∀ k, k ≠ st → w3.heap[k]? = w2.heap[k]? := fun k hk => by rw [hw3]; exact Below.heap_setCell _ _ _ _ fun e => hk e
  have hb3 : w3.heap[st]? = some (.cells #[.slice a2 (n + 1) c2] 69 (0, 0)) := by rw [hw3]; simp [World.setCell, Array.getElem?_modify, hb2]
  have hst3 : StAt B st w3 (.slice a2 (n + 1) c2) (ps ++ [p]) := by
    refine ⟨hb3, ?_⟩
    rw [← HL.out, List.length_append, ← HN.out]
    exact ownsRow_heap hr2 fun g hg => hset g fun e => hvst (by rw [hg, e])
  have ho3 : Only (st :: (Value.slice a n c).ownBlock.toList) w w3 := by
    refine ⟨by rw [hw3]; exact hg2.os, by rw [hw3]; exact hg2.tape, by rw [hw3]; exact hg2.output, by rw [hw3]; simp [World.setCell]; simp at hsz2; omega, fun k hk hA => ?_⟩
    simp only [List.mem_cons, not_or, Option.mem_toList] at hA
    rw [hset k hA.1, hg2.block k (by simp; omega) (fun e => hA.2 e.symm)]
    exact Below.heap_alloc _ _ _ (by omega)
  have e0 : (w2.setCell ⟨st, 0, none⟩ (.slice a2 (n + 1) c2)).cell? ⟨st, 0, none⟩ = some (.slice a2 (n + 1) c2) := by rw [← hw3, Lib.cell_of_heap hb3]; rfl
  have HS3 := hid hst3
  have HO3 := hid ho3
  have HW3 := hid hw3
  clear hr2 hg2 hat hat2 hb2 hw3 hset hb3 hst3 ho3
  go_wp2
  go_ret
  rw [← HW3.out]
  exact ⟨by simp, _, HS3.out, HO3.out, HAT.out⟩
theorem quoted_fit {l : List Str} (h : joinOk l) : Fit (.list l) (quotedL l) := splitE_quoted l h.1
section
variable {B st : Nat} {w w' : World} {v : Value} {S : List SV}
/-- a value of new blocks is put behind the others -/
theorem StoreIs.added (h : StoreIs B st w v S) {w2 : World} {v2 : Value} {x : SV} {fv : Value} {told : Bool} (hst : StAt B st w2 v2 ((S.map SV.vb) ++ [x.vb])) (ho : Only (st :: v.ownBlock.toList) w w2) (hat : ∀ g, v2.ownBlock = some g → v.ownBlock = some g ∨ w.heap.size ≤ g)
    (hx : ValAt x.vb x.sb w2 fv x.t told 1 x.f) (h1 : w.heap.size ≤ x.vb) (h2 : w.heap.size ≤ x.sb) (hf : Fit x.f x.t) (hs : x.f.small) (hl : x.t.length ≤ 65536) : Step B st w v S w2 (S ++ [x]) := by
  have hlow := h.low.2.1
  have ne : ∀ y ∈ S, y.vb ≠ x.vb ∧ y.sb ≠ x.sb := fun y hy => by
    obtain ⟨_, _, hv⟩ := h.val y hy
    have := hv.vlt
    omega
  have cnt : ∀ k, (((S ++ [x]).map SV.sb).count k) = (S.map SV.sb).count k + if x.sb = k then 1 else 0 := by
    intro k
    rw [List.map_append, List.count_append]
    simp [List.count_singleton]
  refine ⟨v2, ⟨by rw [List.map_append]; exact hst, ?_, fun y hy => ?_, fun y hy => ?_, fun y hy z hz e => ?_, ⟨h.low.1, Nat.le_trans hlow ho.size, fun y hy => ?_⟩⟩, ho.more ?_, fun k hk => ?_⟩
  · rw [List.map_append, List.nodup_append]
    refine ⟨h.nd, by simp, fun a ha b hb => ?_⟩
    obtain ⟨y, hy, rfl⟩ := List.mem_map.1 ha
    simp only [List.map_cons, List.map_nil, List.mem_singleton] at hb
    subst hb
    exact (ne y hy).1
  · rw [cnt]
    rcases List.mem_append.1 hy with hy | hy
    · obtain ⟨fy, ty, hv⟩ := h.val y hy
      rw [if_neg (Ne.symm (ne y hy).2)]
      refine ⟨fy, ty, hv.other ho ?_ ?_ ?_⟩
      · have := h.sta.ne hv.val (by decide) (by decide)
        simp only [List.mem_cons, Option.mem_toList, not_or]
        exact this
      · have := h.sta.ne hv.shr (by decide) (by decide)
        simp only [List.mem_cons, Option.mem_toList, not_or]
        exact this
      · intro k hk cur hc
        have := h.sta.ne hc (by decide) (by decide)
        simp only [List.mem_cons, Option.mem_toList] at hk
        rcases hk with rfl | hk
        · exact this.1 rfl
        · exact this.2 hk
    · simp only [List.mem_singleton] at hy
      subst hy
      have h0 : (S.map SV.sb).count y.sb = 0 := by
        rw [List.count_eq_zero]
        intro hm
        obtain ⟨z, hz, e⟩ := List.mem_map.1 hm
        exact (ne z hz).2 e
      rw [if_pos rfl, h0]
      exact ⟨fv, told, hx⟩
  · rcases List.mem_append.1 hy with hy | hy
    · exact h.fit y hy
    · simp only [List.mem_singleton] at hy
      subst hy
      exact ⟨hf, hs, hl⟩
  · rcases List.mem_append.1 hy with hy1 | hy1 <;> rcases List.mem_append.1 hz with hz1 | hz1
    · exact h.same y hy1 z hz1 e
    · rw [List.mem_singleton.1 hz1] at e ⊢
      exact absurd e (ne y hy1).2
    · rw [List.mem_singleton.1 hy1] at e ⊢
      exact absurd e.symm (ne z hz1).2
    · rw [List.mem_singleton.1 hy1, List.mem_singleton.1 hz1]
  · rcases List.mem_append.1 hy with hy | hy
    · exact h.low.2.2 y hy
    · simp only [List.mem_singleton] at hy
      subst hy
      omega
  · intro k hk
    simp only [List.mem_cons, Option.mem_toList] at hk
    rcases hk with rfl | hk
    · exact foot_mem.2 (.inl rfl)
    · exact foot_mem.2 (.inr (.inl hk))
  · rcases foot_mem.1 hk with rfl | hk | ⟨y, hy, rfl⟩ | ⟨y, hy, rfl⟩
    · exact .inl (foot_mem.2 (.inl rfl))
    · rcases hat k hk with h3 | h3
      · exact .inl (foot_mem.2 (.inr (.inl h3)))
      · exact .inr h3
    · rcases List.mem_append.1 hy with hy | hy
      · exact .inl (foot_mem.2 (.inr (.inr (.inl ⟨y, hy, rfl⟩))))
      · simp only [List.mem_singleton] at hy
        subst hy
        exact .inr h1
    · rcases List.mem_append.1 hy with hy | hy
      · exact .inl (foot_mem.2 (.inr (.inr (.inr ⟨y, hy, rfl⟩))))
      · simp only [List.mem_singleton] at hy
        subst hy
        exact .inr h2
theorem Step.after {S1 : List SV} {w1 : World} (_ : StoreIs B st w v S) (hb : Below w.heap.size w w1) (h2 : Step B st w1 v S w' S1) : Step B st w v S w' S1 := by
  obtain ⟨v', a, b, c⟩ := h2
  exact ⟨v', a, (Only.of hb _).trans b, fun k hk => (c k hk).imp id fun e => Nat.le_trans hb.size e⟩
end
set_option maxRecDepth 100000 in
theorem addS_fn {B st : Nat} {w : World} {v : Value} {S : List SV} (h : StoreIs B st w v S) (t : Str) (ht : t.length ≤ 65536) (hn : S.length ≤ 100000) :
    Calls Tryz.prog 11 #[.pointer (some ⟨st, 0, none⟩), .string ⟨t.toArray⟩] w fun e w' => e = .returned (.int .i64 (S.length : Nat)) ∧ ∃ vb sb, Step B st w v S w' (S ++ [⟨vb, sb, t, .text⟩]) := by
  have HN := hid (new_fn t w)
  have H := hid h
  have hlen : (S.map SV.vb).length = S.length := by simp
  clear h
  go_enter Tryz.func11, Tryz.ntmps11
  go_wp2_with fail
  (with_reducible refine HN.out.mono ?_); rintro e w1 ⟨vb, sb, rfl, h1, h2, hv, hb⟩
  have hs := hb.size
  have H1 := hid (H.out.on hb)
  have HA := hid (addG_fn H1.out.sta vb H1.out.low.2.1 (by omega))
  rw [hlen] at HA
  have HV := hid hv
  have HB := hid hb
  clear hv hb hlen
  go_wp2_with fail
  (with_reducible refine HA.out.mono ?_); rintro e w2 ⟨rfl, v', hst, ho, hat⟩
  have hv2 : ValAt vb sb w2 .nilIface t true 1 .text := HV.out.other ho (by
      have := H1.out.sta.ne HV.out.val (by decide) (by decide)
      simp only [List.mem_cons, Option.mem_toList, not_or]
      exact this) (by
      have := H1.out.sta.ne HV.out.shr (by decide) (by decide)
      simp only [List.mem_cons, Option.mem_toList, not_or]
      exact this) (by
      intro k hk cur hc
      have := H1.out.sta.ne hc (by decide) (by decide)
      simp only [List.mem_cons, Option.mem_toList] at hk
      rcases hk with rfl | hk
      · exact this.1 rfl
      · exact this.2 hk)
  have HR := hid (H.out.added (x := ⟨vb, sb, t, .text⟩) (w2 := w2) hst ((Only.of HB.out _).trans ho) (fun g hg => (hat g hg).imp id fun e => Nat.le_trans hs e) hv2 h1 h2 trivial trivial ht)
  clear hst ho hat hv2
  go_wp2
  go_ret
  exact ⟨rfl, vb, sb, HR.out⟩
set_option maxRecDepth 100000 in
theorem makeS_fn {B st : Nat} {w : World} {v lv : Value} {S : List SV} {l : List Str} (h : StoreIs B st w v S) (hv : StrsAt w lv l) (hml : ML w) (hok : joinOk l) (hn : S.length ≤ 100000) :
    Calls Tryz.prog 15 #[.pointer (some ⟨st, 0, none⟩), lv] w fun e w' => e = .returned (.tuple #[.int .i64 (S.length : Nat), .int .i64 0]) ∧ ∃ vb sb, Step B st w v S w' (S ++ [⟨vb, sb, quotedL l, .list l⟩]) := by
  have HN := hid (ofList_fn hv hml hok)
  have HF := hid (And.intro (quoted_fit hok) hok)
  have H := hid h
  have hlen : (S.map SV.vb).length = S.length := by simp
  obtain ⟨a, c, rfl, _⟩ := hv
  obtain ⟨n, hn0⟩ : ∃ n, n = l.length := ⟨_, rfl⟩
  rw [← hn0] at HN ⊢
  obtain ⟨Q, hQ⟩ : ∃ Q, Q = quotedL l := ⟨_, rfl⟩
  rw [← hQ] at HN HF ⊢
  have hq : Q.length ≤ 65536 := by rw [hQ]; exact hok.2.2
  have HQ := hid hq
  clear h hml hn0 hok hQ hq
  go_enter Tryz.func15, Tryz.ntmps15
  go_wp2_with fail
  (with_reducible refine HN.out.mono ?_); rintro e w1 ⟨vb, sb, fv, rfl, h1, h2, hv, hb⟩
  have hs := hb.size
  have H1 := hid (H.out.on hb)
  have HA := hid (addG_fn H1.out.sta vb H1.out.low.2.1 (by omega))
  rw [hlen] at HA
  have HV := hid hv
  have HB := hid hb
  clear hv hb hlen
  go_wp2_with fail
  (with_reducible refine HA.out.mono ?_); rintro e w2 ⟨rfl, v', hst, ho, hat⟩
  have hv2 : ValAt vb sb w2 fv Q false 1 (.list l) := HV.out.other ho (by
      have := H1.out.sta.ne HV.out.val (by decide) (by decide)
      simp only [List.mem_cons, Option.mem_toList, not_or]
      exact this) (by
      have := H1.out.sta.ne HV.out.shr (by decide) (by decide)
      simp only [List.mem_cons, Option.mem_toList, not_or]
      exact this) (by
      intro k hk cur hc
      have := H1.out.sta.ne hc (by decide) (by decide)
      simp only [List.mem_cons, Option.mem_toList] at hk
      rcases hk with rfl | hk
      · exact this.1 rfl
      · exact this.2 hk)
  have HR := hid (H.out.added (x := ⟨vb, sb, Q, .list l⟩) (w2 := w2) hst ((Only.of HB.out _).trans ho) (fun g hg => (hat g hg).imp id fun e => Nat.le_trans hs e) hv2 h1 h2 HF.out.1 (by have := HF.out.2.1; show l.length ≤ 1000000; omega) HQ.out)
  clear hst ho hat hv2
  go_wp2
  go_ret2
  exact ⟨rfl, vb, sb, HR.out⟩
/-- which value has the handle -/
def pickV (S : List SV) (h : Int) : Option SV := if 0 ≤ h then S[h.toNat]? else none
theorem gotAns_map (S : List SV) (h : Int) : gotAns (S.map SV.vb) h = (pickV S h).map SV.vb := by
  unfold gotAns pickV
  split
  · rw [List.getElem?_map]
  · rfl
theorem pickV_some {S : List SV} {h : Int} {x : SV} (hp : pickV S h = some x) : ∃ i : Nat, h = i ∧ S[i]? = some x := by
  unfold pickV at hp
  split at hp
  · exact ⟨h.toNat, by omega, hp⟩
  · cases hp
end Go.Proofs.YtabhkoklcjhlpaaGreatDoor.Pz
/-
  A store's methods by what its values are (texts and faces): Add, Make, Ask, Element, Text, Face.
-/
namespace Go.Proofs.YtabhkoklcjhlpaaGreatDoor.Pz
open Go.RowKit
/-- texts and faces -/
abbrev ShA := List (Str × Fc)
def shape (S : List SV) : ShA := S.map fun x => (x.t, x.f)
theorem shape_len (S : List SV) : (shape S).length = S.length := by simp [shape]
theorem shape_set (S : List SV) (i : Nat) (y : SV) : shape (S.set i y) = (shape S).set i (y.t, y.f) := by simp [shape, List.map_set]
theorem shape_app (S : List SV) (y : SV) : shape (S ++ [y]) = shape S ++ [(y.t, y.f)] := by simp [shape]
def pickA {α : Type} (A : List α) (h : Int) : Option α := if 0 ≤ h then A[h.toNat]? else none
theorem pickA_shape (S : List SV) (h : Int) : pickA (shape S) h = (pickV S h).map fun x => (x.t, x.f) := by
  unfold pickA pickV shape
  split
  · rw [List.getElem?_map]
  · rfl
theorem set_self {α : Type} {l : List α} {i : Nat} {x : α} (h : l[i]? = some x) : l.set i x = l := by
  apply List.ext_getElem?
  intro j
  by_cases hj : i = j
  · subst hj
    rw [List.getElem?_set_self (List.getElem?_eq_some_iff.1 h).1, h]
  · rw [List.getElem?_set_ne hj]
/-- from one state of a store to one of a shape -/
def StepA (B st : Nat) (w : World) (v : Value) (S : List SV) (w' : World) (A : ShA) : Prop := ∃ S', Step B st w v S w' S' ∧ shape S' = A
def askA (A : ShA) (k n : Int) : Int × ShA := match pickA A k with
  | none => (5, A)
  | some p => ((askAll n p.2 p.1).1, A.set k.toNat (p.1, (askAll n p.2 p.1).2))
def elemA (A : ShA) (k i : Int) : (Str × Int) × ShA := match pickA A k with
  | none => (([], 5), A)
  | some p => (elemAns p.2 p.1 i, A.set k.toNat (p.1, (listAns p.2 p.1).2.2))
def textA (A : ShA) (k : Int) : Str × Int := match pickA A k with
  | none => ([], 5)
  | some p => (p.1, 0)
def faceA (A : ShA) (k : Int) : Int × Int := match pickA A k with
  | none => (0, 5)
  | some p => (p.2.n, 0)
def askRef (n : Int) (t : Str) (m : Int) : Int × Int :=
  if n = 0 then (0, 0) else if n = 1 then ((splitE t).2.2, faceIf (splitE t).2.2 1 m) else if n = 2 then ((canRes t).2, faceIf (canRes t).2 2 m) else if n = 3 then ((pairsE t).2, faceIf (pairsE t).2 3 m) else (7, m)
theorem askAll_fit {f : Fc} {t : Str} (hf : Fit f t) (hs : f.small) (ht : t.length ≤ 100000) (n : Int) : (askAll n f t).1 = (askRef n t f.n).1 ∧ (askAll n f t).2.n = (askRef n t f.n).2 ∧ Fit (askAll n f t).2 t ∧ (askAll n f t).2.small := by
  unfold askAll askRef
  split
  · exact ⟨rfl, rfl, trivial, trivial⟩
  · split
    · obtain ⟨_, h2, h3, h4, h5⟩ := listAns_fit hf hs ht
      exact ⟨h2, h3, h4, h5⟩
    · split
      · obtain ⟨_, h2, h3, h4, h5⟩ := numAns_fit hf hs
        exact ⟨h2, h3, h4, h5⟩
      · split
        · obtain ⟨_, h2, h3, h4, h5⟩ := pairsAns_fit hf hs ht
          exact ⟨h2, h3, h4, h5⟩
        · exact ⟨rfl, rfl, hf, hs⟩
theorem set_f {S : List SV} {i : Nat} {x : SV} (_ : S[i]? = some x) (f' : Fc) : shape (S.set i { x with f := f' }) = (shape S).set i (x.t, f') := shape_set S i _
section
variable {B st : Nat} {w : World} {v : Value} {S : List SV}
theorem addA_fn (h : StoreIs B st w v S) (t : Str) (ht : t.length ≤ 65536) (hn : S.length ≤ 100000) :
    Calls Tryz.prog 11 #[.pointer (some ⟨st, 0, none⟩), .string ⟨t.toArray⟩] w fun e w' => e = .returned (.int .i64 ((shape S).length : Nat)) ∧ StepA B st w v S w' (shape S ++ [(t, .text)]) := by
  refine (addS_fn h t ht hn).mono ?_
  rintro e w' ⟨rfl, vb, sb, hs⟩
  exact ⟨by rw [shape_len], _, hs, shape_app _ _⟩
theorem makeA_fn {lv : Value} {l : List Str} (h : StoreIs B st w v S) (hv : StrsAt w lv l) (hml : ML w) (hok : joinOk l) (hn : S.length ≤ 100000) :
    Calls Tryz.prog 15 #[.pointer (some ⟨st, 0, none⟩), lv] w fun e w' => e = .returned (.tuple #[.int .i64 ((shape S).length : Nat), .int .i64 0]) ∧ StepA B st w v S w' (shape S ++ [(quotedL l, .list l)]) := by
  refine (makeS_fn h hv hml hok hn).mono ?_
  rintro e w' ⟨rfl, vb, sb, hs⟩
  exact ⟨by rw [shape_len], _, hs, shape_app _ _⟩
set_option maxRecDepth 100000 in
theorem askA_fn (h : StoreIs B st w v S) (hml : ML w) (k n : Int) :
    Calls Tryz.prog 12 #[.pointer (some ⟨st, 0, none⟩), .int .i64 k, .int .i64 n] w fun e w' => e = .returned (.int .i64 (askA (shape S) k n).1) ∧ StepA B st w v S w' (askA (shape S) k n).2 := by
  unfold askA
  rw [pickA_shape]
  have hg := gotAns_map S k
  cases hp : pickV S k with
  | none =>
    rw [hp] at hg
    have hgo := got_fn h.sta k
    rw [hg] at hgo
    have HG := hid hgo
    have H := hid h
    clear h hg hgo hp hml
    dsimp only [Option.map]
    go_enter Tryz.func12, Tryz.ntmps12
    go_wp2_with fail
    (with_reducible refine HG.out.mono ?_); rintro e w1 ⟨rfl, hw⟩
    subst hw
    have HS := hid (Step.same H.out (belowA w1 (.cells #[.func (.func 44) #[] #[], .func (.func 45) #[] #[], .func (.func 46) #[] #[], .func (.func 47) #[] #[]] 74)))
    unfold gotTup
    dsimp only [Option.map]
    have hun : undef = .tuple #[] := rfl
    go_wp2
    go_ret
    exact ⟨rfl, _, HS.out, rfl⟩
  | some x =>
    rw [hp] at hg
    obtain ⟨i, rfl, hi⟩ := pickV_some hp
    have hxm : x ∈ S := List.mem_of_getElem? hi
    obtain ⟨fv, told, hv⟩ := h.val x hxm
    obtain ⟨hft, hsm, hlen⟩ := h.fit x hxm
    have hfit := askAll_fit hft hsm (by omega) n
    refine (storeAsk_fn h.sta i hg hv hml (by omega) hsm n).mono ?_
    rintro e w' ⟨fv', told', rfl, hst, hv', ho, htt⟩
    exact ⟨rfl, _, h.askedStep hi hv ho hv' htt hfit.2.2.1 hfit.2.2.2, set_f hi _⟩
set_option maxRecDepth 100000 in
theorem elemA_fn (h : StoreIs B st w v S) (hml : ML w) (k j : Int) :
    Calls Tryz.prog 16 #[.pointer (some ⟨st, 0, none⟩), .int .i64 k, .int .i64 j] w fun e w' => e = .returned (.tuple #[.string ⟨(elemA (shape S) k j).1.1.toArray⟩, .int .i64 (elemA (shape S) k j).1.2]) ∧ StepA B st w v S w' (elemA (shape S) k j).2 := by
  unfold elemA
  rw [pickA_shape]
  have hg := gotAns_map S k
  cases hp : pickV S k with
  | none =>
    rw [hp] at hg
    have hgo := got_fn h.sta k
    rw [hg] at hgo
    have HG := hid hgo
    have H := hid h
    clear h hg hgo hp hml
    dsimp only [Option.map]
    go_enter Tryz.func16, Tryz.ntmps16
    go_wp2_with fail
    (with_reducible refine HG.out.mono ?_); rintro e w1 ⟨rfl, hw⟩
    subst hw
    have HS := hid (Step.refl H.out)
    unfold gotTup
    dsimp only [Option.map]
    have hun : undef = .tuple #[] := rfl
    go_wp2
    go_ret2
    exact ⟨rfl, _, HS.out, rfl⟩
  | some x =>
    rw [hp] at hg
    obtain ⟨i, rfl, hi⟩ := pickV_some hp
    have hxm : x ∈ S := List.mem_of_getElem? hi
    obtain ⟨fv, told, hv⟩ := h.val x hxm
    obtain ⟨hft, hsm, hlen⟩ := h.fit x hxm
    have hfit := listAns_fit hft hsm (by omega)
    refine (storeElement_fn h.sta i hg hv hml (by omega) hsm j).mono ?_
    rintro e w' ⟨fv', told', rfl, hst, hv', ho, htt⟩
    exact ⟨rfl, _, h.askedStep hi hv ho hv' htt hfit.2.2.2.1 hfit.2.2.2.2, set_f hi _⟩
set_option maxRecDepth 100000 in
theorem textA_fn (h : StoreIs B st w v S) (hml : ML w) (k : Int) :
    Calls Tryz.prog 14 #[.pointer (some ⟨st, 0, none⟩), .int .i64 k] w fun e w' => e = .returned (.tuple #[.string ⟨(textA (shape S) k).1.toArray⟩, .int .i64 (textA (shape S) k).2]) ∧ Step B st w v S w' S := by
  unfold textA
  rw [pickA_shape]
  have hg := gotAns_map S k
  cases hp : pickV S k with
  | none =>
    rw [hp] at hg
    have hgo := got_fn h.sta k
    rw [hg] at hgo
    have HG := hid hgo
    have H := hid h
    clear h hg hgo hp hml
    dsimp only [Option.map]
    go_enter Tryz.func14, Tryz.ntmps14
    go_wp2_with fail
    (with_reducible refine HG.out.mono ?_); rintro e w1 ⟨rfl, hw⟩
    subst hw
    have HS := hid (Step.refl H.out)
    unfold gotTup
    dsimp only [Option.map]
    have hun : undef = .tuple #[] := rfl
    go_wp2
    go_ret2
    exact ⟨rfl, HS.out⟩
  | some x =>
    rw [hp] at hg
    obtain ⟨i, rfl, hi⟩ := pickV_some hp
    have hxm : x ∈ S := List.mem_of_getElem? hi
    obtain ⟨fv, told, hv⟩ := h.val x hxm
    obtain ⟨hft, hsm, hlen⟩ := h.fit x hxm
    refine (storeText_fn h.sta i hg hv hml).mono ?_
    rintro e w' ⟨rfl, hst, hv', ho⟩
    have hs := h.askedStep hi hv ho hv' (fun _ => rfl) hft hsm
    rw [show S.set i { x with f := x.f } = S from set_self hi] at hs
    exact ⟨rfl, hs⟩
set_option maxRecDepth 100000 in
theorem faceA_fn (h : StoreIs B st w v S) (k : Int) :
    Calls Tryz.prog 13 #[.pointer (some ⟨st, 0, none⟩), .int .i64 k] w fun e w' => e = .returned (.tuple #[.int .i64 (faceA (shape S) k).1, .int .i64 (faceA (shape S) k).2]) ∧ w' = w := by
  unfold faceA
  rw [pickA_shape]
  have hg := gotAns_map S k
  cases hp : pickV S k with
  | none =>
    rw [hp] at hg
    have hgo := got_fn h.sta k
    rw [hg] at hgo
    have HG := hid hgo
    clear h hg hgo hp
    dsimp only [Option.map]
    go_enter Tryz.func13, Tryz.ntmps13
    go_wp2_with fail
    (with_reducible refine HG.out.mono ?_); rintro e w1 ⟨rfl, hw⟩
    subst hw
    unfold gotTup
    dsimp only [Option.map]
    have hun : undef = .tuple #[] := rfl
    go_wp2
    go_ret2
    exact ⟨rfl, rfl⟩
  | some x =>
    rw [hp] at hg
    obtain ⟨i, rfl, hi⟩ := pickV_some hp
    have hxm : x ∈ S := List.mem_of_getElem? hi
    obtain ⟨fv, told, hv⟩ := h.val x hxm
    exact storeFace_fn h.sta i hg hv
end
end Go.Proofs.YtabhkoklcjhlpaaGreatDoor.Pz
/-
  A store, plain: a value is copied, a value's text is changed.
-/
namespace Go.Proofs.YtabhkoklcjhlpaaGreatDoor.Pz
open Go.RowKit
section
variable {B st : Nat} {w w' : World} {v : Value} {S : List SV}
/-- what two values share is told alike -/
theorem told_same {vb vb2 sb cnt cnt2 : Nat} {fv fv2 : Value} {t t2 : Str} {told told2 : Bool} {f f2 : Fc} (h : ValAt vb sb w fv t told cnt f) (h2 : ValAt vb2 sb w fv2 t2 told2 cnt2 f2) : told = told2 ∧ cnt = cnt2 := by
  have h3 := h2.shr
  rw [h.shr] at h3
  simp only [Option.some.injEq, Obj.cells.injEq, Array.mk.injEq, List.cons.injEq, Value.bool.injEq, Value.int.injEq, true_and, and_true] at h3
  exact ⟨h3.2.1, by have := h3.2.2; omega⟩
theorem StoreIs.copied (h : StoreIs B st w v S) {x : SV} (hx : x ∈ S) {vb2 : Nat} {fv : Value} {told : Bool} {w1 w2 : World} {v2 : Value}
    (hv : ValAt x.vb x.sb w fv x.t told ((S.map SV.sb).count x.sb) x.f) (ho1 : Only [x.sb] w w1)
    (hshr : w1.heap[x.sb]? = some (.cells #[.string ⟨(if told then x.t else []).toArray⟩, .bool told, .int .i64 (((S.map SV.sb).count x.sb + 1 : Nat) : Int)] 94 (0, 0)))
    (hval : w1.heap[vb2]? = some (.cells #[.pointer (some ⟨x.sb, 0, none⟩), fv] 88 (0, 0))) (h1 : w.heap.size ≤ vb2)
    (hst : StAt B st w2 v2 ((S.map SV.vb) ++ [vb2])) (ho : Only (st :: v.ownBlock.toList) w1 w2) (hat : ∀ g, v2.ownBlock = some g → v.ownBlock = some g ∨ w1.heap.size ≤ g) :
    Step B st w v S w2 (S ++ [⟨vb2, x.sb, x.t, x.f⟩]) := by
  have hlow := h.low.2.1
  have hsta1 : StAt B st w1 v (S.map SV.vb) := h.sta.other ho1 fun k hk => by
    simp only [List.mem_singleton] at hk
    subst hk
    exact h.sta.ne hv.shr (by decide) (by decide)
  have cnt : ∀ k, (((S ++ [(⟨vb2, x.sb, x.t, x.f⟩ : SV)]).map SV.sb).count k) = (S.map SV.sb).count k + if x.sb = k then 1 else 0 := by
    intro k
    rw [List.map_append, List.count_append]
    simp [List.count_singleton]
  have hstr1 : ∀ k ∈ [x.sb], ∀ cur : Array Value, w.heap[k]? ≠ some (Obj.cells cur 9 (0, 0)) := by
    intro k hk cur hc
    simp only [List.mem_singleton] at hk
    subst hk
    exact kinds_ne hc hv.shr (by decide) rfl
  have face1 : ∀ {fy : Value} {f : Fc}, FaceIs w fy f → FaceIs w1 fy f := fun hf => FaceIs.keep hf fun k cur hc => ho1.cells hc fun e => hstr1 k e cur hc
  -- behind the first writes
  have v1 : ∀ y ∈ S, ∃ fy ty, ValAt y.vb y.sb w1 fy y.t ty ((S.map SV.sb).count y.sb + if x.sb = y.sb then 1 else 0) y.f := by
    intro y hy
    obtain ⟨fy, ty, hvy⟩ := h.val y hy
    have n1 : y.vb ≠ x.sb := kinds_ne hvy.val hv.shr (by decide)
    by_cases hsb : x.sb = y.sb
    · have htt := h.same y hy x hx hsb.symm
      rw [← hsb] at hvy
      obtain ⟨rfl, _⟩ := told_same hvy hv
      rw [if_pos hsb, ← hsb, htt]
      exact ⟨fy, ty, ⟨hshr, ho1.cells hvy.val (by simp [n1]), face1 hvy.face, by rw [← htt]; exact hvy.un⟩⟩
    · rw [if_neg hsb]
      exact ⟨fy, ty, hvy.other ho1 (by simp [n1]) (by simp [Ne.symm hsb]) hstr1⟩
  have v2' : ValAt vb2 x.sb w1 fv x.t told ((S.map SV.sb).count x.sb + 1) x.f := ⟨hshr, hval, face1 hv.face, hv.un⟩
  have keep : ∀ {vb sb cnt : Nat} {fy : Value} {t : Str} {ty : Bool} {f : Fc}, ValAt vb sb w1 fy t ty cnt f → ValAt vb sb w2 fy t ty cnt f := by
    intro vb sb cnt fy t ty f hvy
    refine hvy.other ho ?_ ?_ ?_
    · have := hsta1.ne hvy.val (by decide) (by decide)
      simp only [List.mem_cons, Option.mem_toList, not_or]
      exact this
    · have := hsta1.ne hvy.shr (by decide) (by decide)
      simp only [List.mem_cons, Option.mem_toList, not_or]
      exact this
    · intro k hk cur hc
      have := hsta1.ne hc (by decide) (by decide)
      simp only [List.mem_cons, Option.mem_toList] at hk
      rcases hk with rfl | hk
      · exact this.1 rfl
      · exact this.2 hk
  have ne : ∀ y ∈ S, y.vb ≠ vb2 := fun y hy => by
    obtain ⟨_, _, hvy⟩ := h.val y hy
    have := hvy.vlt
    omega
  have hz1 := ho1.size
  refine ⟨v2, ⟨by rw [List.map_append]; exact hst, ?_, fun y hy => ?_, fun y hy => ?_, fun y hy z hz e => ?_, ⟨h.low.1, Nat.le_trans hlow (Nat.le_trans hz1 ho.size), fun y hy => ?_⟩⟩, ?_, fun k hk => ?_⟩
  · rw [List.map_append, List.nodup_append]
    refine ⟨h.nd, by simp, fun a ha b hb => ?_⟩
    obtain ⟨y, hy, rfl⟩ := List.mem_map.1 ha
    simp only [List.map_cons, List.map_nil, List.mem_singleton] at hb
    subst hb
    exact ne y hy
  · rw [cnt]
    rcases List.mem_append.1 hy with hy1 | hy1
    · obtain ⟨fy, ty, hvy⟩ := v1 y hy1
      exact ⟨fy, ty, keep hvy⟩
    · rw [List.mem_singleton.1 hy1, if_pos rfl]
      exact ⟨fv, told, keep v2'⟩
  · rcases List.mem_append.1 hy with hy1 | hy1
    · exact h.fit y hy1
    · rw [List.mem_singleton.1 hy1]
      exact h.fit x hx
  · rcases List.mem_append.1 hy with hy1 | hy1 <;> rcases List.mem_append.1 hz with hz1 | hz1
    · exact h.same y hy1 z hz1 e
    · rw [List.mem_singleton.1 hz1] at e ⊢
      exact h.same y hy1 x hx e
    · rw [List.mem_singleton.1 hy1] at e ⊢
      exact h.same x hx z hz1 e
    · rw [List.mem_singleton.1 hy1, List.mem_singleton.1 hz1]
  · rcases List.mem_append.1 hy with hy1 | hy1
    · exact h.low.2.2 y hy1
    · rw [List.mem_singleton.1 hy1]
      exact ⟨by show B ≤ vb2; omega, (h.low.2.2 x hx).2⟩
  · refine (ho1.more ?_).trans (ho.more ?_)
    · intro k hk
      simp only [List.mem_singleton] at hk
      subst hk
      exact foot_mem.2 (.inr (.inr (.inr ⟨x, hx, rfl⟩)))
    · intro k hk
      simp only [List.mem_cons, Option.mem_toList] at hk
      rcases hk with rfl | hk
      · exact foot_mem.2 (.inl rfl)
      · exact foot_mem.2 (.inr (.inl hk))
  · rcases foot_mem.1 hk with rfl | hk | ⟨y, hy, rfl⟩ | ⟨y, hy, rfl⟩
    · exact .inl (foot_mem.2 (.inl rfl))
    · rcases hat k hk with h3 | h3
      · exact .inl (foot_mem.2 (.inr (.inl h3)))
      · exact .inr (Nat.le_trans hz1 h3)
    · rcases List.mem_append.1 hy with hy1 | hy1
      · exact .inl (foot_mem.2 (.inr (.inr (.inl ⟨y, hy1, rfl⟩))))
      · rw [List.mem_singleton.1 hy1]
        exact .inr h1
    · rcases List.mem_append.1 hy with hy1 | hy1
      · exact .inl (foot_mem.2 (.inr (.inr (.inr ⟨y, hy1, rfl⟩))))
      · rw [List.mem_singleton.1 hy1]
        exact .inl (foot_mem.2 (.inr (.inr (.inr ⟨x, hx, rfl⟩))))
/-- a value's text and face are changed: in the block that it alone has, or in a new one -/
theorem StoreIs.putted (h : StoreIs B st w v S) {i : Nat} {x : SV} (hi : S[i]? = some x) {fv fv' : Value} {told : Bool} {sb' : Nat} {t' : Str} {f' : Fc} (hv : ValAt x.vb x.sb w fv x.t told ((S.map SV.sb).count x.sb) x.f)
    (ho : Only [x.vb, x.sb] w w') (hv' : ValAt x.vb sb' w' fv' t' true 1 f')
    (hsb : ((S.map SV.sb).count x.sb = 1 ∧ sb' = x.sb) ∨ (1 < (S.map SV.sb).count x.sb ∧ w.heap.size ≤ sb' ∧ w'.heap[x.sb]? = some (.cells #[.string ⟨x.t.toArray⟩, .bool true, .int .i64 (((S.map SV.sb).count x.sb - 1 : Nat) : Int)] 94 (0, 0))))
    (hf : Fit f' t') (hs : f'.small) (hl : t'.length ≤ 65536) : Step B st w v S w' (S.set i ⟨x.vb, sb', t', f'⟩) := by
  have hil := (List.getElem?_eq_some_iff.1 hi).1
  have hxe := (List.getElem?_eq_some_iff.1 hi).2
  have hxm : x ∈ S := by rw [← hxe]; exact List.getElem_mem hil
  have hlow := h.low.2.1
  have mv : (S.set i ⟨x.vb, sb', t', f'⟩).map SV.vb = S.map SV.vb := by
    rw [List.map_set]
    exact set_self (by rw [List.getElem?_map, hi]; rfl)
  have mem : ∀ y ∈ S.set i ⟨x.vb, sb', t', f'⟩, y = ⟨x.vb, sb', t', f'⟩ ∨ ∃ j, j ≠ i ∧ S[j]? = some y := by
    intro y hy
    obtain ⟨j, hj, rfl⟩ := List.mem_iff_getElem.1 hy
    by_cases hji : i = j
    · subst hji
      left
      simp
    · right
      have hj' : j < S.length := by simpa using hj
      rw [List.getElem_set_ne hji]
      exact ⟨j, Ne.symm hji, List.getElem?_eq_getElem hj'⟩
  have vne : ∀ (j : Nat) (y : SV), j ≠ i → S[j]? = some y → y.vb ≠ x.vb := by
    intro j y hji hj e
    have hjl := (List.getElem?_eq_some_iff.1 hj).1
    have h1 : (S.map SV.vb)[j]'(by simpa using hjl) = (S.map SV.vb)[i]'(by simpa using hil) := by
      rw [List.getElem_map, List.getElem_map, (List.getElem?_eq_some_iff.1 hj).2, e, hxe]
    exact hji ((List.getElem_inj h.nd).1 h1)
  have cset : ∀ k, ((S.set i (⟨x.vb, sb', t', f'⟩ : SV)).map SV.sb).count k = (S.map SV.sb).count k - (if x.sb = k then 1 else 0) + (if sb' = k then 1 else 0) := by
    intro k
    rw [List.map_set, List.count_set (by simpa using hil)]
    simp [hxe]
  -- the others that share
  have other1 : ∀ (j : Nat) (y : SV), j ≠ i → S[j]? = some y → y.sb = x.sb → 1 < (S.map SV.sb).count x.sb := by
    intro j y hji hj e
    have hjl := (List.getElem?_eq_some_iff.1 hj).1
    have h1 : y.sb ∈ ((S.map SV.sb).set i (x.sb + 1)) := by
      refine List.mem_iff_getElem.2 ⟨j, by simpa using hjl, ?_⟩
      rw [List.getElem_set_ne (Ne.symm hji), List.getElem_map, (List.getElem?_eq_some_iff.1 hj).2]
    have h2 := List.count_pos_iff.2 h1
    rw [e, List.count_set (by simpa using hil)] at h2
    simp [hxe] at h2
    omega
  have otherlt : ∀ (j : Nat) (y : SV), S[j]? = some y → y.sb < w.heap.size := by
    intro j y hj
    obtain ⟨_, _, hvy⟩ := h.val y (List.mem_of_getElem? hj)
    exact hvy.vlt.2
  have hstr : ∀ k ∈ [x.vb, x.sb], ∀ cur : Array Value, w.heap[k]? ≠ some (Obj.cells cur 9 (0, 0)) := by
    intro k hk cur hc
    simp only [List.mem_cons, List.not_mem_nil, or_false] at hk
    rcases hk with rfl | rfl
    · exact kinds_ne hc hv.val (by decide) rfl
    · exact kinds_ne hc hv.shr (by decide) rfl
  have sbne : ∀ (j : Nat) (y : SV), j ≠ i → S[j]? = some y → y.sb ≠ sb' := by
    intro j y hji hj e
    rcases hsb with ⟨h1, h2⟩ | ⟨h1, h2, _⟩
    · have := other1 j y hji hj (by rw [e, h2])
      omega
    · have := otherlt j y hj
      omega
  refine ⟨v, ⟨by rw [mv]; exact h.sta.value hv ho, by rw [mv]; exact h.nd, fun y hy => ?_, fun y hy => ?_, fun y hy z hz e => ?_, ⟨h.low.1, Nat.le_trans hlow ho.size, fun y hy => ?_⟩⟩, ho.more (foot_val hxm), fun k hk => ?_⟩
  · rw [cset]
    rcases mem y hy with rfl | ⟨j, hji, hj⟩
    · refine ⟨fv', true, ?_⟩
      have hc : (S.map SV.sb).count sb' - (if x.sb = sb' then 1 else 0) + (if sb' = sb' then 1 else 0) = 1 := by
        rw [if_pos rfl]
        rcases hsb with ⟨h1, h2⟩ | ⟨h1, h2, _⟩
        · rw [h2, if_pos rfl, h1]
        · have h0 : (S.map SV.sb).count sb' = 0 := by
            rw [List.count_eq_zero]
            intro hm
            obtain ⟨z, hz, e⟩ := List.mem_map.1 hm
            obtain ⟨_, _, hvz⟩ := h.val z hz
            have := hvz.vlt.2
            omega
          rw [h0, Nat.zero_sub]
      show ValAt x.vb sb' w' fv' t' true _ f'
      rw [hc]
      exact hv'
    · have hym := List.mem_of_getElem? hj
      obtain ⟨fy, ty, hvy⟩ := h.val y hym
      have n0 := vne j y hji hj
      have n1 : y.vb ≠ x.sb := kinds_ne hvy.val hv.shr (by decide)
      have n3 := sbne j y hji hj
      rw [if_neg (Ne.symm n3), Nat.add_zero]
      by_cases hs2 : x.sb = y.sb
      · rcases hsb with ⟨h1, h2⟩ | ⟨h1, h2, h3⟩
        · have := other1 j y hji hj hs2.symm
          omega
        · have htt := h.same y hym x hxm hs2.symm
          refine ⟨fy, true, ⟨?_, ho.cells hvy.val (by simp [n0, n1]), FaceIs.keep hvy.face fun k cur hc => ho.cells hc fun e => hstr k e cur hc, fun h => by cases h⟩⟩
          rw [if_pos hs2, ← hs2, htt]
          exact h3
      · rw [if_neg hs2, Nat.sub_zero]
        have n2 : y.sb ≠ x.vb := fun e => kinds_ne hvy.shr (by rw [e]; exact hv.val) (by decide) rfl
        exact ⟨fy, ty, hvy.other ho (by simp [n0, n1]) (by simp [Ne.symm hs2, n2]) hstr⟩
  · rcases mem y hy with rfl | ⟨j, hji, hj⟩
    · exact ⟨hf, hs, hl⟩
    · exact h.fit y (List.mem_of_getElem? hj)
  · rcases mem y hy with hy1 | ⟨j, hji, hj⟩ <;> rcases mem z hz with hz1 | ⟨k, hki, hk⟩
    · rw [hy1, hz1]
    · rw [hy1] at e
      exact absurd e.symm (sbne k z hki hk)
    · rw [hz1] at e
      exact absurd e (sbne j y hji hj)
    · exact h.same y (List.mem_of_getElem? hj) z (List.mem_of_getElem? hk) e
  · rcases mem y hy with rfl | ⟨j, hji, hj⟩
    · refine ⟨(h.low.2.2 x hxm).1, ?_⟩
      rcases hsb with ⟨h1, h2⟩ | ⟨h1, h2, _⟩
      · rw [h2]
        exact (h.low.2.2 x hxm).2
      · show B ≤ sb'
        omega
    · exact h.low.2.2 y (List.mem_of_getElem? hj)
  · rcases foot_mem.1 hk with rfl | hk | ⟨y, hy, rfl⟩ | ⟨y, hy, rfl⟩
    · exact .inl (foot_mem.2 (.inl rfl))
    · exact .inl (foot_mem.2 (.inr (.inl hk)))
    · rcases mem y hy with rfl | ⟨j, hji, hj⟩
      · exact .inl (foot_mem.2 (.inr (.inr (.inl ⟨x, hxm, rfl⟩))))
      · exact .inl (foot_mem.2 (.inr (.inr (.inl ⟨y, List.mem_of_getElem? hj, rfl⟩))))
    · rcases mem y hy with rfl | ⟨j, hji, hj⟩
      · rcases hsb with ⟨h1, h2⟩ | ⟨h1, h2, _⟩
        · rw [h2]
          exact .inl (foot_mem.2 (.inr (.inr (.inr ⟨x, hxm, rfl⟩))))
        · exact .inr h2
      · exact .inl (foot_mem.2 (.inr (.inr (.inr ⟨y, List.mem_of_getElem? hj, rfl⟩))))
end
end Go.Proofs.YtabhkoklcjhlpaaGreatDoor.Pz
/-
  value: copied, own, put, walked.
-/
namespace Go.Proofs.YtabhkoklcjhlpaaGreatDoor.Pz
open Go.RowKit
/-- the block of what is shared holds a text, whether it was made, and how many share it -/
def ShrIs (w : World) (sb : Nat) (t : Str) (told : Bool) (n : Nat) : Prop := w.heap[sb]? = some (.cells #[.string ⟨(if told then t else []).toArray⟩, .bool told, .int .i64 ((n : Nat) : Int)] 94 (0, 0))
set_option maxRecDepth 100000 in
set_option maxHeartbeats 1000000 in
theorem copied_fn {vb sb : Nat} {w : World} {fv : Value} {t : Str} {told : Bool} {cnt : Nat} {f : Fc} (h : ValAt vb sb w fv t told cnt f) (hc : cnt ≤ 1000000) :
    Calls Tryz.prog 96 #[.pointer (some ⟨vb, 0, none⟩)] w fun e w' => ∃ vb2, e = .returned (.pointer (some ⟨vb2, 0, none⟩)) ∧ w.heap.size ≤ vb2 ∧ Only [sb] w w' ∧
      ShrIs w' sb t told (cnt + 1) ∧ w'.heap[vb2]? = some (.cells #[.pointer (some ⟨sb, 0, none⟩), fv] 88 (0, 0)) := by
  have c0 : w.cell? ⟨vb, 0, none⟩ = some (.pointer (some ⟨sb, 0, none⟩)) := by rw [Lib.cell_of_heap h.val]; rfl
  have c1 : w.cell? ⟨vb, 1, none⟩ = some fv := by rw [Lib.cell_of_heap h.val]; rfl
  have b2 : w.cell? ⟨sb, 2, none⟩ = some (.int .i64 (cnt : Nat)) := by rw [Lib.cell_of_heap h.shr]; rfl
  have f2 : w.frozen? ⟨sb, 2, none⟩ = false := Lib.frozen_of_heap h.shr 2
  have hne := h.ne
  have hmx : Tryz.prog.follows .mixedOrders = true := by kernel_rfl
  obtain ⟨w1, hw1⟩ : ∃ w1, w1 = w.setCell ⟨sb, 2, none⟩ (.int .i64 ((cnt : Nat) + 1)) := ⟨_, rfl⟩
  have hs1 : w1.heap[sb]? = some (.cells #[.string ⟨(if told then t else []).toArray⟩, .bool told, .int .i64 ((cnt + 1 : Nat) : Int)] 94 (0, 0)) := by rw [hw1]; simp [World.setCell, Array.getElem?_modify, h.shr]
  have hv1 : w1.heap[vb]? = some (.cells #[.pointer (some ⟨sb, 0, none⟩), fv] 88 (0, 0)) := by rw [hw1]; exact (Below.heap_setCell _ _ _ _ (by show vb ≠ sb; exact hne)).trans h.val
  have ho1 : Only [sb] w w1 := by rw [hw1]; exact Only.set (by simp) _
  have d0 : w1.cell? ⟨vb, 0, none⟩ = some (.pointer (some ⟨sb, 0, none⟩)) := by rw [Lib.cell_of_heap hv1]; rfl
  have d1 : w1.cell? ⟨vb, 1, none⟩ = some fv := by rw [Lib.cell_of_heap hv1]; rfl
  have HS1 := hid hs1
  have HO1 := hid ho1
  have HW1 := hid hw1
  have hfv : fv = .nilIface ∨ ∃ T u, fv = .iface T u := by
    rcases h.face.nil_or with h1 | ⟨_, _, _, h1, _⟩ | ⟨_, _, h1⟩ | ⟨_, _, _, h1, _⟩
    · exact .inl h1
    · exact .inr ⟨_, _, h1⟩
    · exact .inr ⟨_, _, h1⟩
    · exact .inr ⟨_, _, h1⟩
  clear h hs1 ho1 hw1 hv1 hne
  rcases hfv with rfl | ⟨T, uf, rfl⟩
  · have HM := hid hmx
    go_enter Tryz.func96, Tryz.ntmps96
    go_wp2
    rw [← HW1.out]
    refine U_begin (late := fun _ => false) (S := fun u : World => u.cell? ⟨vb, 0, none⟩ = some (.pointer (some ⟨sb, 0, none⟩)) ∧ u.cell? ⟨vb, 1, none⟩ = some .nilIface) hmx ?_
    have S0 : Hid ((fun u : World => u.cell? ⟨vb, 0, none⟩ = some (.pointer (some ⟨sb, 0, none⟩)) ∧ u.cell? ⟨vb, 1, none⟩ = some .nilIface) w1.drew) := hid ⟨d0, d1⟩
    refine U_take2 8 (i := 0) (v := .pointer (some ⟨vb, 0, none⟩)) rfl (by kernel_rfl) (by kernel_rfl) (by kernel_rfl) (by kernel_rfl) (by kernel_rfl) (fun _ _ _ h => h) (.inl ⟨rfl, fun u hu => (by go_simp)⟩) S0.out ?_
    refine U_take2 8 (i := 1) (v := .pointer (some ⟨vb, 0, none⟩)) rfl (by kernel_rfl) (by kernel_rfl) (by kernel_rfl) (by kernel_rfl) (by kernel_rfl) (fun _ _ _ h => h) (.inl ⟨rfl, fun u hu => (by go_simp)⟩) S0.out ?_
    refine U_take2 8 (i := 2) (v := .pointer (some ⟨vb, 0, none⟩)) rfl (by kernel_rfl) (by kernel_rfl) (by kernel_rfl) (by kernel_rfl) (by kernel_rfl) (fun _ _ _ h => h) (.inl ⟨rfl, fun u hu => (by go_simp)⟩) S0.out ?_
    refine U_take2 8 (i := 3) (v := .pointer (some ⟨sb, 0, none⟩)) rfl (by kernel_rfl) (by kernel_rfl) (by kernel_rfl) (by kernel_rfl) (by kernel_rfl) (fun _ _ _ h => h) (.inl ⟨rfl, fun u hu => (by obtain ⟨h1, h2⟩ := hu; go_simp)⟩) S0.out ?_
    refine U_take2 8 (i := 4) (v := .pointer (some ⟨vb, 0, none⟩)) rfl (by kernel_rfl) (by kernel_rfl) (by kernel_rfl) (by kernel_rfl) (by kernel_rfl) (fun _ _ _ h => h) (.inl ⟨rfl, fun u hu => (by go_simp)⟩) S0.out ?_
    refine U_take2 8 (i := 5) (v := .pointer (some ⟨vb, 0, none⟩)) rfl (by kernel_rfl) (by kernel_rfl) (by kernel_rfl) (by kernel_rfl) (by kernel_rfl) (fun _ _ _ h => h) (.inl ⟨rfl, fun u hu => (by go_simp)⟩) S0.out ?_
    refine U_take2 8 (i := 6) (v := .pointer (some ⟨vb, 1, none⟩)) rfl (by kernel_rfl) (by kernel_rfl) (by kernel_rfl) (by kernel_rfl) (by kernel_rfl) (fun _ _ _ h => h) (.inl ⟨rfl, fun u hu => (by go_simp)⟩) S0.out ?_
    refine U_take2 8 (i := 7) (v := .nilIface) rfl (by kernel_rfl) (by kernel_rfl) (by kernel_rfl) (by kernel_rfl) (by kernel_rfl) (fun _ _ _ h => h) (.inl ⟨rfl, fun u hu => (by obtain ⟨h1, h2⟩ := hu; go_simp)⟩) S0.out ?_
    refine U_take2 8 (i := 8) (v := .agg #[.pointer (some ⟨sb, 0, none⟩), .nilIface]) rfl (by kernel_rfl) (by kernel_rfl) (by kernel_rfl) (by kernel_rfl) (by kernel_rfl) (fun _ _ _ h => h) (.inl ⟨rfl, fun u hu => (by go_simp)⟩) S0.out ?_
    obtain ⟨w2, hw2⟩ : ∃ w2, w2 = (w1.alloc (.cells #[.pointer (some ⟨sb, 0, none⟩), .nilIface] 88)).drew := ⟨_, rfl⟩
    have hb2 : Below w1.heap.size w1 w2 := by rw [hw2]; exact ((Below.refl _ _).alloc (Nat.le_refl _) _).drew
    have hvl : vb < w1.heap.size := by
      unfold World.cell? at d0
      rcases Nat.lt_or_ge vb w1.heap.size with h | h
      · exact h
      · rw [Array.getElem?_eq_none h] at d0; cases d0
    have k0 : w2.cell? ⟨vb, 0, none⟩ = some (.pointer (some ⟨sb, 0, none⟩)) := (hb2.cell (p := ⟨vb, 0, none⟩) hvl).trans d0
    have k1 : w2.cell? ⟨vb, 1, none⟩ = some .nilIface := (hb2.cell (p := ⟨vb, 1, none⟩) hvl).trans d1
    refine U_step (j := 9) (by kernel_rfl) rfl (fun K hK => ?_)
    go_simp
    rw [← hw2]
    have HW2 := hid hw2
    clear hw2
    refine hK.out _ _ (.inr ⟨k0, k1⟩) ?_
    clear hK K
    refine U_step (j := 10) (by kernel_rfl) rfl (fun K hK => ?_)
    go_simp
    refine hK.out _ _ (.inr ⟨k0, k1⟩) ?_
    clear hK K
    refine U_done (by kernel_rfl) ?_ _
    have hn2 : w2.heap[w1.heap.size]? = some (.cells #[.pointer (some ⟨sb, 0, none⟩), .nilIface] 88 (0, 0)) := by rw [HW2.out]; exact heap_alloc_new _ _
    have hs2 := (hb2.block sb (Array.getElem?_eq_some_iff.1 HS1.out).1).trans HS1.out
    have HS2 := hid (show ShrIs w2 sb t told (cnt + 1) from hs2)
    have HN2 := hid hn2
    have HO2 := hid (HO1.out.trans (Only.of hb2 _))
    have hz := HO1.out.size
    clear S0 k0 k1 d0 d1 c0 c1 b2 f2 hb2 hs2 hn2
    go_wp2
    go_ret
    exact ⟨_, rfl, hz, HO2.out, HS2.out, HN2.out⟩
  · have HM := hid hmx
    go_enter Tryz.func96, Tryz.ntmps96
    go_wp2
    rw [← HW1.out]
    refine U_begin (late := fun _ => false) (S := fun u : World => u.cell? ⟨vb, 0, none⟩ = some (.pointer (some ⟨sb, 0, none⟩)) ∧ u.cell? ⟨vb, 1, none⟩ = some (.iface T uf)) hmx ?_
    have S0 : Hid ((fun u : World => u.cell? ⟨vb, 0, none⟩ = some (.pointer (some ⟨sb, 0, none⟩)) ∧ u.cell? ⟨vb, 1, none⟩ = some (.iface T uf)) w1.drew) := hid ⟨d0, d1⟩
    refine U_take2 8 (i := 0) (v := .pointer (some ⟨vb, 0, none⟩)) rfl (by kernel_rfl) (by kernel_rfl) (by kernel_rfl) (by kernel_rfl) (by kernel_rfl) (fun _ _ _ h => h) (.inl ⟨rfl, fun u hu => (by go_simp)⟩) S0.out ?_
    refine U_take2 8 (i := 1) (v := .pointer (some ⟨vb, 0, none⟩)) rfl (by kernel_rfl) (by kernel_rfl) (by kernel_rfl) (by kernel_rfl) (by kernel_rfl) (fun _ _ _ h => h) (.inl ⟨rfl, fun u hu => (by go_simp)⟩) S0.out ?_
    refine U_take2 8 (i := 2) (v := .pointer (some ⟨vb, 0, none⟩)) rfl (by kernel_rfl) (by kernel_rfl) (by kernel_rfl) (by kernel_rfl) (by kernel_rfl) (fun _ _ _ h => h) (.inl ⟨rfl, fun u hu => (by go_simp)⟩) S0.out ?_
    refine U_take2 8 (i := 3) (v := .pointer (some ⟨sb, 0, none⟩)) rfl (by kernel_rfl) (by kernel_rfl) (by kernel_rfl) (by kernel_rfl) (by kernel_rfl) (fun _ _ _ h => h) (.inl ⟨rfl, fun u hu => (by obtain ⟨h1, h2⟩ := hu; go_simp)⟩) S0.out ?_
    refine U_take2 8 (i := 4) (v := .pointer (some ⟨vb, 0, none⟩)) rfl (by kernel_rfl) (by kernel_rfl) (by kernel_rfl) (by kernel_rfl) (by kernel_rfl) (fun _ _ _ h => h) (.inl ⟨rfl, fun u hu => (by go_simp)⟩) S0.out ?_
    refine U_take2 8 (i := 5) (v := .pointer (some ⟨vb, 0, none⟩)) rfl (by kernel_rfl) (by kernel_rfl) (by kernel_rfl) (by kernel_rfl) (by kernel_rfl) (fun _ _ _ h => h) (.inl ⟨rfl, fun u hu => (by go_simp)⟩) S0.out ?_
    refine U_take2 8 (i := 6) (v := .pointer (some ⟨vb, 1, none⟩)) rfl (by kernel_rfl) (by kernel_rfl) (by kernel_rfl) (by kernel_rfl) (by kernel_rfl) (fun _ _ _ h => h) (.inl ⟨rfl, fun u hu => (by go_simp)⟩) S0.out ?_
    refine U_take2 8 (i := 7) (v := (.iface T uf)) rfl (by kernel_rfl) (by kernel_rfl) (by kernel_rfl) (by kernel_rfl) (by kernel_rfl) (fun _ _ _ h => h) (.inl ⟨rfl, fun u hu => (by obtain ⟨h1, h2⟩ := hu; go_simp)⟩) S0.out ?_
    refine U_take2 8 (i := 8) (v := .agg #[.pointer (some ⟨sb, 0, none⟩), (.iface T uf)]) rfl (by kernel_rfl) (by kernel_rfl) (by kernel_rfl) (by kernel_rfl) (by kernel_rfl) (fun _ _ _ h => h) (.inl ⟨rfl, fun u hu => (by go_simp)⟩) S0.out ?_
    obtain ⟨w2, hw2⟩ : ∃ w2, w2 = (w1.alloc (.cells #[.pointer (some ⟨sb, 0, none⟩), (.iface T uf)] 88)).drew := ⟨_, rfl⟩
    have hb2 : Below w1.heap.size w1 w2 := by rw [hw2]; exact ((Below.refl _ _).alloc (Nat.le_refl _) _).drew
    have hvl : vb < w1.heap.size := by
      unfold World.cell? at d0
      rcases Nat.lt_or_ge vb w1.heap.size with h | h
      · exact h
      · rw [Array.getElem?_eq_none h] at d0; cases d0
    have k0 : w2.cell? ⟨vb, 0, none⟩ = some (.pointer (some ⟨sb, 0, none⟩)) := (hb2.cell (p := ⟨vb, 0, none⟩) hvl).trans d0
    have k1 : w2.cell? ⟨vb, 1, none⟩ = some (.iface T uf) := (hb2.cell (p := ⟨vb, 1, none⟩) hvl).trans d1
    refine U_step (j := 9) (by kernel_rfl) rfl (fun K hK => ?_)
    go_simp
    rw [← hw2]
    have HW2 := hid hw2
    clear hw2
    refine hK.out _ _ (.inr ⟨k0, k1⟩) ?_
    clear hK K
    refine U_step (j := 10) (by kernel_rfl) rfl (fun K hK => ?_)
    go_simp
    refine hK.out _ _ (.inr ⟨k0, k1⟩) ?_
    clear hK K
    refine U_done (by kernel_rfl) ?_ _
    have hn2 : w2.heap[w1.heap.size]? = some (.cells #[.pointer (some ⟨sb, 0, none⟩), (.iface T uf)] 88 (0, 0)) := by rw [HW2.out]; exact heap_alloc_new _ _
    have hs2 := (hb2.block sb (Array.getElem?_eq_some_iff.1 HS1.out).1).trans HS1.out
    have HS2 := hid (show ShrIs w2 sb t told (cnt + 1) from hs2)
    have HN2 := hid hn2
    have HO2 := hid (HO1.out.trans (Only.of hb2 _))
    have hz := HO1.out.size
    clear S0 k0 k1 d0 d1 c0 c1 b2 f2 hb2 hs2 hn2
    go_wp2
    go_ret
    exact ⟨_, rfl, hz, HO2.out, HS2.out, HN2.out⟩
/-- what 'own' and 'put' leave of a block that others share -/
def Left (sb sb' cnt : Nat) (t : Str) (w w' : World) : Prop :=
  (cnt = 1 ∧ sb' = sb) ∨ (1 < cnt ∧ w.heap.size ≤ sb' ∧ w'.heap[sb]? = some (.cells #[.string ⟨t.toArray⟩, .bool true, .int .i64 ((cnt - 1 : Nat) : Int)] 94 (0, 0)))
set_option maxRecDepth 100000 in
set_option maxHeartbeats 1000000 in
theorem own_fn {vb sb : Nat} {w : World} {fv : Value} {t : Str} {cnt : Nat} {f : Fc} (h : ValAt vb sb w fv t true cnt f) (hml : ML w) (h1 : 1 ≤ cnt) (hc : cnt ≤ 1000000) :
    Calls Tryz.prog 126 #[.pointer (some ⟨vb, 0, none⟩)] w fun e w' => e = .returned (.tuple #[]) ∧ Only [vb, sb] w w' ∧ ∃ sb', ValAt vb sb' w' fv t true 1 f ∧ Left sb sb' cnt t w w' := by
  have c0 : w.cell? ⟨vb, 0, none⟩ = some (.pointer (some ⟨sb, 0, none⟩)) := by rw [Lib.cell_of_heap h.val]; rfl
  have b2 : w.cell? ⟨sb, 2, none⟩ = some (.int .i64 (cnt : Nat)) := by rw [Lib.cell_of_heap h.shr]; rfl
  have H := hid h
  have HT := hid (text_fn h hml)
  have hne := h.ne
  clear h
  by_cases hc1 : cnt = 1
  · subst hc1
    have hle : ¬ (((1 : Nat) : Int) > 1) := by omega
    go_enter Tryz.func126, Tryz.ntmps126
    go_wp2
    go_end0
    exact ⟨rfl, Only.refl _ _, sb, H.out, .inl ⟨rfl, rfl⟩⟩
  · have hgt : (cnt : Int) > 1 := by omega
    have HC1 := hid hc1
    clear hc1
    go_enter Tryz.func126, Tryz.ntmps126
    go_wp2_with fail
    (with_reducible refine HT.out.mono ?_); rintro e w1 ⟨rfl, ho1, hv1⟩
    have d0 : w1.cell? ⟨vb, 0, none⟩ = some (.pointer (some ⟨sb, 0, none⟩)) := by rw [Lib.cell_of_heap hv1.val]; rfl
    have d2 : w1.cell? ⟨sb, 2, none⟩ = some (.int .i64 (cnt : Nat)) := by rw [Lib.cell_of_heap hv1.shr]; rfl
    have f2 : w1.frozen? ⟨sb, 2, none⟩ = false := Lib.frozen_of_heap hv1.shr 2
    have hn1 : ((cnt : Int) - 1) = ((cnt - 1 : Nat) : Int) := by omega
    obtain ⟨w2, hw2⟩ : ∃ w2, w2 = w1.setCell ⟨sb, 2, none⟩ (.int .i64 ((cnt : Nat) - 1)) := ⟨_, rfl⟩
    have hs2 : w2.heap[sb]? = some (.cells #[.string ⟨t.toArray⟩, .bool true, .int .i64 ((cnt - 1 : Nat) : Int)] 94 (0, 0)) := by rw [hw2, hn1]; simp [World.setCell, Array.getElem?_modify, hv1.shr]
    have hv2 : w2.heap[vb]? = some (.cells #[.pointer (some ⟨sb, 0, none⟩), fv] 88 (0, 0)) := by rw [hw2]; exact (Below.heap_setCell _ _ _ _ (by show vb ≠ sb; exact hne)).trans hv1.val
    have ho2 : Only [sb] w1 w2 := by rw [hw2]; exact Only.set (by simp) _
    have e0 : w2.cell? ⟨vb, 0, none⟩ = some (.pointer (some ⟨sb, 0, none⟩)) := by rw [Lib.cell_of_heap hv2]; rfl
    obtain ⟨w3, hw3⟩ : ∃ w3, w3 = w2.alloc (.cells #[.string ⟨t.toArray⟩, .bool true, .int .i64 1] 94) := ⟨_, rfl⟩
    have hb3 : Below w2.heap.size w2 w3 := by rw [hw3]; exact belowA _ _
    have hn3 : w3.heap[w2.heap.size]? = some (.cells #[.string ⟨t.toArray⟩, .bool true, .int .i64 1] 94 (0, 0)) := by rw [hw3]; exact heap_alloc_new _ _
    have hs3 := (hb3.block sb (Array.getElem?_eq_some_iff.1 hs2).1).trans hs2
    have hv3 := (hb3.block vb (Array.getElem?_eq_some_iff.1 hv2).1).trans hv2
    have e3 : w3.cell? ⟨vb, 0, none⟩ = some (.pointer (some ⟨sb, 0, none⟩)) := by rw [Lib.cell_of_heap hv3]; rfl
    have f3 : w3.frozen? ⟨vb, 0, none⟩ = false := Lib.frozen_of_heap hv3 0
    obtain ⟨w4, hw4⟩ : ∃ w4, w4 = w3.setCell ⟨vb, 0, none⟩ (.pointer (some ⟨w2.heap.size, 0, none⟩)) := ⟨_, rfl⟩
    have hlt : vb < w2.heap.size := (Array.getElem?_eq_some_iff.1 hv2).1
    have hv4 : w4.heap[vb]? = some (.cells #[.pointer (some ⟨w2.heap.size, 0, none⟩), fv] 88 (0, 0)) := by rw [hw4]; simp [World.setCell, Array.getElem?_modify, hv3]
    have hs4 : w4.heap[sb]? = some (.cells #[.string ⟨t.toArray⟩, .bool true, .int .i64 ((cnt - 1 : Nat) : Int)] 94 (0, 0)) := by rw [hw4]; exact (Below.heap_setCell _ _ _ _ (by show sb ≠ vb; exact Ne.symm hne)).trans hs3
    have hn4 : w4.heap[w2.heap.size]? = some (.cells #[.string ⟨t.toArray⟩, .bool true, .int .i64 1] 94 (0, 0)) := by rw [hw4]; exact (Below.heap_setCell _ _ _ _ (by show w2.heap.size ≠ vb; omega)).trans hn3
    have ho4 : Only [vb, sb] w w4 := by
      rw [hw4]
      exact ((ho1.more (by simp)).trans ((ho2.more (by simp)).trans (Only.of hb3 _))).trans (Only.set (by simp) _)
    have hz : w.heap.size ≤ w2.heap.size := Nat.le_trans ho1.size ho2.size
    have hface : FaceIs w4 fv f := FaceIs.keep H.out.face fun k cur hc => ho4.cells hc (by
      have x1 := kinds_ne hc H.out.val (by decide)
      have x2 := kinds_ne hc H.out.shr (by decide)
      simp [x1, x2])
    have HV4 := hid (show ValAt vb w2.heap.size w4 fv t true 1 f from ⟨hn4, hv4, hface, fun h => by cases h⟩)
    have HO4 := hid ho4
    have HS4 := hid hs4
    have hz21 : w2.heap.size = w1.heap.size := by rw [hw2]; simp [World.setCell]
    rw [hz21] at hw4
    clear hz21
    rw [hw2] at e0
    rw [hw3, hw2] at f3 e3
    have HW2 := hid hw2
    have HW3 := hid hw3
    have HW4 := hid hw4
    clear ho1 hv1 hn1 hw2 hs2 hv2 ho2 hw3 hb3 hn3 hs3 hv3 hw4 hv4 hs4 hn4 ho4 hface
    go_wp2
    rw [← HW2.out, ← HW3.out, ← HW4.out]
    go_end0
    exact ⟨rfl, HO4.out, _, HV4.out, .inr ⟨by have := HC1.out; omega, hz, HS4.out⟩⟩
end Go.Proofs.YtabhkoklcjhlpaaGreatDoor.Pz
