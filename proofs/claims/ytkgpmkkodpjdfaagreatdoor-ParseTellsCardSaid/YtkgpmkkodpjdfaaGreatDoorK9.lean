/-
  Part K9 of the proofs of this seat: contracts of functions and plain facts, merged from 1 texts.
-/
import Derived.Test.YtkgpmkkodpjdfaaGreatDoorK0
import Derived.Test.YtkgpmkkodpjdfaaGreatDoorK1
import Derived.Test.YtkgpmkkodpjdfaaGreatDoorK2
import Derived.Test.YtkgpmkkodpjdfaaGreatDoorK3
import Derived.Test.YtkgpmkkodpjdfaaGreatDoorK4
import Derived.Test.YtkgpmkkodpjdfaaGreatDoorK5
import Derived.Test.YtkgpmkkodpjdfaaGreatDoorK6
import Derived.Test.YtkgpmkkodpjdfaaGreatDoorK7
import Derived.Test.YtkgpmkkodpjdfaaGreatDoorK8
/-
  The reference 06: parts (quote).
-/
namespace Go.Proofs.YtkgpmkkodpjdfaaGreatDoor.Pz
open Go.RowKit
set_option maxRecDepth 100000 in
set_option maxHeartbeats 40000000 in
theorem partsR_quote {g : Told} {d : Nat} {l : Str} (ihv : ∀ l', l'.length < l.length → VarRC g d l') (ihs : ∀ l', l'.length < l.length → ScriptRC d l') : PartsRC .quote g d l := by
  intro w rb s i nb hs hd h ha hnb
  obtain ⟨i0, hi0, hz0, hz1, hz2⟩ := info_parts Tryz.infoTok
  have hrb0 := h.lt
  have h0 : QInv .quote g d s l rb w.heap.size w (w.alloc (.cells #[.int .i64 0, .int .i64 0, .bool false] 63)) l i (.slice none 0 0) [] [] :=
    ⟨h.below ((Below.refl _ _).alloc (Nat.le_refl _) _), ha, heap_alloc_new _ _, OutIs.nil _ _, .inl rfl, (But.refl rb _ w).alloc (Nat.le_refl _) _, acc_nil _, by simp⟩
  obtain ⟨R, hR⟩ : ∃ R, R = parts .quote g d l := ⟨_, rfl⟩
  show Calls Tryz.prog 33 #[.pointer (some ⟨rb, 0, none⟩), .int .i64 (i : Nat), .int .u8 34, .bool nb] w (PartsRP .quote rb s d g w (parts .quote g d l))
  rw [← hR]
  have HR := hid hR
  have H0 := hid h0
  have IV := hid ihv
  have IS := hid ihs
  obtain ⟨N, hN⟩ : ∃ N, N = w.heap.size := ⟨_, rfl⟩
  rw [← hN] at hrb0 H0
  have HN := hid hN
  have hll : l.length ≤ s.length := by have := ha.len; omega
  clear hR h0 ihv ihs h ha hnb
  go_enter Tryz.func33, Tryz.ntmps33
  go_wp2_with fail
  rw [← hN]
  clear hN
  generalize w.alloc (.cells #[.int .i64 0, .int .i64 0, .bool false] 63) = w1 at *
  go_loopg [1, 11] l.length (fun k iv ov wr => ∃ (l' : Str) (i' : Nat) (ts : List Tok) (p : Str), iv = .int .i64 (i' : Nat) ∧ QInv .quote g d s l rb N w wr l' i' ov ts p ∧ k = l'.length)
  case atStart => exact ⟨l, i, [], [], rfl, H0.out, rfl⟩
  case round =>
    obtain ⟨l', i', ts, p, rfl, hI, rfl⟩ := hrel
    clear H0
    have hrb : rb < N := hrb0
    have hsz : (⟨s.toArray⟩ : ByteArray).size = s.length := Lib.size_mk _
    have hlen := hI.here.len
    have hsm := hI.small
    obtain ⟨c0, c1, c2, c3, c4⟩ := hI.rd.cells
    have hltN := hI.ltN
    cases l' with
    | nil =>
      have hge : s.length ≤ i' := hI.here.nil_iff.1 rfl
      have hend : (.quote : Upto).ends [] = true := ends_nil _
      have hdone := hI.done hend
      have HTK := hid hI.toks
      have HBU := hid hI.but
      have hfn := hid (fine_fn wr)
      obtain ⟨r0, r1, r2⟩ := flt_cells hI.flt
      clear hend
      go_wp2_with fail
      (with_reducible refine hfn.out.mono ?_); rintro e W ⟨rfl, hW⟩
      have hbW : Below wr.heap.size wr W := by rw [hW]; exact (Below.refl _ _).alloc (Nat.le_refl _) _
      have hIW := hI.below hrb hbW
      obtain ⟨x0, x1, x2⟩ := flt_cells hIW.flt
      have y0 := Lib.frozen_of_heap hIW.flt 0
      have y1 := Lib.frozen_of_heap hIW.flt 1
      have y2 := Lib.frozen_of_heap hIW.flt 2
      have HIW := hid hIW
      clear hW hbW hI hIW
      go_wp2
      have hfin := set3 HIW.out.flt (.int .i64 0) (.int .i64 0) (.bool false)
      refine bodyPost_ret (results_ttc rfl _ rfl hfin Tryz.underlying63 rfl Tryz.infoF) rfl ?_
      rw [HR.out, hdone]
      unfold PartsRP
      dsimp only
      rw [← HN.out]
      exact ⟨_, ret_vif (rfl), set_rd hrb HIW.out.rd, set_toks HIW.out.toks HIW.out.flt, set_but HIW.out.but⟩
    | cons c t =>
      have hlt := hI.here.lt
      have hx := hI.here.byte
      have hex := hI.here.all
      have hdl : decide (s.length ≤ i') = false := by rw [decide_eq_false]; omega
      have hex1 : (⟨s.toArray⟩ : ByteArray).extract i' (i' + 1) = ⟨[c].toArray⟩ := At.text (x := [c]) hI.here
      simp only [List.length_cons] at hlen hsm
      by_cases hce : c = 34
      · subst hce
        have hend : (.quote : Upto).ends (34 :: t) = true := rfl
        have hdone := hI.done hend
        have HTK := hid hI.toks
        have HBU := hid hI.but
        have hfn := hid (fine_fn wr)
        obtain ⟨r0, r1, r2⟩ := flt_cells hI.flt
        clear hend
        go_wp2_with fail
        (with_reducible refine hfn.out.mono ?_); rintro e W ⟨rfl, hW⟩
        have hbW : Below wr.heap.size wr W := by rw [hW]; exact (Below.refl _ _).alloc (Nat.le_refl _) _
        have hIW := hI.below hrb hbW
        obtain ⟨x0, x1, x2⟩ := flt_cells hIW.flt
        have y0 := Lib.frozen_of_heap hIW.flt 0
        have y1 := Lib.frozen_of_heap hIW.flt 1
        have y2 := Lib.frozen_of_heap hIW.flt 2
        have HIW := hid hIW
        clear hW hbW hI hIW
        go_wp2
        have hfin := set3 HIW.out.flt (.int .i64 0) (.int .i64 0) (.bool false)
        refine bodyPost_ret (results_ttc rfl _ rfl hfin Tryz.underlying63 rfl Tryz.infoF) rfl ?_
        rw [HR.out, hdone]
        unfold PartsRP
        dsimp only
        rw [← HN.out]
        exact ⟨_, ret_vif (by show (i' : Int) = ((s.length - (t.length + 1) : Nat) : Int); omega), set_rd hrb HIW.out.rd, set_toks HIW.out.toks HIW.out.flt, set_but HIW.out.but⟩
      · have hend : (.quote : Upto).ends (c :: t) = false := by
          show (c == 34) = false
          simpa using hce
        have nce := byte_ne 34 hce rfl
        by_cases h92 : c = 92
        · subst h92
          cases hgs : g.slashes with
          | true =>
            rw [hgs] at c2
            have hu := unescR_fn t (by omega) wr
            have hq1 := unesc_one t
            have hqs := unesc_suf t
            have hres : parts .quote g d (92 :: t) = (parts .quote g d (unesc t).2).glue (unesc t).1 := by rw [parts_cons hend, if_pos (by rw [hgs]; rfl)]
            have hat := hI.here.suf (hqs.trans (suf_tail 92 t))
            obtain ⟨q, r, hqr⟩ : ∃ q r, unesc t = (q, r) := ⟨_, _, rfl⟩
            rw [hqr] at hu hq1 hqs hres hat
            dsimp only at hu hq1 hqs hres hat
            have hrl := hqs.length_le
            have hne : q ≠ [] := by rintro rfl; simp at hq1
            have HU := hid hu
            have HQ1 := hid hq1
            have HRES := hid hres
            have HAT := hid hat
            have HI := hid hI
            clear hu hres hat hqr hqs hI hq1
            go_wp2_with fail
            (with_reducible refine HU.out.mono ?_); rintro e W1 ⟨rfl, hb1⟩
            have hI1 := HI.out.below hrb hb1
            have hql := HQ1.out
            have hadd := hid (addR_fn hne hI1.last hI1.out (Nat.le_of_lt hI1.ltN) (by omega) (by omega) (by omega))
            have HI1 := hid hI1
            clear hI1 hb1 hql
            go_wp2_with fail
            (with_reducible refine hadd.out.mono ?_); rintro e W2 ⟨v', rfl, ho, hg2⟩
            have hI2 := hid (HI1.out.text hrb ho hg2 HAT.out hne HRES.out (by rw [HQ1.out]; simp; omega))
            clear hadd ho hg2
            go_wp2
            go_roundg r.length
            case measure => simp; omega
            case rel => exact ⟨r, s.length - r.length, ts, p ++ q, by rw [Value.int.injEq]; exact ⟨rfl, by omega⟩, hI2.out, rfl⟩
          | false =>
            rw [hgs] at c2
            have hres : parts .quote g d (92 :: t) = (parts .quote g d t).glue [92] := by rw [parts_cons hend]; simp [*]
            have hadd := hid (addR_fn (q := [92]) (by simp) hI.last hI.out (Nat.le_of_lt hltN) (by omega) (by omega) (by simp))
            have HRES := hid hres
            have HI := hid hI
            clear hres hI
            go_wp2_with fail
            (with_reducible refine hadd.out.mono ?_); rintro e W2 ⟨v', rfl, ho, hg2⟩
            have hI2 := hid (HI.out.text hrb ho hg2 HI.out.here.tail (by simp) HRES.out (by simp; omega))
            clear hadd ho hg2
            go_wp2
            go_roundg t.length
            case measure => simp
            case rel => exact ⟨t, i' + 1, ts, p ++ [92], by go_num, hI2.out, rfl⟩
        · have n92 := byte_ne 92 h92 rfl
          by_cases h36 : c = 36
          · subst h36
            cases hgv : g.vars with
            | true =>
              rw [hgv] at c3
              have hv := IV.out t (by omega) wr rb s i' hs hd hI.rd hI.here
              have hres := parts_cons hend g d
              rw [if_neg (by simp), if_pos (by rw [hgv]; rfl)] at hres
              have hvk := fun x r => var_kind (g := g) (d := d) (l := t) (x := x) (r := r)
              have hvs := fun x r => (var_ok g d t x r)
              have HI := hid hI
              clear hI
              cases hvo : varOf g d t with
              | halt hh =>
                rw [hvo] at hv hres
                dsimp only at hres
                have HRES := hid hres
                have HV := hid hv
                clear hres hv hvk hvs hvo
                have hR2 : R = .halt hh := by rw [HR.out, ← HI.out.res, HRES.out]; rfl
                have HR2 := hid hR2
                clear hR2
                obtain ⟨E, A, O, hfc, hE0, hE8, hE1⟩ := faultC_shape s hh
                have hv2 : Calls Tryz.prog 38 #[.pointer (some ⟨rb, 0, none⟩), .int .i64 (i' : Nat)] wr fun e w' => e = .returned (.tuple #[.agg #[.int .i64 0, .string ⟨#[]⟩, .bool false, .slice none 0 0], .int .i64 0, .agg (faultC s hh)]) ∧ RrHalt w' rb s d g ∧ But rb wr.heap.size wr w' := HV.out
                rw [hfc] at hv2
                have HV2 := hid hv2
                clear HV hv2
                go_wp2_with fail
                (with_reducible refine HV2.out.mono ?_); rintro e W1 ⟨rfl, hrh, hbut⟩
                have hb3 := below2 W1 (.cells #[.int .i64 0, .string ⟨#[]⟩, .bool false, .slice none 0 0] 33) (.cells #[.int .i64 E, .int .i64 A, .bool O] 63)
                have hfl : ((W1.alloc (.cells #[.int .i64 0, .string ⟨#[]⟩, .bool false, .slice none 0 0] 33)).alloc (.cells #[.int .i64 E, .int .i64 A, .bool O] 63)).heap[N]? = some (.cells #[.int .i64 0, .int .i64 0, .bool false] 63 (0, 0)) := (hb3.block N (by have := hbut.size; omega)).trans ((hbut.block N hltN (by omega)).trans HI.out.flt)
                obtain ⟨x0, x1, x2⟩ := flt_cells hfl
                have y0 := Lib.frozen_of_heap hfl 0
                have y1 := Lib.frozen_of_heap hfl 1
                have y2 := Lib.frozen_of_heap hfl 2
                have HFL := hid hfl
                have HRH := hid (hrh.below hb3)
                have HBU := hid (HI.out.but.trans ((hbut.trans (but_of_below (hb3.mono hbut.size) rb)).mono (Nat.le_of_lt hltN)))
                clear hrh hb3 hbut hfl
                go_wp2
                go_region
                go_wp2
                refine bodyPost_ret (results_ttc rfl _ rfl (set3 HFL.out _ _ _) Tryz.underlying63 rfl Tryz.infoF) rfl ?_
                rw [HR2.out]
                unfold PartsRP
                dsimp only
                rw [← HN.out, hfc]
                exact ⟨rfl, set_halt hrb HRH.out, (set_but HBU.out).drew⟩
              | ok x r =>
                cases x with
                | none =>
                  rw [hvo] at hv hres
                  dsimp only at hres
                  have HRES := hid hres
                  have HV := hid hv
                  clear hres hv hvk hvs hvo
                  go_wp2_with fail
                  (with_reducible refine HV.out.mono ?_); rintro e W1 ⟨rfl, hrd1, hbut⟩
                  have hI1 := (HI.out.call hrb hbut hrd1).below hrb (below2 W1 (.cells #[.int .i64 0, .string ⟨#[]⟩, .bool false, .slice none 0 0] 33) (.cells #[.int .i64 8, .int .i64 0, .bool false] 63))
                  have hadd := hid (addR_fn (q := [36]) (by simp) hI1.last hI1.out (Nat.le_of_lt hI1.ltN) (by omega) (by omega) (by simp))
                  have HI1 := hid hI1
                  clear hI1 hbut hrd1
                  go_wp2_with fail
                  (with_reducible refine hadd.out.mono ?_); rintro e W2 ⟨v', rfl, ho, hg2⟩
                  have hI2 := hid (HI1.out.text hrb ho hg2 HI1.out.here.tail (by simp) HRES.out (by simp; omega))
                  clear hadd ho hg2
                  go_wp2
                  go_roundg t.length
                  case measure => simp
                  case rel => exact ⟨t, i' + 1, ts, p ++ [36], by go_num, hI2.out, rfl⟩
                | some x =>
                  have hkk := hvk x r hvo
                  have hsf := (hvs _ _ hvo).1
                  obtain ⟨k, x, h, ix⟩ := x
                  rw [hvo] at hv hres
                  dsimp only at hres
                  have HRES := hid hres
                  have HV := hid hv
                  have HKK := hid hkk
                  have HSF := hid hsf
                  have hrl := hsf.length_le
                  clear hres hv hvk hvs hvo hkk hsf
                  go_wp2_with fail
                  (with_reducible refine HV.out.mono ?_); rintro e W1 ⟨iv, rfl, hrd1, htk, hbut⟩
                  obtain ⟨ia, ic, rfl⟩ : ∃ a c, iv = .slice a ix.length c := by
                    obtain ⟨a, cap, hv, _⟩ := RowIs.cell htk
                    exact ⟨a, cap, hv⟩
                  have hb2 := below2 W1 (.cells #[.int .i64 (k : Nat), .string ⟨x.toArray⟩, .bool h, .slice ia ix.length ic] 33) (.cells #[.int .i64 0, .int .i64 0, .bool false] 63)
                  have hI1 := HI.out.call hrb hbut hrd1
                  have hI2 := hI1.below hrb hb2
                  obtain ⟨css, hrow, hrbk, hcl, hel⟩ := hI2.out.row
                  obtain ⟨TS, hTS⟩ : ∃ TS, TS = ts ++ flush p := ⟨_, rfl⟩
                  have hr3 : (((W1.alloc (.cells #[.int .i64 (k : Nat), .string ⟨x.toArray⟩, .bool h, .slice ia ix.length ic] 33)).alloc (.cells #[.int .i64 0, .int .i64 0, .bool false] 63)).alloc (.cells #[.int .i64 (k : Nat), .string ⟨x.toArray⟩, .bool h, .slice ia ix.length ic] 33)).ownsRow 0 33 4 u11 TS.length css.flatten := by rw [hTS]; exact hrow.alloc _
                  have hnew : (((W1.alloc (.cells #[.int .i64 (k : Nat), .string ⟨x.toArray⟩, .bool h, .slice ia ix.length ic] 33)).alloc (.cells #[.int .i64 0, .int .i64 0, .bool false] 63)).alloc (.cells #[.int .i64 (k : Nat), .string ⟨x.toArray⟩, .bool h, .slice ia ix.length ic] 33)).heap[W1.heap.size + 1 + 1]? = some (.cells #[.int .i64 (k : Nat), .string ⟨x.toArray⟩, .bool h, .slice ia ix.length ic] 33) := (new3 W1 _ _ _).2.2
                  have hszW : ((W1.alloc (.cells #[.int .i64 (k : Nat), .string ⟨x.toArray⟩, .bool h, .slice ia ix.length ic] 33)).alloc (.cells #[.int .i64 0, .int .i64 0, .bool false] 63)).heap.size = W1.heap.size + 1 + 1 := by simp
                  have hsz3 : (((W1.alloc (.cells #[.int .i64 (k : Nat), .string ⟨x.toArray⟩, .bool h, .slice ia ix.length ic] 33)).alloc (.cells #[.int .i64 0, .int .i64 0, .bool false] 63)).alloc (.cells #[.int .i64 (k : Nat), .string ⟨x.toArray⟩, .bool h, .slice ia ix.length ic] 33)).heap.size = W1.heap.size + 1 + 1 + 1 := by simp
                  have hw0 : wr.heap.size ≤ ((W1.alloc (.cells #[.int .i64 (k : Nat), .string ⟨x.toArray⟩, .bool h, .slice ia ix.length ic] 33)).alloc (.cells #[.int .i64 0, .int .i64 0, .bool false] 63)).heap.size := by have h1 := hbut.size; have h2 := hb2.size; omega
                  have hfl := flush_le1 p
                  have htk2 := (htk.fwd hb2)
                  have fin : ∀ gg cap' W4, World.ownsRow W4 0 33 4 (.slice (some ⟨gg, 0, none⟩) (TS.length + 1) cap') (TS.length + 1) (css.flatten ++ [.int .i64 (k : Nat), .string ⟨x.toArray⟩, .bool h, .slice ia ix.length ic]) → World.grownBy (((W1.alloc (.cells #[.int .i64 (k : Nat), .string ⟨x.toArray⟩, .bool h, .slice ia ix.length ic] 33)).alloc (.cells #[.int .i64 0, .int .i64 0, .bool false] 63)).alloc (.cells #[.int .i64 (k : Nat), .string ⟨x.toArray⟩, .bool h, .slice ia ix.length ic] 33)) W4 u11.ownBlock → (u11.ownBlock = some gg ∨ gg = W1.heap.size + 1 + 1 + 1) → QInv .quote g d s l rb N w W4 r (s.length - r.length) (.slice (some ⟨gg, 0, none⟩) (TS.length + 1) cap') (TS ++ [.mk k x h ix]) [] := by
                    intro gg cap' W4 h1 h2 h3
                    subst hTS
                    exact HI.out.append hI2 hrb (by have h0 : k = 2 := HKK.out; omega) hw0 htk2 hrow hcl hel h1 h2 (by rw [hszW]; exact h3) (HI.out.here.suf (HSF.out.trans (suf_tail 36 t))) HRES.out (by simp only [List.length_cons]; omega)
                  have hln : TS.length ≤ 1000000 := by rw [hTS, List.length_append]; omega
                  clear hTS
                  have HF := hid fin
                  have HR3 := hid hr3
                  clear fin hI1 hI2 hrow hrbk hcl hel hw0 htk2 hszW htk hbut hrd1 hb2 hr3
                  go_wp2_with (at_builtin; refine wpList_append_lies _ rfl (.tmp 135) (.tmp 137) 25 rfl 0 33 i0 (.agg #[.int .i64 0, .string ⟨#[]⟩, .bool false, .slice none 0 0]) 4 56 Tryz.underlying25 hi0 hz0 hz1 hz2 rfl (by decide) _ TS.length css.flatten (by rfl) HR3.out ⟨W1.heap.size + 1 + 1, 0, none⟩ 1 1 [.int .i64 (k : Nat), .string ⟨x.toArray⟩, .bool h, .slice ia ix.length ic] (by rfl) rfl (World.news_of_block hnew) (by intro u hu; simp at hu; rcases hu with rfl | rfl | rfl | rfl <;> rfl) (by decide) (by unfold maxLen; omega) (by omega) (Nat.zero_le _) (W1.heap.size + 1 + 1 + 1) hsz3 ?_)
                  intro gg cap' W4 h1 h2 h3 _
                  have hX := hid (HF.out gg cap' W4 h1 h2 h3)
                  clear h1 h2 h3 HF HR3 hnew hsz3
                  go_wp2
                  go_roundg r.length
                  case measure => simp; omega
                  case rel => exact ⟨r, s.length - r.length, _, [], rfl, hX.out, rfl⟩
            | false =>
              rw [hgv] at c3
              have hres : parts .quote g d (36 :: t) = (parts .quote g d t).glue [36] := by rw [parts_cons hend]; simp [*]
              have hadd := hid (addR_fn (q := [36]) (by simp) hI.last hI.out (Nat.le_of_lt hltN) (by omega) (by omega) (by simp))
              have HRES := hid hres
              have HI := hid hI
              clear hres hI
              go_wp2_with fail
              (with_reducible refine hadd.out.mono ?_); rintro e W2 ⟨v', rfl, ho, hg2⟩
              have hI2 := hid (HI.out.text hrb ho hg2 HI.out.here.tail (by simp) HRES.out (by simp; omega))
              clear hadd ho hg2
              go_wp2
              go_roundg t.length
              case measure => simp
              case rel => exact ⟨t, i' + 1, ts, p ++ [36], by go_num, hI2.out, rfl⟩
          · have n36 := byte_ne 36 h36 rfl
            by_cases h91 : c = 91
            · subst h91
              cases hgc : g.scripts with
              | true =>
                rw [hgc] at c4
                have hv := IS.out t (by omega) wr rb s i' g hs hd hI.rd hI.here
                have hres := parts_cons hend g d
                rw [if_neg (by simp), if_neg (by simp), if_pos (by rw [hgc]; rfl)] at hres
                have HI := hid hI
                clear hI
                cases hso : script d t with
                | halt hh =>
                  rw [hso] at hv hres
                  dsimp only at hres
                  have HRES := hid hres
                  have hv1 : Calls Tryz.prog 65 #[.pointer (some ⟨rb, 0, none⟩), .int .i64 (i' : Nat)] wr fun e w' => (∃ z, e = .returned (.tuple #[.int .i64 z, .agg (faultC s hh)])) ∧ RrHalt w' rb s d g ∧ But rb wr.heap.size wr w' := hv
                  clear hres hv hso
                  have hR2 : R = .halt hh := by rw [HR.out, ← HI.out.res, HRES.out]; rfl
                  have HR2 := hid hR2
                  clear hR2
                  obtain ⟨E, A, O, hfc, hE0, hE8, hE1⟩ := faultC_shape s hh
                  rw [hfc] at hv1
                  have HV2 := hid hv1
                  clear hv1
                  go_wp2_with fail
                  (with_reducible refine HV2.out.mono ?_); rintro e W1 ⟨⟨z, rfl⟩, hrh, hbut⟩
                  have hb3 := below1 W1 (.cells #[.int .i64 E, .int .i64 A, .bool O] 63)
                  have hfl : (W1.alloc (.cells #[.int .i64 E, .int .i64 A, .bool O] 63)).heap[N]? = some (.cells #[.int .i64 0, .int .i64 0, .bool false] 63 (0, 0)) := (hb3.block N (by have := hbut.size; omega)).trans ((hbut.block N hltN (by omega)).trans HI.out.flt)
                  obtain ⟨x0, x1, x2⟩ := flt_cells hfl
                  have y0 := Lib.frozen_of_heap hfl 0
                  have y1 := Lib.frozen_of_heap hfl 1
                  have y2 := Lib.frozen_of_heap hfl 2
                  have HFL := hid hfl
                  have HRH := hid (hrh.below hb3)
                  have HBU := hid (HI.out.but.trans ((hbut.trans (but_of_below (hb3.mono hbut.size) rb)).mono (Nat.le_of_lt hltN)))
                  clear hrh hb3 hbut hfl
                  go_wp2
                  go_region
                  go_wp2
                  refine bodyPost_ret (results_ttc rfl _ rfl (set3 HFL.out _ _ _) Tryz.underlying63 rfl Tryz.infoF) rfl ?_
                  rw [HR2.out]
                  unfold PartsRP
                  dsimp only
                  rw [← HN.out, hfc]
                  exact ⟨rfl, set_halt hrb HRH.out, (set_but HBU.out).drew⟩
                | ok x r =>
                  have htx := script_ok d t x r hso
                  rw [hso] at hv hres
                  dsimp only at hres
                  have htl : t.length = x.length + 1 + r.length := by rw [htx]; simp; omega
                  have hEnd : s.length - r.length - 1 = i' + 1 + x.length := by omega
                  have hext : (⟨s.toArray⟩ : ByteArray).extract (i' + 1) (i' + 1 + x.length) = ⟨x.toArray⟩ := by
                    have h1 := HI.out.here.tail
                    rw [htx] at h1
                    exact h1.text
                  have hatr : At s r (i' + 1 + x.length + 1) := by
                    have h1 := HI.out.here.tail
                    rw [htx] at h1
                    exact h1.app.tail
                  have hv1 : Calls Tryz.prog 65 #[.pointer (some ⟨rb, 0, none⟩), .int .i64 (i' : Nat)] wr fun e w' => e = .returned (.tuple #[.int .i64 ((s.length - r.length - 1 : Nat) : Int), .agg #[.int .i64 0, .int .i64 0, .bool false]]) ∧ RrAt w' rb s d g ∧ But rb wr.heap.size wr w' := hv
                  rw [hEnd] at hv1
                  have HRES := hid hres
                  have HV2 := hid hv1
                  have HAT := hid hatr
                  clear hv hv1 hres htx hEnd hatr hso
                  go_wp2_with fail
                  (with_reducible refine HV2.out.mono ?_); rintro e W1 ⟨rfl, hrd1, hbut⟩
                  have htk : ToksIs 33 W1 (New wr.heap.size) (.slice none 0 0) [] := RowIs.nil
                  have hb2 := below1 W1 (.cells #[.int .i64 0, .int .i64 0, .bool false] 63)
                  have d0 := (hrd1.below hb2).cells.1
                  have hI1 := HI.out.call hrb hbut hrd1
                  have hI2 := hI1.below hrb hb2
                  obtain ⟨css, hrow, hrbk, hcl, hel⟩ := hI2.out.row
                  obtain ⟨TS, hTS⟩ : ∃ TS, TS = ts ++ flush p := ⟨_, rfl⟩
                  have hr3 : ((W1.alloc (.cells #[.int .i64 0, .int .i64 0, .bool false] 63)).alloc (.cells #[.int .i64 3, .string ⟨x.toArray⟩, .bool false, .slice none 0 0] 33)).ownsRow 0 33 4 u11 TS.length css.flatten := by rw [hTS]; exact hrow.alloc _
                  have hnew : ((W1.alloc (.cells #[.int .i64 0, .int .i64 0, .bool false] 63)).alloc (.cells #[.int .i64 3, .string ⟨x.toArray⟩, .bool false, .slice none 0 0] 33)).heap[W1.heap.size + 1]? = some (.cells #[.int .i64 3, .string ⟨x.toArray⟩, .bool false, .slice none 0 0] 33) := (new2 W1 _ _).2
                  have hszW : (W1.alloc (.cells #[.int .i64 0, .int .i64 0, .bool false] 63)).heap.size = W1.heap.size + 1 := by simp
                  have hsz3 : ((W1.alloc (.cells #[.int .i64 0, .int .i64 0, .bool false] 63)).alloc (.cells #[.int .i64 3, .string ⟨x.toArray⟩, .bool false, .slice none 0 0] 33)).heap.size = W1.heap.size + 1 + 1 := by simp
                  have hw0 : wr.heap.size ≤ (W1.alloc (.cells #[.int .i64 0, .int .i64 0, .bool false] 63)).heap.size := by have h1 := hbut.size; have h2 := hb2.size; omega
                  have hfl := flush_le1 p
                  have htk2 := (htk.fwd hb2)
                  have fin : ∀ gg cap' W4, World.ownsRow W4 0 33 4 (.slice (some ⟨gg, 0, none⟩) (TS.length + 1) cap') (TS.length + 1) (css.flatten ++ [.int .i64 3, .string ⟨x.toArray⟩, .bool false, .slice none 0 0]) → World.grownBy ((W1.alloc (.cells #[.int .i64 0, .int .i64 0, .bool false] 63)).alloc (.cells #[.int .i64 3, .string ⟨x.toArray⟩, .bool false, .slice none 0 0] 33)) W4 u11.ownBlock → (u11.ownBlock = some gg ∨ gg = W1.heap.size + 1 + 1) → QInv .quote g d s l rb N w W4 r (i' + 1 + x.length + 1) (.slice (some ⟨gg, 0, none⟩) (TS.length + 1) cap') (TS ++ [.mk 3 x false []]) [] := by
                    intro gg cap' W4 h1 h2 h3
                    subst hTS
                    exact HI.out.append hI2 hrb (by decide) hw0 htk2 hrow hcl hel h1 h2 (by rw [hszW]; exact h3) (HAT.out) HRES.out (by simp only [List.length_cons]; omega)
                  have hln : TS.length ≤ 1000000 := by rw [hTS, List.length_append]; omega
                  clear hTS
                  have HF := hid fin
                  have HR3 := hid hr3
                  clear fin hI1 hI2 hrow hrbk hcl hel hw0 htk2 hszW htk hbut hrd1 hb2 hr3
                  go_wp2_with (at_builtin; refine wpList_append_lies _ rfl (.tmp 160) (.tmp 170) 25 rfl 0 33 i0 (.agg #[.int .i64 0, .string ⟨#[]⟩, .bool false, .slice none 0 0]) 4 56 Tryz.underlying25 hi0 hz0 hz1 hz2 rfl (by decide) _ TS.length css.flatten (by rfl) HR3.out ⟨W1.heap.size + 1, 0, none⟩ 1 1 [.int .i64 3, .string ⟨x.toArray⟩, .bool false, .slice none 0 0] (by rfl) rfl (World.news_of_block hnew) (by intro u hu; simp at hu; rcases hu with rfl | rfl | rfl | rfl <;> rfl) (by decide) (by unfold maxLen; omega) (by omega) (Nat.zero_le _) (W1.heap.size + 1 + 1) hsz3 ?_)
                  intro gg cap' W4 h1 h2 h3 _
                  have hX := hid (HF.out gg cap' W4 h1 h2 h3)
                  clear h1 h2 h3 HF HR3 hnew hsz3
                  go_wp2
                  go_roundg r.length
                  case measure => simp; omega
                  case rel => exact ⟨r, i' + 1 + x.length + 1, _, [], by go_num, hX.out, rfl⟩
              | false =>
                rw [hgc] at c4
                have hres : parts .quote g d (91 :: t) = (parts .quote g d t).glue [91] := by rw [parts_cons hend]; simp [*]
                have hadd := hid (addR_fn (q := [91]) (by simp) hI.last hI.out (Nat.le_of_lt hltN) (by omega) (by omega) (by simp))
                have HRES := hid hres
                have HI := hid hI
                clear hres hI
                go_wp2_with fail
                (with_reducible refine hadd.out.mono ?_); rintro e W2 ⟨v', rfl, ho, hg2⟩
                have hI2 := hid (HI.out.text hrb ho hg2 HI.out.here.tail (by simp) HRES.out (by simp; omega))
                clear hadd ho hg2
                go_wp2
                go_roundg t.length
                case measure => simp
                case rel => exact ⟨t, i' + 1, ts, p ++ [91], by go_num, hI2.out, rfl⟩
            · have n91 := byte_ne 91 h91 rfl
              have hres : parts .quote g d (c :: t) = (parts .quote g d t).glue [c] := by rw [parts_cons hend]; simp [*]
              have hadd := hid (addR_fn (q := [c]) (by simp) hI.last hI.out (Nat.le_of_lt hltN) (by omega) (by omega) (by simp))
              have HRES := hid hres
              have HI := hid hI
              clear hres hI
              go_wp2_with fail
              (with_reducible refine hadd.out.mono ?_); rintro e W2 ⟨v', rfl, ho, hg2⟩
              have hI2 := hid (HI.out.text hrb ho hg2 HI.out.here.tail (by simp) HRES.out (by simp; omega))
              clear hadd ho hg2
              go_wp2
              go_roundg t.length
              case measure => simp
              case rel => exact ⟨t, i' + 1, ts, p ++ [c], by go_num, hI2.out, rfl⟩
end Go.Proofs.YtkgpmkkodpjdfaaGreatDoor.Pz
