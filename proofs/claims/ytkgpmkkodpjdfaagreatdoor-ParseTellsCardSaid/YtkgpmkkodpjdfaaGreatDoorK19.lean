/-
  Part K19 of the proofs of this seat: contracts of functions and plain facts, merged from 3 texts.
-/
import Derived.Deep.Cut
import Derived.Test.YtkgpmkkodpjdfaaGreatDoorK18
namespace Go.Proofs.YtkgpmkkodpjdfaaGreatDoor.Pz
open Go.RowKit
theorem wws_mem : ∀ (xs : List Wd) (x : Wd), x ∈ xs → wts x.toks ≤ wws xs
  | [], _, h => by cases h
  | y :: xs, x, h => by
    rw [wws]
    rcases List.mem_cons.1 h with rfl | h
    · omega
    · have := wws_mem xs x h; omega
theorem wcs_mem : ∀ (cs : List Cmd) (c : Cmd), c ∈ cs → wws c.words ≤ wcs cs
  | [], _, h => by cases h
  | y :: cs, c, h => by
    rw [wcs]
    rcases List.mem_cons.1 h with rfl | h
    · omega
    · have := wcs_mem cs c h; omega
theorem scrWs_count : ∀ (xs : List Wd), (scrWs xs).length ≤ wws xs
  | [] => by simp [scrWs]
  | x :: xs => by
    have h1 := scrs_count x.toks
    have h2 := scrWs_count xs
    simp only [scrWs, List.flatMap_cons, List.length_append, wws] at *
    omega
theorem scrCs_count : ∀ (cs : List Cmd), (scrCs cs).length ≤ wcs cs
  | [] => by simp [scrCs]
  | c :: cs => by
    have h1 := scrWs_count c.words
    have h2 := scrCs_count cs
    simp only [scrCs, List.flatMap_cons, List.length_append, wcs] at *
    omega
theorem scrWs_part (xs : List Wd) (i : Nat) : (scrWs (xs.take i)).length ≤ wws xs := by
  have h1 : scrWs xs = scrWs (xs.take i) ++ scrWs (xs.drop i) := by rw [scrWs, scrWs, scrWs, ← List.flatMap_append, List.take_append_drop]
  have h2 := scrWs_count xs
  rw [h1, List.length_append] at h2
  omega
theorem scrCs_part (cs : List Cmd) (i : Nat) : (scrCs (cs.take i)).length ≤ wcs cs := by
  have h1 : scrCs cs = scrCs (cs.take i) ++ scrCs (cs.drop i) := by rw [scrCs, scrCs, scrCs, ← List.flatMap_append, List.take_append_drop]
  have h2 := scrCs_count cs
  rw [h1, List.length_append] at h2
  omega
theorem scrWs_take (xs : List Wd) {i : Nat} (h : i < xs.length) : scrWs (xs.take (i + 1)) = scrWs (xs.take i) ++ scrs xs[i].toks := by
  rw [List.take_succ_eq_append_getElem h, scrWs, scrWs, List.flatMap_append]
  simp
theorem scrCs_take (cs : List Cmd) {i : Nat} (h : i < cs.length) : scrCs (cs.take (i + 1)) = scrCs (cs.take i) ++ scrWs cs[i].words := by
  rw [List.take_succ_eq_append_getElem h, scrCs, scrCs, List.flatMap_append]
  simp
theorem Row.shape {B : Nat} {w : World} {v : Value} {l : List Str} (h : Row B w v l) : ∃ a c, v = .slice a l.length c := by
  rcases h.2 with ⟨rfl, h0⟩ | ⟨g, cap, cur, rfl, _⟩
  · exact ⟨none, 0, by rw [h0]⟩
  · exact ⟨_, _, rfl⟩
theorem Row.at {B : Nat} {w : World} {a : Option Addr} {n c : Nat} {l : List Str} (h : Row B w (.slice a n c) l) {i : Nat} (hi : i < l.length) : ∃ g, a = some ⟨g, 0, none⟩ ∧ n = l.length ∧ w.cell? ⟨g, i, none⟩ = some (.string ⟨l[i].toArray⟩) := by
  rcases h.2 with ⟨_, h0⟩ | ⟨g, cap, cur, e, _⟩
  · omega
  · have hc := World.ownsRow.cells h (show (Value.slice a n c).ownBlock = some g by rw [e]; rfl) i (.string ⟨l[i].toArray⟩) (by simp [strCells, hi])
    simp only [Value.slice.injEq] at e
    rw [add_none, Nat.zero_add] at hc
    exact ⟨g, e.1, e.2.1, hc⟩
theorem scriptsF_fn {m : Nat} (ts : List Tok) (hf : fits m ts) (w : World) (ok : Nat → Prop) (v : Value) (hT : ToksIs 33 w ok v ts) (hw : wts ts ≤ 1000000) :
    Calls Tryz.prog 48 #[v] w fun e w' => ∃ u, e = .returned u ∧ Row w.heap.size w' u (scrs ts) ∧ Below w.heap.size w w' := by
  have h := scriptsR_fn _ ts (Nat.le_refl _) w ok v hT hw
  rw [scrs_same ts hf] at h
  exact h
theorem withinF_fn {m : Nat} (ts : List Tok) (_hf : fits m ts) (w : World) (ok : Nat → Prop) (v : Value) (hT : ToksIs 33 w ok v ts) (hw : wts ts ≤ 1000000) :
    Calls Tryz.prog 47 #[v] w fun e w' => ∃ u, e = .returned u ∧ Row w.heap.size w' u (scrs ts) ∧ Below w.heap.size w w' := within_fn _ ts (Nat.le_refl _) w ok v hT hw
set_option maxRecDepth 100000 in
set_option maxHeartbeats 2000000 in
theorem scriptsP_fn {m n : Nat} {w : World} {ok : Nat → Prop} {v : Value} {cs : List Cmd} (hC : CmdsIs 33 49 47 n w ok v cs) (hf : cfit m cs) (hwt : wcs cs ≤ 1000000) :
    Calls Tryz.prog 21 #[v] w fun e w' => ∃ a c, e = .returned (.slice a (scrCs cs).length c) ∧ Row w.heap.size w' (.slice a (scrCs cs).length c) (scrCs cs) ∧ Below w.heap.size w w' := by
  have hlen := hC.short
  obtain ⟨a1, c1, rfl⟩ : ∃ a c, v = .slice a cs.length c := by
    obtain ⟨a, cap, hv, _⟩ := RowIs.cell hC
    exact ⟨a, cap, hv⟩
  have HC := hid hC.low
  have HF := hid hf
  clear hC hf
  go_enter Tryz.func21, Tryz.ntmps21
  go_wp2
  go_loopg [3, 10] cs.length (fun k ov iv wr => ∃ (i : Nat), iv = .int .i64 (i : Nat) ∧ Row w.heap.size wr ov (scrCs (cs.take i)) ∧ Below w.heap.size w wr ∧ i + k = cs.length)
  case atStart => exact ⟨0, rfl, by rw [List.take_zero]; exact Row.nil _ _, Below.refl _ _, by simp⟩
  case round =>
    obtain ⟨i, rfl, hown, hbl, hk⟩ := hrel
    by_cases hi : i < cs.length
    · have h1 := HC.out.stay (Below.refl _ _) hbl
      obtain ⟨g1, q1, u1, e1, hw1, x0, x1⟩ := cmd_at h1 hi
      simp only [Value.slice.injEq] at e1
      obtain ⟨rfl, _, rfl⟩ := e1
      have hwl := hw1.short
      have hnext := scrCs_take cs hi
      have hfw := HF.out _ (List.getElem_mem hi)
      have hww := wcs_mem cs _ (List.getElem_mem hi)
      obtain ⟨ws, hws⟩ : ∃ ws, ws = cs[i].words := ⟨_, rfl⟩
      obtain ⟨bk, hbk⟩ : ∃ bk, bk = (n : Int) - (cs[i].back : Int) := ⟨_, rfl⟩
      rw [← hbk] at x0
      rw [← hws] at hw1 hwl hnext hfw hww
      have hcp := scrCs_part cs i
      generalize scrCs (cs.take i) = L at hown hnext hcp
      obtain ⟨a3, c3, rfl⟩ : ∃ a c, u1 = .slice a ws.length c := by
        obtain ⟨a, cap, hv, _⟩ := RowIs.cell hw1
        exact ⟨a, cap, hv⟩
      have HWS := hid (fun w2 (h2 : Below w.heap.size w w2) => hw1.stay hbl h2)
      have HFW := hid hfw
      have HN := hid hnext
      have HR0 := hid (hown.on (belowA wr (.cells #[.int .i64 bk, .slice a3 ws.length c3] 47)))
      have HB0 := hid (hbl.trans ((belowA wr (.cells #[.int .i64 bk, .slice a3 ws.length c3] 47)).mono hbl.size))
      have hi1 : (0 : Int) ≤ (i : Int) ∧ (i : Int) < (cs.length : Int) := by omega
      have hi2 : (i : Int) < (cs.length : Int) := by omega
      clear hw1 hfw hnext hws hbk h1 hown hbl
      go_wp2
      clear x0 x1 hi1 hi2
      go_loopg [3, 17] ws.length (fun k2 ov2 jv wr2 => ∃ (j : Nat), jv = .int .i64 (j : Nat) ∧ Row w.heap.size wr2 ov2 (L ++ scrWs (ws.take j)) ∧ Below w.heap.size w wr2 ∧ j + k2 = ws.length)
      case atStart => exact ⟨0, rfl, by rw [List.take_zero, show scrWs [] = [] from rfl, List.append_nil]; exact HR0.out, HB0.out, by simp⟩
      case round =>
        obtain ⟨j, rfl, hrow2, hbl2, hk2⟩ := hrel
        clear HR0 HB0
        by_cases hj : j < ws.length
        · have hw2 := HWS.out _ hbl2
          obtain ⟨g2, q2, t1, e2, ht1, p0, p1⟩ := wd_at hw2 hj
          simp only [Value.slice.injEq] at e2
          obtain ⟨rfl, _, rfl⟩ := e2
          have hnext := scrWs_take ws hj
          have hft := HFW.out _ (List.getElem_mem hj)
          have hwx := wws_mem ws _ (List.getElem_mem hj)
          obtain ⟨ts, hts⟩ : ∃ ts, ts = ws[j].toks := ⟨_, rfl⟩
          obtain ⟨sp, hsp⟩ : ∃ sp, sp = ws[j].spread := ⟨_, rfl⟩
          rw [← hts] at ht1 hnext hft hwx
          rw [← hsp] at p0
          obtain ⟨a5, c5, rfl⟩ : ∃ a c, t1 = .slice a ts.length c := by
            obtain ⟨a, cap, hv, _⟩ := RowIs.cell ht1
            exact ⟨a, cap, hv⟩
          have hwp := scrWs_part ws j
          have hsc := scrs_count ts
          have hj1 : (0 : Int) ≤ (j : Int) ∧ (j : Int) < (ws.length : Int) := by omega
          have hj2 : (j : Int) < (ws.length : Int) := by omega
          obtain ⟨w1, hw1⟩ : ∃ w1, w1 = wr.alloc (.cells #[.bool sp, .slice a5 ts.length c5] 49) := ⟨_, rfl⟩
          have hb1 : Below wr.heap.size wr w1 := by rw [hw1]; exact belowA _ _
          have hb2 : Below w.heap.size w w1 := hbl2.trans (hb1.mono hbl2.size)
          have HR1 := hid (hrow2.on hb1)
          have HB1 := hid hb2
          have HC1 := hid (withinF_fn ts hft w1 _ _ (ht1.stay hbl2 hb2) (by omega))
          have HN1 := hid hnext
          have HW1 := hid hw1
          have hsz1 := hb2.size
          clear hw1 hb1 hb2 hnext hft hw2 ht1 hts hsp hrow2 hbl2
          go_wp2_with fail
          rw [← HW1.out]
          (with_reducible refine HC1.out.mono ?_); rintro e w3 ⟨ux, rfl, hr3, hb3⟩
          have HO3 := hid (Row.on HR1.out hb3)
          have hs3 := hb3.size
          have hws3 : w.heap.size ≤ w3.heap.size := by omega
          have HB3 := hid hb3
          have HR3 := hid hr3
          clear hr3 hb3 p0 p1
          go_wp2_with (at_builtin; refine app_row rfl (.tmp 21) (.tmp 24) rfl w.heap.size w1.heap.size _ _ (L ++ scrWs (ws.take j)) (scrs ts) rfl HO3.out rfl HR3.out hws3 ?c1 ?_)
          case c1 => rw [List.length_append]; omega
          intro v4 w4 hr4 hg4 _
          have HB4 := hid ((HB1.out.trans (HB3.out.mono hsz1)).grown hg4 hws3 (fun g hg => (Row.lt HO3.out g hg).2))
          have HR4 := hid hr4
          clear hr4 hg4 HW1
          go_wp2
          go_roundg (ws.length - (j + 1))
          case measure => omega
          case rel => exact ⟨j + 1, by go_num, by rw [HN1.out]; exact HR4.out, HB4.out, by omega⟩
        · have ht : ws.take j = ws := List.take_of_length_le (by omega)
          rw [ht] at hrow2
          have HR2 := hid hrow2
          have HB2 := hid hbl2
          clear hrow2 hbl2
          go_wp2
          go_roundg (cs.length - (i + 1))
          case measure => omega
          case rel => exact ⟨i + 1, by go_num, by rw [HN.out]; exact HR2.out, HB2.out, by omega⟩
    · have ht : cs.take i = cs := List.take_of_length_le (by omega)
      rw [ht] at hown
      obtain ⟨a, c, e⟩ := hown.shape
      subst e
      go_wp2
      go_ret
      exact ⟨_, _, rfl, hown, hbl⟩
set_option maxRecDepth 100000 in
set_option maxHeartbeats 2000000 in
theorem scriptsC_fn {m n : Nat} {w : World} {ok : Nat → Prop} {v : Value} {cs : List Cmd} (hC : CmdsIs 33 49 47 n w ok v cs) (hf : cfit m cs) (hwt : wcs cs ≤ 1000000) :
    Calls Tryz.prog 22 #[v] w fun e w' => ∃ a c, e = .returned (.slice a (scrCs cs).length c) ∧ Row w.heap.size w' (.slice a (scrCs cs).length c) (scrCs cs) ∧ Below w.heap.size w w' := by
  have hlen := hC.short
  obtain ⟨a1, c1, rfl⟩ : ∃ a c, v = .slice a cs.length c := by
    obtain ⟨a, cap, hv, _⟩ := RowIs.cell hC
    exact ⟨a, cap, hv⟩
  have HC := hid hC.low
  have HF := hid hf
  clear hC hf
  go_enter Tryz.func22, Tryz.ntmps22
  go_wp2
  go_loopg [3, 10] cs.length (fun k ov iv wr => ∃ (i : Nat), iv = .int .i64 (i : Nat) ∧ Row w.heap.size wr ov (scrCs (cs.take i)) ∧ Below w.heap.size w wr ∧ i + k = cs.length)
  case atStart => exact ⟨0, rfl, by rw [List.take_zero]; exact Row.nil _ _, Below.refl _ _, by simp⟩
  case round =>
    obtain ⟨i, rfl, hown, hbl, hk⟩ := hrel
    by_cases hi : i < cs.length
    · have h1 := HC.out.stay (Below.refl _ _) hbl
      obtain ⟨g1, q1, u1, e1, hw1, x0, x1⟩ := cmd_at h1 hi
      simp only [Value.slice.injEq] at e1
      obtain ⟨rfl, _, rfl⟩ := e1
      have hwl := hw1.short
      have hnext := scrCs_take cs hi
      have hfw := HF.out _ (List.getElem_mem hi)
      have hww := wcs_mem cs _ (List.getElem_mem hi)
      obtain ⟨ws, hws⟩ : ∃ ws, ws = cs[i].words := ⟨_, rfl⟩
      obtain ⟨bk, hbk⟩ : ∃ bk, bk = (n : Int) - (cs[i].back : Int) := ⟨_, rfl⟩
      rw [← hbk] at x0
      rw [← hws] at hw1 hwl hnext hfw hww
      have hcp := scrCs_part cs i
      generalize scrCs (cs.take i) = L at hown hnext hcp
      obtain ⟨a3, c3, rfl⟩ : ∃ a c, u1 = .slice a ws.length c := by
        obtain ⟨a, cap, hv, _⟩ := RowIs.cell hw1
        exact ⟨a, cap, hv⟩
      have HWS := hid (fun w2 (h2 : Below w.heap.size w w2) => hw1.stay hbl h2)
      have HFW := hid hfw
      have HN := hid hnext
      have HR0 := hid (hown.on (belowA wr (.cells #[.int .i64 bk, .slice a3 ws.length c3] 47)))
      have HB0 := hid (hbl.trans ((belowA wr (.cells #[.int .i64 bk, .slice a3 ws.length c3] 47)).mono hbl.size))
      have hi1 : (0 : Int) ≤ (i : Int) ∧ (i : Int) < (cs.length : Int) := by omega
      have hi2 : (i : Int) < (cs.length : Int) := by omega
      clear hw1 hfw hnext hws hbk h1 hown hbl
      go_wp2
      clear x0 x1 hi1 hi2
      go_loopg [3, 17] ws.length (fun k2 ov2 jv wr2 => ∃ (j : Nat), jv = .int .i64 (j : Nat) ∧ Row w.heap.size wr2 ov2 (L ++ scrWs (ws.take j)) ∧ Below w.heap.size w wr2 ∧ j + k2 = ws.length)
      case atStart => exact ⟨0, rfl, by rw [List.take_zero, show scrWs [] = [] from rfl, List.append_nil]; exact HR0.out, HB0.out, by simp⟩
      case round =>
        obtain ⟨j, rfl, hrow2, hbl2, hk2⟩ := hrel
        clear HR0 HB0
        by_cases hj : j < ws.length
        · have hw2 := HWS.out _ hbl2
          obtain ⟨g2, q2, t1, e2, ht1, p0, p1⟩ := wd_at hw2 hj
          simp only [Value.slice.injEq] at e2
          obtain ⟨rfl, _, rfl⟩ := e2
          have hnext := scrWs_take ws hj
          have hft := HFW.out _ (List.getElem_mem hj)
          have hwx := wws_mem ws _ (List.getElem_mem hj)
          obtain ⟨ts, hts⟩ : ∃ ts, ts = ws[j].toks := ⟨_, rfl⟩
          obtain ⟨sp, hsp⟩ : ∃ sp, sp = ws[j].spread := ⟨_, rfl⟩
          rw [← hts] at ht1 hnext hft hwx
          rw [← hsp] at p0
          obtain ⟨a5, c5, rfl⟩ : ∃ a c, t1 = .slice a ts.length c := by
            obtain ⟨a, cap, hv, _⟩ := RowIs.cell ht1
            exact ⟨a, cap, hv⟩
          have hwp := scrWs_part ws j
          have hsc := scrs_count ts
          have hj1 : (0 : Int) ≤ (j : Int) ∧ (j : Int) < (ws.length : Int) := by omega
          have hj2 : (j : Int) < (ws.length : Int) := by omega
          obtain ⟨w1, hw1⟩ : ∃ w1, w1 = wr.alloc (.cells #[.bool sp, .slice a5 ts.length c5] 49) := ⟨_, rfl⟩
          have hb1 : Below wr.heap.size wr w1 := by rw [hw1]; exact belowA _ _
          have hb2 : Below w.heap.size w w1 := hbl2.trans (hb1.mono hbl2.size)
          have HR1 := hid (hrow2.on hb1)
          have HB1 := hid hb2
          have HC1 := hid (scriptsF_fn ts hft w1 _ _ (ht1.stay hbl2 hb2) (by omega))
          have HN1 := hid hnext
          have HW1 := hid hw1
          have hsz1 := hb2.size
          clear hw1 hb1 hb2 hnext hft hw2 ht1 hts hsp hrow2 hbl2
          go_wp2_with fail
          rw [← HW1.out]
          (with_reducible refine HC1.out.mono ?_); rintro e w3 ⟨ux, rfl, hr3, hb3⟩
          have HO3 := hid (Row.on HR1.out hb3)
          have hs3 := hb3.size
          have hws3 : w.heap.size ≤ w3.heap.size := by omega
          have HB3 := hid hb3
          have HR3 := hid hr3
          clear hr3 hb3 p0 p1
          go_wp2_with (at_builtin; refine app_row rfl (.tmp 21) (.tmp 24) rfl w.heap.size w1.heap.size _ _ (L ++ scrWs (ws.take j)) (scrs ts) rfl HO3.out rfl HR3.out hws3 ?c1 ?_)
          case c1 => rw [List.length_append]; omega
          intro v4 w4 hr4 hg4 _
          have HB4 := hid ((HB1.out.trans (HB3.out.mono hsz1)).grown hg4 hws3 (fun g hg => (Row.lt HO3.out g hg).2))
          have HR4 := hid hr4
          clear hr4 hg4 HW1
          go_wp2
          go_roundg (ws.length - (j + 1))
          case measure => omega
          case rel => exact ⟨j + 1, by go_num, by rw [HN1.out]; exact HR4.out, HB4.out, by omega⟩
        · have ht : ws.take j = ws := List.take_of_length_le (by omega)
          rw [ht] at hrow2
          have HR2 := hid hrow2
          have HB2 := hid hbl2
          clear hrow2 hbl2
          go_wp2
          go_roundg (cs.length - (i + 1))
          case measure => omega
          case rel => exact ⟨i + 1, by go_num, by rw [HN.out]; exact HR2.out, HB2.out, by omega⟩
    · have ht : cs.take i = cs := List.take_of_length_le (by omega)
      rw [ht] at hown
      obtain ⟨a, c, e⟩ := hown.shape
      subst e
      go_wp2
      go_ret
      exact ⟨_, _, rfl, hown, hbl⟩
theorem faultC_any (s : Str) (h : Halt) : ∃ e a o, faultC s h = #[.int .i64 e, .int .i64 a, .bool o] := by
  cases h with
  | lacks b => exact ⟨_, _, true, rfl⟩
  | wrong b => exact ⟨_, _, false, rfl⟩
  | deep => exact ⟨_, _, false, rfl⟩
theorem CmdsRP.uni {rb : Nat} {s : Str} {w w' : World} {e : Ending} (h : CmdsRP rb s 0 w (commands false 0 s) e w') :
    ∃ a n c i z at' o, e = .returned (.tuple #[.slice a n c, .int .i64 i, .agg #[.int .i64 z, .int .i64 at', .bool o]]) ∧ CmdsIs 33 49 47 s.length w' (New w.heap.size) (.slice a n c) (cmdsOf s) ∧ But rb w.heap.size w w' := by
  unfold cmdsOf
  cases hR : commands false 0 s with
  | ok cs r =>
    rw [hR] at h
    obtain ⟨v, rfl, _, hcs, hb⟩ := h
    obtain ⟨a, cap, rfl⟩ : ∃ a cap, v = .slice a cs.length cap := by
      obtain ⟨a, cap, hv, _⟩ := RowIs.cell hcs
      exact ⟨a, cap, hv⟩
    exact ⟨a, _, cap, _, 0, 0, false, rfl, hcs, hb⟩
  | halt hh =>
    rw [hR] at h
    obtain ⟨rfl, _, hb⟩ := h
    obtain ⟨E, A, O, hO⟩ := faultC_any s hh
    exact ⟨none, 0, 0, 0, _, _, O, by rw [hO], RowIs.nil, hb⟩
def ReadQ (s : Str) (w : World) (e : Ending) (w' : World) : Prop := Below w.heap.size w w' ∧
  ∃ a n c z at' o, e = .returned (.tuple #[.slice a n c, .agg #[.int .i64 z, .int .i64 at', .bool o]]) ∧ CmdsIs 33 49 47 s.length w' (New w.heap.size) (.slice a n c) (cmdsOf s)
def TellQ (s : Str) (w : World) (e : Ending) (w' : World) : Prop := Below w.heap.size w w' ∧
  ∃ a n c at' z, e = .returned (.tuple #[.slice a n c, .int .i64 at', .int .i64 z]) ∧ CmdsIs 33 49 47 s.length w' (New w.heap.size) (.slice a n c) (cmdsOf s)
theorem ScriptQ.tell {s : Str} {w w' : World} {e : Ending} (h : ScriptQ s w e w') : TellQ s w e w' := by
  obtain ⟨hb, h⟩ := h
  refine ⟨hb, ?_⟩
  unfold cmdsOf
  cases hR : commands false 0 s with
  | ok cs r =>
    rw [hR] at h
    obtain ⟨v, rfl, hcs⟩ := h
    obtain ⟨a, cap, rfl⟩ : ∃ a cap, v = .slice a cs.length cap := by
      obtain ⟨a, cap, hv, _⟩ := RowIs.cell hcs
      exact ⟨a, cap, hv⟩
    exact ⟨a, _, cap, 0, 0, rfl, hcs⟩
  | halt hh =>
    rw [hR] at h
    obtain ⟨a, e', o, _, _, rfl⟩ := h
    exact ⟨none, 0, 0, a, e', rfl, RowIs.nil⟩
set_option maxRecDepth 100000 in
set_option maxHeartbeats 1000000 in
theorem readR_fn {s : Str} (hs : s.length ≤ 1000000) (w : World) : Calls Tryz.prog 39 #[.string ⟨s.toArray⟩] w (ReadQ s w) := by
  obtain ⟨W0, hW0⟩ : ∃ W0, W0 = w.alloc (.cells #[.int .i64 0, .int .i64 0, .bool false] 63) := ⟨_, rfl⟩
  have HB0 := hid (show Below w.heap.size w W0 by rw [hW0]; exact below1 _ _)
  have hs0 : W0.heap.size = w.heap.size + 1 := by rw [hW0]; simp
  have HF0 := hid (show W0.heap[w.heap.size]? = some (.cells #[.int .i64 0, .int .i64 0, .bool false] 63 (0, 0)) by rw [hW0]; exact heap_alloc_new _ _)
  have H6 := hid (all6_fn s W0)
  have HW0 := hid hW0
  clear hW0
  go_enter Tryz.func39, Tryz.ntmps39
  go_wp2_with fail
  rw [← HW0.out]
  (with_reducible refine H6.out.mono ?_); rintro e W1 ⟨rfl, hrd, hb1⟩
  have hs1 := hb1.size
  have hc : Calls Tryz.prog 76 #[.pointer (some ⟨W0.heap.size, 0, none⟩), .int .i64 0, .bool false] W1 _ := commands_rc false 0 s W1 W0.heap.size s 0 hs (by omega) hrd (At.start s)
  rw [hs0] at hc
  have HC := hid hc
  have HF1 := hid (show W1.heap[w.heap.size]? = some (.cells #[.int .i64 0, .int .i64 0, .bool false] 63 (0, 0)) from (hb1.block _ (by omega)).trans HF0.out)
  have HB1 := hid (HB0.out.trans (hb1.mono (by omega)))
  clear hrd hb1 hc
  go_wp2_with fail
  (with_reducible refine HC.out.mono ?_); intro e W3 h3
  obtain ⟨a, n, c, i, z, at', o, rfl, hcs, hbut⟩ := CmdsRP.uni h3
  have hs3 := hbut.size
  have HF3 := hid (show W3.heap[w.heap.size]? = some (.cells #[.int .i64 0, .int .i64 0, .bool false] 63 (0, 0)) from (hbut.block _ (by omega) (by omega)).trans HF1.out)
  have HB3 := hid (HB1.out.trans ((hbut.mono (show w.heap.size ≤ W1.heap.size by omega)).below (by omega)))
  have HT3 := hid hcs
  clear hbut hcs h3
  go_upto_region 3 with fail
  refine at_world fun W4 hW4 => ?_
  have hf4 : W4.heap[W3.heap.size]? = some (.cells #[.int .i64 z, .int .i64 at', .bool o] 63 (0, 0)) := by rw [hW4]; exact heap_alloc_new _ _
  have hr4 : W4.heap[w.heap.size]? = some (.cells #[.int .i64 0, .int .i64 0, .bool false] 63 (0, 0)) := by rw [hW4, Below.heap_alloc _ _ _ (by omega)]; exact HF3.out
  have HR4 := hid hr4
  have HB4 := hid (show Below w.heap.size w W4 by rw [hW4]; exact HB3.out.trans ((below1 _ _).mono HB3.out.size))
  have HT4 := hid (show CmdsIs 33 49 47 s.length W4 (New W1.heap.size) (.slice a n c) (cmdsOf s) by rw [hW4]; exact HT3.out.ahead (below1 _ _))
  obtain ⟨k0, k1, k2⟩ := flt_cells hf4
  obtain ⟨r0, r1, r2⟩ := flt_cells hr4
  have f0 := Lib.frozen_of_heap hr4 0
  have f1 := Lib.frozen_of_heap hr4 1
  have f2 := Lib.frozen_of_heap hr4 2
  have hr4s := (Array.getElem?_eq_some_iff.1 hr4).1
  clear hW4 hf4 hr4
  go_region
  go_wp2
  have p1 := drew_heap (set3 HR4.out (.int .i64 z) (.int .i64 at') (.bool o))
  refine bodyPost_ret (results_tc rfl _ rfl p1 Tryz.underlying63 rfl Tryz.infoF) rfl ?_
  have hne : ∀ g, g ≠ w.heap.size → (((W4.setCell ⟨w.heap.size, 0, none⟩ (.int .i64 z)).setCell ⟨w.heap.size, 1, none⟩ (.int .i64 at')).setCell ⟨w.heap.size, 2, none⟩ (.bool o)).heap[g]? = W4.heap[g]? := fun g hg => set_ne hg
  refine ⟨(((HB4.out.setCell (Nat.le_refl _) _).setCell (Nat.le_refl _) _).setCell (Nat.le_refl _) _).drew, a, n, c, z, at', o, rfl, HT4.out.keep2 (fun g hg _ => ?_) (fun g cur hg hc => ?_) (fun g cur hg hc => ?_) (fun g cur hg hc => ?_)⟩
  · have hg' : W1.heap.size ≤ g := hg
    show w.heap.size ≤ g
    omega
  all_goals
    have hg' : W1.heap.size ≤ g := hg
    exact drew_heap ((hne g (by omega)).trans hc)
theorem tellP_fn {s : Str} (hs : s.length ≤ 1000000) (w : World) : Calls Tryz.prog 27 #[.string ⟨s.toArray⟩] w (TellQ s w) := (script_fn hs w).mono fun _ _ h => h.tell
set_option maxRecDepth 100000 in
set_option maxHeartbeats 1000000 in
theorem tellR_fn {s : Str} (hs : s.length ≤ 1000000) (w : World) : Calls Tryz.prog 15 #[.string ⟨s.toArray⟩] w (TellQ s w) := by
  have HC := hid (readR_fn hs w)
  go_enter Tryz.func15, Tryz.ntmps15
  go_wp2_with fail
  (with_reducible refine HC.out.mono ?_); rintro e W1 ⟨hb, a, n, c, z, at', o, rfl, hcs⟩
  have HB := hid hb
  have HCS := hid hcs
  clear hb hcs
  go_upto_region 2 with fail
  refine at_world fun W4 hW4 => ?_
  have hf4 : W4.heap[W1.heap.size]? = some (.cells #[.int .i64 z, .int .i64 at', .bool o] 63 (0, 0)) := by rw [hW4]; exact heap_alloc_new _ _
  have HB4 := hid (show Below w.heap.size w W4 by rw [hW4]; exact HB.out.trans ((below1 _ _).mono HB.out.size))
  have HT4 := hid (show CmdsIs 33 49 47 s.length W4 (New w.heap.size) (.slice a n c) (cmdsOf s) by rw [hW4]; exact HCS.out.ahead (below1 _ _))
  obtain ⟨k0, k1, k2⟩ := flt_cells hf4
  clear hW4 hf4
  go_region
  go_wp2
  refine bodyPost_ret (v := .tuple #[.slice a n c, .int .i64 at', .int .i64 z]) (by simp [results, Tryz.results15, go_sem]) rfl ?_
  exact ⟨HB4.out.drew, a, n, c, at', z, rfl, HT4.out.keep2 (fun _ h _ => h) (fun _ _ _ h => h) (fun _ _ _ h => h) (fun _ _ _ h => h)⟩
theorem sum_take (f : Str → Nat) (l : List Str) {j : Nat} (h : j < l.length) : ((l.take (j + 1)).map f).sum = ((l.take j).map f).sum + f l[j] := by
  rw [List.take_succ_eq_append_getElem h, List.map_append, List.sum_append]
  simp
theorem sum_part (f : Str → Nat) (l : List Str) (j : Nat) : ((l.take j).map f).sum ≤ (l.map f).sum := by
  have h : (l.map f).sum = ((l.take j).map f).sum + ((l.drop j).map f).sum := by rw [← List.sum_append, ← List.map_append, List.take_append_drop]
  omega
set_option maxRecDepth 100000 in
set_option maxHeartbeats 2000000 in
theorem countP_fn_step {k n : Nat} {w : World} {ok : Nat → Prop} {v : Value} {cs : List Cmd} (f : Str → Nat) (hC : CmdsIs 33 49 47 n w ok v cs) (hf : cfit k cs) (hk1 : k ≤ 100000) (hwt : wcs cs ≤ 1000000)
    (hsum : cs.length + ((scrCs cs).map f).sum ≤ 1000000)
    (ih : ∀ (s : Str), s.length < k → ∀ (w : World) (ok : Nat → Prop) (v : Value), CmdsIs 33 49 47 s.length w ok v (cmdsOf s) → Calls Tryz.prog 23 #[v] w fun e w' => e = .returned (.int .i64 (f s : Nat)) ∧ Below w.heap.size w w') :
    Calls Tryz.prog 23 #[v] w fun e w' => e = .returned (.int .i64 ((cs.length + ((scrCs cs).map f).sum : Nat) : Int)) ∧ Below w.heap.size w w' := by
  have hlen := hC.short
  obtain ⟨a1, c1, rfl⟩ : ∃ a c, v = .slice a cs.length c := by
    obtain ⟨a, cap, hv, _⟩ := RowIs.cell hC
    exact ⟨a, cap, hv⟩
  have HC := hid (scriptsP_fn hC hf hwt)
  have hcnt := scrCs_count cs
  have HS := hid (scrCs_short hf)
  have IH := hid ih
  clear hC hf ih
  obtain ⟨l, hl⟩ : ∃ l, l = scrCs cs := ⟨_, rfl⟩
  rw [← hl] at HC hcnt HS hsum ⊢
  obtain ⟨d, hd⟩ : ∃ d, d = cs.length := ⟨_, rfl⟩
  rw [← hd] at hlen HC hsum ⊢
  clear hl hd
  go_enter Tryz.func23, Tryz.ntmps23
  go_wp2_with fail
  (with_reducible refine HC.out.mono ?_); rintro e w1 ⟨a, c, rfl, hrow, hb1⟩
  have HR := hid hrow
  have HB1 := hid hb1
  have hs1 := hb1.size
  clear hrow hb1
  go_wp2
  go_loopg [3, 14] l.length (fun k2 nv iv wr => ∃ (j : Nat), nv = .int .i64 ((d + ((l.take j).map f).sum : Nat) : Int) ∧ iv = .int .i64 (j : Nat) ∧ Below w1.heap.size w1 wr ∧ j + k2 = l.length)
  case atStart => exact ⟨0, by simp, rfl, Below.refl _ _, by simp⟩
  case round =>
    obtain ⟨j, rfl, rfl, hbl, hk2⟩ := hrel
    by_cases hj : j < l.length
    · obtain ⟨g, rfl, _, hx⟩ := Row.at (HR.out.on hbl) hj
      have hshort := HS.out _ (List.getElem_mem hj)
      have hst := sum_take f l hj
      have hsp := sum_part f l (j + 1)
      obtain ⟨s, hs⟩ : ∃ s, s = l[j] := ⟨_, rfl⟩
      rw [← hs] at hx hshort hst
      obtain ⟨p, hp⟩ : ∃ p, p = d + ((l.take j).map f).sum := ⟨_, rfl⟩
      obtain ⟨q, hq⟩ : ∃ q, q = f s := ⟨_, rfl⟩
      rw [← hp]
      have hpq : p + q ≤ 1000000 := by omega
      have hnx := hid (show d + ((l.take (j + 1)).map f).sum = p + q by omega)
      have HBL := hid hbl
      have hsz := hbl.size
      have HQ := hid (tellP_fn (s := s) (by omega) wr)
      have HI := hid (fun w v ok => IH.out s hshort w ok v)
      rw [← hq] at HI
      have hi1 : (0 : Int) ≤ (j : Int) ∧ (j : Int) < (l.length : Int) := by omega
      have hi2 : (j : Int) < (l.length : Int) := by omega
      clear hs hp hq hst hsp hbl
      go_wp2_with fail
      (with_reducible refine HQ.out.mono ?_); intro e w2 h2
      obtain ⟨hb2, a2, n2, c2, at', z, rfl, hcs⟩ := h2
      have hs2 := hb2.size
      have hb3 := hb2
      have hcs3 := hcs
      have HB3 := hid hb3
      have hs3 := hb3.size
      clear hcs hb2
      have HI3 := hid (HI.out w2 _ _ hcs3)
      clear hb3 hcs3
      go_wp2_with fail

      (with_reducible refine HI3.out.mono ?_); rintro e w4 ⟨rfl, hb4⟩
      have HB4 := hid (HBL.out.trans ((HB3.out.mono hsz).trans (hb4.mono (by omega))))
      clear hb4 hx hi1 hi2
      go_wp2
      go_roundg (l.length - (j + 1))
      case measure => omega
      case rel => exact ⟨j + 1, by rw [hnx.out]; go_num, by go_num, HB4.out, by omega⟩
    · have ht : l.take j = l := List.take_of_length_le (by omega)
      rw [ht]
      go_wp2
      go_ret
      exact ⟨rfl, HB1.out.trans (hbl.mono hs1)⟩
theorem countP_fn : ∀ (k : Nat) (cs : List Cmd) {n : Nat} {w : World} {ok : Nat → Prop} {v : Value}, CmdsIs 33 49 47 n w ok v cs → cfit k cs → k ≤ 100000 → wcs cs ≤ 1000000 → csum cs ≤ 1000000 →
    Calls Tryz.prog 23 #[v] w fun e w' => e = .returned (.int .i64 (countN k cs : Nat)) ∧ Below w.heap.size w w' := by
  intro k
  induction k with
  | zero =>
    intro cs n w ok v hC hf hk1 hw hc
    have hnil : scrCs cs = [] := List.eq_nil_iff_forall_not_mem.2 fun s hs => absurd (scrCs_short hf s hs) (by omega)
    have h := countP_fn_step (fun _ => 0) hC hf hk1 hw (by rw [hnil]; rw [csum_eq] at hc; simp; omega) (fun s hs => absurd hs (by omega))
    rw [hnil] at h
    exact h
  | succ k ih =>
    intro cs n w ok v hC hf hk1 hw hc
    have hle := countN_le (k + 1) cs
    rw [countN] at hle ⊢
    refine countP_fn_step (fun s => countN k (cmdsOf s)) hC hf hk1 hw (by omega) fun s hs w' ok' v' hv' => ?_
    obtain ⟨f1, f2, f3⟩ := cmdsOf_f s
    exact ih (cmdsOf s) hv' (fun c hc x hx => fits_mono (by omega) _ (f1 c hc x hx)) (by omega) (by omega) (by omega)
set_option maxRecDepth 100000 in
set_option maxHeartbeats 2000000 in
theorem countR_fn_step {k n : Nat} {w : World} {ok : Nat → Prop} {v : Value} {cs : List Cmd} (f : Str → Nat) (hC : CmdsIs 33 49 47 n w ok v cs) (hf : cfit k cs) (hk1 : k ≤ 100000) (hwt : wcs cs ≤ 1000000)
    (hsum : cs.length + ((scrCs cs).map f).sum ≤ 1000000)
    (ih : ∀ (s : Str), s.length < k → ∀ (w : World) (ok : Nat → Prop) (v : Value), CmdsIs 33 49 47 s.length w ok v (cmdsOf s) → Calls Tryz.prog 24 #[v] w fun e w' => e = .returned (.int .i64 (f s : Nat)) ∧ Below w.heap.size w w') :
    Calls Tryz.prog 24 #[v] w fun e w' => e = .returned (.int .i64 ((cs.length + ((scrCs cs).map f).sum : Nat) : Int)) ∧ Below w.heap.size w w' := by
  have hlen := hC.short
  obtain ⟨a1, c1, rfl⟩ : ∃ a c, v = .slice a cs.length c := by
    obtain ⟨a, cap, hv, _⟩ := RowIs.cell hC
    exact ⟨a, cap, hv⟩
  have HC := hid (scriptsC_fn hC hf hwt)
  have hcnt := scrCs_count cs
  have HS := hid (scrCs_short hf)
  have IH := hid ih
  clear hC hf ih
  obtain ⟨l, hl⟩ : ∃ l, l = scrCs cs := ⟨_, rfl⟩
  rw [← hl] at HC hcnt HS hsum ⊢
  obtain ⟨d, hd⟩ : ∃ d, d = cs.length := ⟨_, rfl⟩
  rw [← hd] at hlen HC hsum ⊢
  clear hl hd
  go_enter Tryz.func24, Tryz.ntmps24
  go_wp2_with fail
  (with_reducible refine HC.out.mono ?_); rintro e w1 ⟨a, c, rfl, hrow, hb1⟩
  have HR := hid hrow
  have HB1 := hid hb1
  have hs1 := hb1.size
  clear hrow hb1
  go_wp2
  go_loopg [3, 13] l.length (fun k2 nv iv wr => ∃ (j : Nat), nv = .int .i64 ((d + ((l.take j).map f).sum : Nat) : Int) ∧ iv = .int .i64 (j : Nat) ∧ Below w1.heap.size w1 wr ∧ j + k2 = l.length)
  case atStart => exact ⟨0, by simp, rfl, Below.refl _ _, by simp⟩
  case round =>
    obtain ⟨j, rfl, rfl, hbl, hk2⟩ := hrel
    by_cases hj : j < l.length
    · obtain ⟨g, rfl, _, hx⟩ := Row.at (HR.out.on hbl) hj
      have hshort := HS.out _ (List.getElem_mem hj)
      have hst := sum_take f l hj
      have hsp := sum_part f l (j + 1)
      obtain ⟨s, hs⟩ : ∃ s, s = l[j] := ⟨_, rfl⟩
      rw [← hs] at hx hshort hst
      obtain ⟨p, hp⟩ : ∃ p, p = d + ((l.take j).map f).sum := ⟨_, rfl⟩
      obtain ⟨q, hq⟩ : ∃ q, q = f s := ⟨_, rfl⟩
      rw [← hp]
      have hpq : p + q ≤ 1000000 := by omega
      have hnx := hid (show d + ((l.take (j + 1)).map f).sum = p + q by omega)
      have HBL := hid hbl
      have hsz := hbl.size
      have HQ := hid (readR_fn (s := s) (by omega) wr)
      have HI := hid (fun w v ok => IH.out s hshort w ok v)
      rw [← hq] at HI
      have hi1 : (0 : Int) ≤ (j : Int) ∧ (j : Int) < (l.length : Int) := by omega
      have hi2 : (j : Int) < (l.length : Int) := by omega
      clear hs hp hq hst hsp hbl
      go_wp2_with fail
      (with_reducible refine HQ.out.mono ?_); intro e w2 h2
      obtain ⟨hb2, a2, n2, c2, z, at', o, rfl, hcs⟩ := h2
      have hs2 := hb2.size
      obtain ⟨w3, hw3⟩ : ∃ w3, w3 = w2.alloc (.cells #[.int .i64 z, .int .i64 at', .bool o] 63) := ⟨_, rfl⟩
      have hb3 : Below wr.heap.size wr w3 := by rw [hw3]; exact hb2.trans ((belowA _ _).mono hs2)
      have hcs3 := hcs.ahead (show Below w2.heap.size w2 w3 by rw [hw3]; exact belowA _ _)
      have HW3 := hid hw3
      clear hw3 hcs hb2
      have HB3 := hid hb3
      have hs3 := hb3.size
      have HI3 := hid (HI.out w3 _ _ hcs3)
      clear hb3 hcs3
      go_wp2_with fail
      rw [← HW3.out]
      (with_reducible refine HI3.out.mono ?_); rintro e w4 ⟨rfl, hb4⟩
      have HB4 := hid (HBL.out.trans ((HB3.out.mono hsz).trans (hb4.mono (by omega))))
      clear hb4 hx hi1 hi2
      go_wp2
      go_roundg (l.length - (j + 1))
      case measure => omega
      case rel => exact ⟨j + 1, by rw [hnx.out]; go_num, by go_num, HB4.out, by omega⟩
    · have ht : l.take j = l := List.take_of_length_le (by omega)
      rw [ht]
      go_wp2
      go_ret
      exact ⟨rfl, HB1.out.trans (hbl.mono hs1)⟩
theorem countR_fn : ∀ (k : Nat) (cs : List Cmd) {n : Nat} {w : World} {ok : Nat → Prop} {v : Value}, CmdsIs 33 49 47 n w ok v cs → cfit k cs → k ≤ 100000 → wcs cs ≤ 1000000 → csum cs ≤ 1000000 →
    Calls Tryz.prog 24 #[v] w fun e w' => e = .returned (.int .i64 (countN k cs : Nat)) ∧ Below w.heap.size w w' := by
  intro k
  induction k with
  | zero =>
    intro cs n w ok v hC hf hk1 hw hc
    have hnil : scrCs cs = [] := List.eq_nil_iff_forall_not_mem.2 fun s hs => absurd (scrCs_short hf s hs) (by omega)
    have h := countR_fn_step (fun _ => 0) hC hf hk1 hw (by rw [hnil]; rw [csum_eq] at hc; simp; omega) (fun s hs => absurd hs (by omega))
    rw [hnil] at h
    exact h
  | succ k ih =>
    intro cs n w ok v hC hf hk1 hw hc
    have hle := countN_le (k + 1) cs
    rw [countN] at hle ⊢
    refine countR_fn_step (fun s => countN k (cmdsOf s)) hC hf hk1 hw (by omega) fun s hs w' ok' v' hv' => ?_
    obtain ⟨f1, f2, f3⟩ := cmdsOf_f s
    exact ih (cmdsOf s) hv' (fun c hc x hx => fits_mono (by omega) _ (f1 c hc x hx)) (by omega) (by omega) (by omega)
end Go.Proofs.YtkgpmkkodpjdfaaGreatDoor.Pz
