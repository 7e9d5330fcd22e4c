/-
  ParseTellsCard: the law's card and what it alone needs, merged from 2 texts. Conditions: the row's own.
-/
import Derived.Test.YtkgpmkkodpjdfaaGreatDoorCards
import Derived.Test.YtkgpmkkodpjdfaaGreatDoorTie
import Derived.Deep.DeepHandedRow
import Derived.ProofKit
import Derived.OpenShut
import Derived.Lay
import Derived.Stop.LaidErr
import Derived.Lib.LaidTab
import Derived.Shelf.Vars
import Derived.MakeChecks
import Derived.ChangeMaps5
import Derived.Test.YtkgpmkkodpjdfaaGreatDoorK22
namespace Go.Proofs.YtkgpmkkodpjdfaaGreatDoor.Pz
open Go.RowKit
theorem GT.up {B C : Nat} {w : World} (h : GT B w) (hB : B ≤ C) : GT C w := fun w' h' => h w' (h'.mono hB)
theorem showW_len (M : Nat) (x : Wd) (h : wts x.toks ≤ M) : (showW x).length ≤ (1 + wts x.toks) * (2 * M + 40) := by
  obtain ⟨sp, ts⟩ := x
  have h1 := shows_len ts [32]
  have h2 : wts ts * (2 * ([32] : Str).length + 2 * wts ts + 30) ≤ wts ts * (2 * M + 40) := Nat.mul_le_mul_left _ (by simp only [List.length_cons, List.length_nil]; dsimp only at h; omega)
  rw [showW_mk, List.length_append, Nat.add_mul]
  have h3 : (if sp = true then sSpread else sWord).length ≤ 7 := by split <;> decide
  dsimp only at *
  omega
theorem showWs_len (M : Nat) : ∀ (xs : List Wd), wws xs ≤ M → (showWs xs).length ≤ wws xs * (2 * M + 40)
  | [], _ => by simp [showWs]
  | x :: xs, h => by
    rw [wws] at h
    have h1 := showW_len M x (by omega)
    have h2 := showWs_len M xs (by omega)
    rw [showWs, wws, List.length_append, Nat.add_mul (1 + wts x.toks)]
    omega
theorem showCs_len (n M : Nat) : ∀ (cs : List Cmd), wcs cs ≤ M → n ≤ 1000000 → (∀ c ∈ cs, c.back ≤ n) → (showCs n cs).length ≤ wcs cs * (2 * M + 40)
  | [], _, _, _ => by simp [showCs]
  | c :: cs, h, hn, hb => by
    rw [wcs] at h
    have h0 := hb c (by simp)
    have h1 := showWs_len M c.words (by omega)
    have h2 := showCs_len n M cs (by omega) hn fun x hx => hb x (by simp [hx])
    have h3 := Lib.itoa_length_le ((n : Int) - (c.back : Int)) (by omega) (by omega)
    rw [showCs, wcs, showC, Nat.add_mul (1 + wws c.words), Nat.add_mul 1]
    simp only [List.length_append, sCommand, List.length_cons, List.length_nil]
    omega
theorem placed_back : ∀ (cs : List Cmd) (l : Str), Placed l cs → ∀ c ∈ cs, c.back ≤ l.length
  | [], _, _, _, h => by cases h
  | c :: cs, l, h, x, hx => by
    obtain ⟨ch, t, h1, h2, _, _, _, _, h7⟩ := h
    have h3 := h1.length_le
    rcases List.mem_cons.1 hx with rfl | hx
    · omega
    · have := placed_back cs t h7 x hx
      simp at h3
      omega
theorem cmdsOf_back (s : Str) : ∀ c ∈ cmdsOf s, c.back ≤ s.length := by
  unfold cmdsOf
  cases hR : commands false 0 s with
  | ok cs r => exact placed_back cs s (placed_of s.length false 0 s (Nat.le_refl _) cs _ hR)
  | halt h => intro c hc; cases hc
set_option maxRecDepth 100000 in
set_option maxHeartbeats 2000000 in
theorem parseTells_fn (s : List UInt8) (w : World) (ls : s.length ≤ 9223372036854775807) (hG : GT w.heap.size w) :
    Calls Tryz.prog 5 #[.string ⟨s.toArray⟩] w fun e w' => e = .returned (.bool true) ∧ Below w.heap.size w w' := by
  have AW := fun w => hid (awake_fn w)
  have LA := fun w => hid (long_fn s w)
  by_cases hla : 800 < s.length
  · rw [decide_eq_true hla] at LA
    clear hG
    go_enter Tryz.func5, Tryz.ntmps5
    go_wp2_with fail
    (with_reducible refine (LA _).out.mono ?_); rintro e w1 ⟨rfl, hw⟩; subst w1
    go_wp2_with fail
    (with_reducible refine (AW _).out.mono ?_); rintro e w2 ⟨rfl, hb⟩
    go_wp2
    go_ret
    exact ⟨rfl, hb⟩
  rw [decide_eq_false hla] at LA
  have SA := hid (tellR_fn (s := s) (by omega) w)
  have HG := hid hG
  obtain ⟨f1, f2, f3⟩ := cmdsOf_f s
  have hback := cmdsOf_back s
  obtain ⟨n, hn⟩ : ∃ n, n = s.length := ⟨_, rfl⟩
  rw [← hn] at f1 f2 f3 hback hla
  have hlen3 := showCs_len n 3200 (cmdsOf s) (by omega) (by omega) hback
  have h4 : wcs (cmdsOf s) * (2 * 3200 + 40) ≤ 3200 * (2 * 3200 + 40) := Nat.mul_le_mul_right _ (by omega)
  obtain ⟨cs, hcs⟩ : ∃ cs, cs = cmdsOf s := ⟨_, rfl⟩
  rw [← hcs] at f1 f2 f3 hback hlen3 h4
  have HCS := hid hcs
  have HF := hid f1
  have HBK := hid hback
  have HN := hid hn
  have hl3 : (showCs n cs).length ≤ 1000000000 := by omega
  clear hG f1 hback hcs hlen3 h4 hn
  go_enter Tryz.func5, Tryz.ntmps5
  go_wp2_with fail
  (with_reducible refine (LA _).out.mono ?_); rintro e w0 ⟨rfl, hw⟩; subst w0
  go_wp2_with fail
  (with_reducible refine SA.out.mono ?_); intro e w1 h1
  obtain ⟨hb1, a, n1, c, at', z, rfl, hC⟩ := h1
  rw [← HCS.out, ← HN.out] at hC
  by_cases hz : z = 0
  · subst hz
    have hG1 := (HG.out.on hb1).up hb1.size
    have HB1 := hid hb1
    have HC1 := hid hC
    have hln := hC.short
    obtain rfl : n1 = cs.length := by
      obtain ⟨a9, cap9, hv9, _⟩ := RowIs.cell hC
      simp only [Value.slice.injEq] at hv9
      exact hv9.2.1
    obtain ⟨T, hT⟩ : ∃ T, T = showCs n cs := ⟨_, rfl⟩
    have H1 := hid (showCmds_fn hC (by omega) HBK.out (by omega) hG1 hl3)
    rw [← hT] at H1
    have HT := hid hT
    clear hb1 hG1 hC hT
    go_wp2_with fail
    (with_reducible refine H1.out.mono ?_); rintro e w2 ⟨rfl, hb2⟩
    have HB2 := hid (HB1.out.trans (hb2.mono HB1.out.size))
    have HC2 := hid (HC1.out.ahead hb2)
    have H2 := hid (showCmdsR_fn HC2.out (by omega) HBK.out (by omega) ((HG.out.on HB2.out).up HB2.out.size) hl3)
    rw [← HT.out] at H2
    clear hb2
    go_wp2_with fail
    (with_reducible refine H2.out.mono ?_); rintro e w3 ⟨rfl, hb3⟩
    have HB3 := hid (HB2.out.trans (hb3.mono HB2.out.size))
    have HC3 := hid (HC2.out.ahead hb3)
    have H3 := hid (namesP_fn HC3.out HF.out (by omega) (by omega) (by omega))
    clear hb3 H1 H2
    go_wp2_with fail
    (with_reducible refine H3.out.mono ?_); rintro e w4 ⟨u4, rfl, hr4, hb4⟩
    have HB4 := hid (HB3.out.trans (hb4.mono HB3.out.size))
    have HC4 := hid (HC3.out.ahead hb4)
    have H4 := hid (namesR_fn HC4.out HF.out (by omega) (by omega) (by omega))
    have HR4 := hid hr4
    clear hb4 H3 hr4
    go_wp2_with fail
    (with_reducible refine H4.out.mono ?_); rintro e w5 ⟨u5, rfl, hr5, hb5⟩
    have HB5 := hid (HB4.out.trans (hb5.mono HB4.out.size))
    have HC5 := hid (HC4.out.ahead hb5)
    have hul := uniq_len (namesN n cs) []
    have hnl := namesN_le n cs
    simp only [List.length_nil] at hul
    have H5 := hid (sameRows_fn (HR4.out.on hb5) hr5 (by omega))
    clear hb5 H4 HR4 hr5
    go_wp2_with fail
    (with_reducible refine H5.out.mono ?_); rintro e w6 ⟨rfl, hb6⟩
    have HB6 := hid (HB5.out.trans (hb6.mono HB5.out.size))
    have HC6 := hid (HC5.out.ahead hb6)
    have H6 := hid (scriptsP_fn HC6.out HF.out (by omega))
    clear hb6 H5
    go_wp2_with fail
    (with_reducible refine H6.out.mono ?_); rintro e w7 ⟨a7, c7, rfl, hr7, hb7⟩
    have HB7 := hid (HB6.out.trans (hb7.mono HB6.out.size))
    have HC7 := hid (HC6.out.ahead hb7)
    have H7 := hid (scriptsC_fn HC7.out HF.out (by omega))
    have HR7 := hid hr7
    clear hb7 H6 hr7
    go_wp2_with fail
    (with_reducible refine H7.out.mono ?_); rintro e w8 ⟨a8, c8, rfl, hr8, hb8⟩
    have HB8 := hid (HB7.out.trans (hb8.mono HB7.out.size))
    have HC8 := hid (HC7.out.ahead hb8)
    have hsl := scrCs_count cs
    have H8 := hid (sameRows_fn (HR7.out.on hb8) hr8 (by omega))
    clear hb8 H7 HR7 hr8
    go_wp2_with fail
    (with_reducible refine H8.out.mono ?_); rintro e w9 ⟨rfl, hb9⟩
    have HB9 := hid (HB8.out.trans (hb9.mono HB8.out.size))
    have HC9 := hid (HC8.out.ahead hb9)
    have H9 := hid (countP_fn n cs HC9.out HF.out (by omega) (by omega) (by omega))
    clear hb9 H8
    go_wp2_with fail
    (with_reducible refine H9.out.mono ?_); rintro e w10 ⟨rfl, hb10⟩
    have HB10 := hid (HB9.out.trans (hb10.mono HB9.out.size))
    have HC10 := hid (HC9.out.ahead hb10)
    have H10 := hid (countR_fn n cs HC10.out HF.out (by omega) (by omega) (by omega))
    clear hb10 H9
    go_wp2_with fail
    (with_reducible refine H10.out.mono ?_); rintro e w11 ⟨rfl, hb11⟩
    have HB11 := hid (HB10.out.trans (hb11.mono HB10.out.size))
    have HC11 := hid (HC10.out.ahead hb11).low
    clear hb11 H10
    go_wp2
    obtain ⟨B, hB⟩ : ∃ B, B = w11.heap.size := ⟨_, rfl⟩
    rw [← hB] at HC11
    have HBE := hid hB
    clear hB
    go_loopg [56] cs.length (fun k iv wr => ∃ (i : Nat), iv = .int .i64 (i : Nat) ∧ Below B w11 wr ∧ i + k = cs.length)
    case atStart => exact ⟨0, rfl, Below.refl _ _, by simp⟩
    case round =>
      obtain ⟨i, rfl, hbl, hk⟩ := hrel
      have hbw := hbl.size
      by_cases hi : i < cs.length
      · have h1 := HC11.out.stay (Below.refl _ _) hbl
        obtain ⟨g1, q1, u1, e1, hw1, x0, x1⟩ := cmd_at h1 hi
        simp only [Value.slice.injEq] at e1
        obtain ⟨rfl, _, rfl⟩ := e1
        have hwl := hw1.short
        obtain ⟨ws, hws⟩ : ∃ ws, ws = cs[i].words := ⟨_, rfl⟩
        obtain ⟨bk, hbk⟩ : ∃ bk, bk = (n : Int) - (cs[i].back : Int) := ⟨_, rfl⟩
        rw [← hbk] at x0
        rw [← hws] at hw1 hwl
        obtain ⟨a3, c3, rfl⟩ : ∃ a c, u1 = .slice a ws.length c := by
          obtain ⟨a, cap, hv, _⟩ := RowIs.cell hw1
          exact ⟨a, cap, hv⟩
        have HWS := hid (fun w2 (h2 : Below B w11 w2) => hw1.stay hbl h2)
        have HB0 := hid (hbl.trans ((belowA wr (.cells #[.int .i64 bk, .slice a3 ws.length c3] 47)).mono (by have := HBE.out; omega)))
        have hi1 : (0 : Int) ≤ (i : Int) ∧ (i : Int) < (cs.length : Int) := by omega
        have hi2 : (i : Int) < (cs.length : Int) := by omega
        clear hw1 hws hbk h1 hbl hbw
        go_wp2
        clear x0 x1 hi1 hi2
        go_loopg [63] ws.length (fun k2 jv wr2 => ∃ (j : Nat), jv = .int .i64 (j : Nat) ∧ Below B w11 wr2 ∧ j + k2 = ws.length)
        case atStart => exact ⟨0, rfl, HB0.out, by simp⟩
        case round =>
          obtain ⟨j, rfl, hbl2, hk2⟩ := hrel
          clear HB0
          by_cases hj : j < ws.length
          · have hw2 := HWS.out _ hbl2
            obtain ⟨g2, q2, t1, e2, ht1, p0, p1⟩ := wd_at hw2 hj
            simp only [Value.slice.injEq] at e2
            obtain ⟨rfl, _, rfl⟩ := e2
            obtain ⟨ts, hts⟩ : ∃ ts, ts = ws[j].toks := ⟨_, rfl⟩
            obtain ⟨sp, hsp⟩ : ∃ sp, sp = ws[j].spread := ⟨_, rfl⟩
            rw [← hts] at ht1
            rw [← hsp] at p0
            obtain ⟨a5, c5, rfl⟩ : ∃ a c, t1 = .slice a ts.length c := by
              obtain ⟨a, cap, hv, _⟩ := RowIs.cell ht1
              exact ⟨a, cap, hv⟩
            have hj1 : (0 : Int) ≤ (j : Int) ∧ (j : Int) < (ws.length : Int) := by omega
            have hj2 : (j : Int) < (ws.length : Int) := by omega
            obtain ⟨w12, hw12⟩ : ∃ w12, w12 = wr.alloc (.cells #[.bool sp, .slice a5 ts.length c5] 49) := ⟨_, rfl⟩
            have hb1 : Below wr.heap.size wr w12 := by rw [hw12]; exact belowA _ _
            have hbk1 : w12.heap[wr.heap.size]? = some (.cells #[.bool sp, .slice a5 ts.length c5] 49 (0, 0)) := by rw [hw12]; exact heap_alloc_new _ _
            have hbB : B ≤ wr.heap.size := by have := hbl2.size; have := HBE.out; omega
            have HB12 := hid (hbl2.trans (hb1.mono hbB))
            have HTS := hid (fun w3 (h3 : Below B w11 w3) => ht1.stay hbl2 h3)
            have HL1 := hid (litP_fn (sp := sp) (HTS.out w12 HB12.out))
            have HK1 := hid hbk1
            have HW12 := hid hw12
            clear hts hsp hw12 hb1 hbk1 hw2 ht1 hbl2
            cases hlo : litOf ⟨sp, ts⟩ with
            | none =>
              go_wp2_with fail
              rw [← HW12.out]
              (with_reducible refine HL1.out.mono ?_); rintro e w13 ⟨rfl, hb13⟩
              have HK3 := hid ((hb13.block _ ((Array.getElem?_eq_some_iff.1 HK1.out).1)).trans HK1.out)
              have HB13 := hid (HB12.out.trans (hb13.mono (by have := HB12.out.size; have := HBE.out; omega)))
              have z0 : w13.cell? ⟨wr.heap.size, 0, none⟩ = some (.bool sp) := by rw [Lib.cell_of_heap HK3.out]; rfl
              have z1 : w13.cell? ⟨wr.heap.size, 1, none⟩ = some (.slice a5 ts.length c5) := by rw [Lib.cell_of_heap HK3.out]; rfl
              have HL2 := hid (litR_fn (sp := sp) (HTS.out w13 HB13.out))
              rw [litVal, hlo] at HL2 ⊢
              clear hb13 p0 p1 hj1 hj2 hlo
              go_wp2_with fail
              (with_reducible refine HL2.out.mono ?_); rintro e w14 ⟨rfl, hb14⟩
              have HB14 := hid (HB13.out.trans (hb14.mono (by have := HB13.out.size; have := HBE.out; omega)))
              clear hb14 z0 z1
              go_wp2
              go_roundg (ws.length - (j + 1))
              case measure => omega
              case rel => exact ⟨j + 1, by go_num, HB14.out, by omega⟩
            | some s0 =>
              go_wp2_with fail
              rw [← HW12.out]
              (with_reducible refine HL1.out.mono ?_); rintro e w13 ⟨rfl, hb13⟩
              have HK3 := hid ((hb13.block _ ((Array.getElem?_eq_some_iff.1 HK1.out).1)).trans HK1.out)
              have HB13 := hid (HB12.out.trans (hb13.mono (by have := HB12.out.size; have := HBE.out; omega)))
              have z0 : w13.cell? ⟨wr.heap.size, 0, none⟩ = some (.bool sp) := by rw [Lib.cell_of_heap HK3.out]; rfl
              have z1 : w13.cell? ⟨wr.heap.size, 1, none⟩ = some (.slice a5 ts.length c5) := by rw [Lib.cell_of_heap HK3.out]; rfl
              have HL2 := hid (litR_fn (sp := sp) (HTS.out w13 HB13.out))
              rw [litVal, hlo] at HL2 ⊢
              clear hb13 p0 p1 hj1 hj2 hlo
              go_wp2_with fail
              (with_reducible refine HL2.out.mono ?_); rintro e w14 ⟨rfl, hb14⟩
              have HB14 := hid (HB13.out.trans (hb14.mono (by have := HB13.out.size; have := HBE.out; omega)))
              clear hb14 z0 z1
              go_wp2
              go_roundg (ws.length - (j + 1))
              case measure => omega
              case rel => exact ⟨j + 1, by go_num, HB14.out, by omega⟩
          · have HB2 := hid hbl2
            clear hbl2
            go_wp2
            go_roundg (cs.length - (i + 1))
            case measure => omega
            case rel => exact ⟨i + 1, by go_num, HB2.out, by omega⟩
      · have HB12 := hid (HB11.out.trans (hbl.mono (by have := HBE.out; have := HB11.out.size; omega)))
        clear hbl hbw
        go_wp2_with fail
        (with_reducible refine (AW _).out.mono ?_); rintro e w2' ⟨rfl, hb⟩
        go_wp2
        go_ret
        exact ⟨rfl, HB12.out.trans (hb.mono HB12.out.size)⟩
  · have nz : (z != 0) = true := by rw [bne_iff_ne]; exact hz
    have HB1 := hid hb1
    clear hz hC hb1
    go_wp2_with fail
    (with_reducible refine (AW _).out.mono ?_); rintro e w2 ⟨rfl, hb⟩
    go_wp2
    go_ret
    exact ⟨rfl, HB1.out.trans (hb.mono HB1.out.size)⟩
end Go.Proofs.YtkgpmkkodpjdfaaGreatDoor.Pz
namespace Go.Proofs.YtkgpmkkodpjdfaaGreatDoor.parseTells
open Go.ChangeMaps Go.ChangeShapes Go.WideShapes Go.ChangeAt Go.RowKit
theorem own : ownKnob Tryz.prog.godebug = none := by kernel_rfl
theorem ok_true {P : Program} {W' : World} {f : Func} {t : TypeId} (hr : f.resultTypes = #[t]) (ht : P.underlying t = some .bool) :
    ∀ (j : Nat) (t' : TypeId) (r : Value), f.resultTypes[j]? = some t' → ((Value.bool true).resultList f.resultTypes.size)[j]? = some r → Value.okWide P W' .any 0 t' r := ok_one hr rfl (okWide_bool_mk ht true)
section
variable {H : Type} {enc : TypeId × Value → H}
set_option maxRecDepth 100000 in
theorem post_below {f : Func} {s : ChangeSpec} {W W' : World} {args : Array Value} {v : Value} {ds gs : List (DataW H)}
    (hW : DataW.Whole enc Tryz.prog f.params.toList s.vars false W args.toList ds gs [])
    (hres : ∀ (b : Nat) (sp : Nat → Bool) (hd : Bool), DataW.TrodAll enc Tryz.prog W' b sp hd f.resultTypes.toList (v.resultList f.resultTypes.size) (s.fn H (ds ++ gs)).results [])
    (hargs : ∀ sp : Nat → Bool, DataW.TrodAll enc Tryz.prog W' 0 sp true f.params.toList args.toList (s.fn H (ds ++ gs)).args [])
    (hvars : ∀ sp : Nat → Bool, DataW.TrodVars enc Tryz.prog W' sp s.vars (s.fn H (ds ++ gs)).vars []) (hb : Below W.heap.size W W')
    (hok : ∀ (j : Nat) (t : TypeId) (r : Value), f.resultTypes[j]? = some t → (v.resultList f.resultTypes.size)[j]? = some r → Value.okWide Tryz.prog W' .any 0 t r) :
    s.post enc Tryz.prog f false true false false W args v W' := by
  refine ⟨ds, gs, [], [], [], [], hW, hres _ _ _, hargs _, hvars _, World.keptBut_mono (fun p hp => ⟨hp, .inr (.inr hp)⟩) (hb.frame (· ∈ ([] : List MemPlace))), fun _ => ?_⟩
  refine ⟨hok, _, _, ([] ++ []) ++ [], ⟨[] ++ [], [], trodAll_append (hargs _) (hres _ _ _), hvars _, rfl, ?_, ?_⟩, ?_⟩
  · intro b off hp
    simp at hp
  · intro h
    cases h
  · intro p hp _
    simp at hp
end
theorem tab_of {W : World} (hl : laidMetH Tryz.prog Rows.parseTellsRow.laid W) : Lib.TabIs Tryz.prog W "internal/strconv.uint64pow10" .u64 Lib.pow10Tab := by
  rw [MakeChecks.laidMetH_plain _ _ _ (by kernel_rfl)] at hl
  have h3 := hl.tail.tail
  have e : (Rows.laid_internal_strconv_uint64pow10 : DataW Unit) = Lib.tabData .u64 Lib.pow10Tab := by kernel_rfl
  have h4 : laidMet Tryz.prog (("internal/strconv.uint64pow10", Lib.tabData .u64 Lib.pow10Tab) :: [("unicode/utf8.acceptRanges", Rows.laid_unicode_utf8_acceptRanges), ("unicode/utf8.first", Rows.laid_unicode_utf8_first)]) W := by
    rw [← e]; exact h3
  exact Lib.tabIs_of_head (g := 1) (t := 159) (e := 146) (n := 20) (by kernel_rfl) (by kernel_rfl) (by kernel_rfl) (by kernel_rfl) (by kernel_rfl) (by kernel_rfl) h4
theorem contract (H : Type) (enc : TypeId × Value → H) (W : World) (base : Nat) (args : Array Value) (ds gs : List (DataW H)) (before : List MemPlace)
    (hval : ∀ (j : Nat) t v, Tryz.f5.params[j]? = some t → args[j]? = some v → Value.okWide Tryz.prog W .any base t v)
    (hW : DataW.Whole enc Tryz.prog Tryz.f5.params.toList Rows.parseTellsSpec.vars false W args.toList ds gs before) (hl : laidMetH Tryz.prog Rows.parseTellsRow.laid W) (hml : Pz.ML W) :
    Calls Tryz.prog 5 args W fun e W' => ∃ v, e = .returned v ∧ Rows.parseTellsSpec.post enc Tryz.prog Tryz.f5 false true false false W args v W' := by
  have hW' := hW
  obtain ⟨p, q, hA0, hV, rfl, hfz, hnd⟩ := hW
  have hA : DataW.TrodAll enc Tryz.prog W 0 (fun _ => true) true Tryz.f5.params.toList args.toList ds p := hA0
  rw [Tryz.params5] at hA hval
  obtain ⟨v0, vs0, d0, ds0, p0, q0, hargs, rfl, rfl, h0, r0⟩ := trodAll_cons hA
  obtain ⟨rfl, rfl, rfl⟩ := trodAll_nil r0
  obtain rfl : args = #[v0] := by cases args; simp_all
  obtain ⟨rfl, rfl⟩ := trodVars_none hV
  obtain ⟨s0, rfl, rfl, rfl, m0⟩ := open_string Tryz.underlying9 (by with_reducible exact hval 0 9 v0 (by simp) (by simp)) h0
  clear hA0
  simp only [List.append_nil] at hW'
  have e0 : s0 = ⟨s0.data.toList.toArray⟩ := by cases s0; simp
  have q0 : s0.data.toList.length ≤ 9223372036854775807 := by
    have h1 : s0.data.toList.length = s0.size := by rw [Array.length_toList]; rfl
    have h2 := m0
    unfold maxLen at h2
    omega
  have htab := tab_of hl
  have walk := Pz.parseTells_fn s0.data.toList W q0 (fun w' h => ⟨hml.below h, Lib.tabBelow_of_tabIs htab w' h⟩)
  rw [← e0] at walk
  refine walk.mono fun e W' ⟨he, hg⟩ => ?_
  subst he
  exact ⟨_, rfl, post_below hW' (fun _ _ _ => trodAll_cons_mk (shut_bool Tryz.underlying4 _) trodAll_mk0) (fun _ => trodAll_cons_mk (shut_string Tryz.underlying9 m0) trodAll_mk0) (fun _ => rfl) hg (@ok_true Tryz.prog W' Tryz.f5 4 (by kernel_rfl) Tryz.underlying4)⟩
theorem reads (os : Os) {H : Type} (enc : TypeId × Value → H) : ∃ places, DataW.whole enc Tryz.prog ((World.laidAll Tryz.prog os Rows.parseTellsRow.laid).forCall (fun _ _ => 0) ⟨#[], #[.string .empty], []⟩).memory Tryz.f5.params.toList Rows.parseTellsSpec.vars false (#[.string .empty] : Array Value).toList 8 = some ([.lit (.string [])], [], places) :=
  ⟨[], by kernel_rfl⟩
set_option maxRecDepth 100000 in
theorem lifted (os : Os) (started : os.Started) (H : Type) (enc : TypeId × Value → H) (F : Stop.Interp) :
    ReturnsInHanded {} Tryz.checked os 5 .any ((OpenSpec.ofChange Rows.parseTellsSpec).preRow enc Tryz.prog Tryz.f5 Rows.parseTellsRow.domain false Rows.parseTellsRow.laid) (((OpenSpec.ofChange Rows.parseTellsSpec).at F).post enc Tryz.prog Tryz.f5 false true false false) := by
  obtain ⟨places, hx⟩ := reads os enc
  have hl : laidMetH Tryz.prog Rows.parseTellsRow.laid ((World.laidAll Tryz.prog os Rows.parseTellsRow.laid).forCall (fun _ _ => 0) ⟨#[], #[.string .empty], []⟩).memory := by
    rw [MakeChecks.laidMetH_plain _ _ _ (by kernel_rfl)]
    exact laidMet_laidAll _ (by kernel_rfl) (by kernel_rfl)
  refine returnsInHanded_of_row (C := Tryz.checked) (s := (OpenSpec.ofChange Rows.parseTellsSpec)) own started (by kernel_rfl) Tryz.func5
    (witness_row_at (enc := enc) (C := Tryz.checked) false (World.laidAll Tryz.prog os Rows.parseTellsRow.laid) #[.string .empty] (World.laidAll_os _ _ _) (by kernel_rfl) (by kernel_rfl) (by kernel_rfl)
      (OpenSpec.preRow_of_cond 8 hx (by kernel_rfl) (fun k hk => by cases hk) (by kernel_rfl) hl)) ?_
  intro W base args ds gs before hval hW _ _ _ hlaid hsh _
  exact contract H enc W base args ds gs before hval hW hlaid (cell_of_shapedOpen_int (t := 3) (zero := #[.int .i64 0]) hsh (of_decide_eq_true (by kernel_rfl)) (by kernel_rfl) rfl (by kernel_rfl) (by kernel_rfl) Tryz.underlying3)
theorem said : Rows.ParseTellsSaid :=
  OpenClaim.holds_of_cond 5 Tryz.f5 rfl rfl rfl rfl rfl rfl rfl ⟨rfl, rfl, rfl, rfl, rfl⟩ rfl rfl rfl rfl rfl (by kernel_rfl) Tryz.func5 (by kernel_rfl)
    (of_decide_eq_true (by kernel_rfl)) (by unfold Func.isWrapper; first | (rw [if_pos (by decide +kernel)]; kernel_rfl) | (rw [if_neg (by decide +kernel)]; exact ⟨rfl, rfl⟩))
    (fun os started H enc _ F => by rw [OpenClaim.pre_eq_preRow]; exact lifted os started H enc F)
theorem plain (f : FuncId) (fn : Func) (hf : Tryz.pinned.checked.prog.funcNamed "threadbare/threadbarelaw06.ParseTells" = some f) (hfn : Tryz.pinned.checked.prog.funcs[f]? = some fn) :
    true = Tryz.pinned.checked.prog.looks [] ∧ ∀ (j : Nat) t, fn.params[j]? = some t → Tryz.pinned.checked.prog.wantsStandIn t = false := by
  obtain rfl : f = 5 := Option.some.inj ((show Tryz.prog.funcNamed "threadbare/threadbarelaw06.ParseTells" = some 5 by kernel_rfl).symm.trans hf) |>.symm
  obtain rfl : fn = Tryz.f5 := (Option.some.inj (Tryz.func5.symm.trans hfn)).symm
  refine ⟨by kernel_rfl, fun j t ht => ?_⟩
  rw [Tryz.params5] at ht
  have ht := Array.mem_of_getElem? ht
  simp at ht
  subst ht
  exact (show Tryz.prog.wantsStandIn 9 = false by kernel_rfl)
theorem card : Rows.ParseTellsCardSaid :=
  Claim7.holds_tied_plain_at .later [] _ _ _ _ said (fun _ h => by cases h) (by kernel_rfl) (fun _ h => by cases h) parseTells_row_tie rfl ⟨rfl, rfl⟩ (by kernel_rfl) rfl plain (by kernel_rfl)
end Go.Proofs.YtkgpmkkodpjdfaaGreatDoor.parseTells
