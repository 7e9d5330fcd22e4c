/-
  ParseListsCard: the law's card and what it alone needs, merged from 2 texts. Conditions: the row's own.
-/
import Derived.Test.YtkgpmkkodpjdfaaDoorCards
import Derived.Test.YtkgpmkkodpjdfaaDoorTie
import Derived.Deep.DeepHandedRow
import Derived.ProofKit
import Derived.OpenShut
import Derived.Lay
import Derived.MakeChecks
import Derived.ChangeMaps5
import Derived.SliceStrings
import Derived.Carry
import Derived.Shelf.Vars
import Derived.Test.YtkgpmkkodpjdfaaDoorK0
import Derived.Test.YtkgpmkkodpjdfaaDoorK1
import Derived.Test.YtkgpmkkodpjdfaaDoorK2
import Derived.Test.YtkgpmkkodpjdfaaDoorK3
import Derived.Test.YtkgpmkkodpjdfaaDoorK4
import Derived.Test.YtkgpmkkodpjdfaaDoorK5
import Derived.Test.YtkgpmkkodpjdfaaDoorK6
/-
  P6.2: the law ParseLists. Condition: the library's variable internal/bytealg.MaxLen holds some int; the texts are not too many.
-/
namespace Go.Proofs.YtkgpmkkodpjdfaaDoor.Pz
open Go.RowKit
def sumOne (l : List Str) : Nat := sumLen l + l.length
theorem sum_mem : ∀ (l : List Str) (s : Str), s ∈ l → s.length ≤ sumLen l
  | [], _, h => by cases h
  | a :: l, s, h => by
    rw [sumLen]
    rcases List.mem_cons.1 h with rfl | h
    · omega
    · have := sum_mem l s h
      omega
set_option maxRecDepth 100000 in
set_option maxHeartbeats 4000000 in
theorem parseLists_fn (l : List Str) (v : Value) (w : World) (hm : ML w) (hv : StrsAt w v l) (hb : sumLen l + l.length ≤ 2000000) :
    Calls Tryd.prog 5 #[v] w fun e w' => e = .returned (.bool true) ∧ Below w.heap.size w w' := by
  have hv0 := hv
  obtain ⟨a, cap, rfl, hcap, hcell⟩ := hv
  obtain ⟨n, hn⟩ : ∃ n, n = l.length := ⟨_, rfl⟩
  have AW := fun u => hid (awake_fn u)
  have HV := hid hcell
  have HS := hid (sumLen_drop l)
  have HM := hid hm
  have HV0 := hid hv0
  have hs0 : 0 + sumLen (l.drop 0) + (n - 0) = sumLen l + n := by rw [List.drop_zero]; omega
  have HN := hid hn
  have HS0 := hid hs0
  rw [← hn] at hcap hb ⊢
  clear hcell hv0 hm hs0 hn
  go_enter Tryd.func5, Tryd.ntmps5
  go_wp2_with fail
  go_loopg [3, 18] n (fun k mv iv wr => ∃ (m i : Nat), mv = .int .i64 (m : Nat) ∧ iv = .int .i64 (i : Nat) ∧ i ≤ n ∧ m + sumLen (l.drop i) + (n - i) = sumLen l + n ∧ wr = w ∧ k = n - i)
  case atStart => exact ⟨0, 0, rfl, rfl, Nat.zero_le _, HS0.out, rfl, by simp⟩
  case round =>
    obtain ⟨m, i, rfl, rfl, hi, hms, hw, rfl⟩ := hrel
    replace hw := hw.symm
    subst hw
    rcases Nat.lt_or_ge i n with hlt | hge
    · have hlt' : i < l.length := by rw [← HN.out]; exact hlt
      obtain ⟨p, rfl, hbb, hcw⟩ := HV.out i hlt'
      have hsd := HS.out i hlt'
      rw [hsd] at hms
      generalize l[i] = s at hcw hms
      have hsz : (⟨s.toArray⟩ : ByteArray).size = s.length := Lib.size_mk _
      clear hsd
      by_cases h0 : i = 0
      · subst h0
        replace hcw : w.cell? p = some (.string ⟨s.toArray⟩) := hcw
        go_wp2
        go_roundg (n - (0 + 1))
        case measure => omega
        case rel => exact ⟨m + s.length + 1, 0 + 1, by go_num, by go_num, by omega, by omega, rfl, rfl⟩
      · go_wp2
        go_roundg (n - (i + 1))
        case measure => omega
        case rel => exact ⟨m + s.length + 1, i + 1, by go_num, by go_num, by omega, by omega, rfl, rfl⟩
    · obtain rfl : i = n := by omega
      have hm2 : m = sumLen l + i := by
        have h1 : l.drop i = [] := List.drop_eq_nil_of_le (by rw [← HN.out]; exact Nat.le_refl _)
        rw [h1] at hms
        have h2 : sumLen [] = 0 := rfl
        omega
      have HM2 := hid hm2
      clear hms hm2
      by_cases hbig : 800 < m
      · have hbig' : (m : Int) > 800 := by omega
        go_wp2_with fail
        (with_reducible refine (AW _).out.mono ?_); rintro e w1 ⟨rfl, hb1⟩
        go_wp2
        go_ret
        exact ⟨rfl, hb1⟩
      · have hbig' : ¬ (m : Int) > 800 := by omega
        by_cases h0 : i = 0
        · subst h0
          go_wp2_with fail
          (with_reducible refine (AW _).out.mono ?_); rintro e w1 ⟨rfl, hb1⟩
          go_wp2
          go_ret
          exact ⟨rfl, hb1⟩
        · have hi0 : ((i : Int) == 0) = false := by rw [beq_eq_false_iff_ne]; omega
          have hlen : l.length ≤ 10000 := by rw [← HN.out]; have := HM2.out; omega
          have hall : ∀ s ∈ l, s.length ≤ 65536 := fun s hs => by have := sum_mem l s hs; have := HM2.out; omega
          have hq3 : (quotedL l).length ≤ 65536 := by
            have h1 := quotedL_len l
            rw [← HN.out] at h1
            have := HM2.out
            omega
          obtain ⟨sf, lr, hl⟩ : ∃ sf lr, l = sf :: lr := by
            cases l with
            | nil => exact absurd HN.out h0
            | cons a b => exact ⟨a, b, rfl⟩
          have hlaw := quoted_law sf lr
          rw [← hl] at hlaw
          have HQ1 := fun u (hm : ML u) (hv : StrsAt u (.slice a i cap) l) => hid (quotedP_fn l _ u hm hv hlen hall hq3)
          have HQ2 := fun u (hm : ML u) (hv : StrsAt u (.slice a i cap) l) => hid (join_fn l _ u hm hv hlen hall hq3)
          have HQ3 := fun u (hv : StrsAt u (.slice a i cap) l) => hid (quotedR_fn l _ u hv hlen hall hq3)
          have HSC := fun u => hid (script_fn (s := quotedL l) (by omega) u)
          have HVW : ∀ {u : World}, Below w.heap.size w u → StrsAt u (.slice a i cap) l := fun hb => by
            have h := HV0.out.below hb
            rw [← HN.out] at h
            exact h
          have HLW := hid hlaw
          obtain ⟨Q, hQ⟩ : ∃ Q, Q = quotedL l := ⟨_, rfl⟩
          rw [← hQ] at HQ1 HQ2 HQ3 HSC HLW hq3
          clear hlaw hlen hall hl hQ
          have hqz : (⟨Q.toArray⟩ : ByteArray).size = Q.length := Lib.size_mk _
          go_wp2_with fail
          (with_reducible refine (HQ1 _ HM.out (HVW (Below.refl _ _))).out.mono ?_); rintro e w1 ⟨rfl, hb1⟩
          go_wp2_with fail
          (with_reducible refine (HQ2 _ (HM.out.below hb1) (HVW hb1)).out.mono ?_); rintro e w2 ⟨rfl, hb2⟩
          have hbl2 := hb1.trans (hb2.mono hb1.size)
          go_wp2_with fail
          (with_reducible refine (HQ3 _ (HVW hbl2)).out.mono ?_); rintro e w3 ⟨rfl, hb3⟩
          have hbl3 := hbl2.trans (hb3.mono hbl2.size)
          clear hb1 hb2 hb3 hbl2
          go_wp2_with fail
          (with_reducible refine (HSC _).out.mono ?_); rintro e w4 ⟨hb4, h4⟩
          rw [HLW.out] at h4
          obtain ⟨v, rfl, hcs⟩ := h4
          obtain ⟨g, cp, u, rfl, hws, x0, x1⟩ := cmd_at hcs (i := 0) (by simp)
          replace hws : WdsIs 38 44 w4 (New w3.heap.size) u (l.map asWord) := hws
          have x00 : w4.cell? ⟨g, 0, none⟩ = some (.int .i64 0) := by
            rw [show ((Q.length : Int) - (([⟨Q.length, l.map asWord⟩] : List Cmd)[0].back : Int)) = 0 from Int.sub_self _] at x0
            exact x0
          obtain ⟨a9, c9, rfl⟩ : ∃ a c, u = .slice a i c := by
            obtain ⟨a, cap, hv, _⟩ := RowIs.cell hws
            refine ⟨a, cap, ?_⟩
            rw [hv, List.length_map, ← HN.out]
          replace x1 : w4.cell? ⟨g, 1, none⟩ = some (.slice a9 i c9) := x1
          have hbl4 := hbl3.trans (hb4.mono hbl3.size)
          have HWS := hid hws
          have HB4 := hid hbl4
          clear hcs hws x0 hb4 hbl3 hbl4
          go_wp2_with fail
          go_loopg [91] i (fun k jv wr => ∃ (j : Nat), jv = .int .i64 (j : Nat) ∧ j ≤ i ∧ Below w4.heap.size w4 wr ∧ k = i - j)
          case atStart => exact ⟨0, rfl, Nat.zero_le _, Below.refl _ _, by simp⟩
          case round =>
            obtain ⟨j, rfl, hj, hblj, rfl⟩ := hrel
            clear x00 x1
            have hsj := hblj.size
            have hs4 := HB4.out.size
            rcases Nat.lt_or_ge j i with hlt | hge2
            · have hlt' : j < l.length := by rw [← HN.out]; exact hlt
              obtain ⟨p, rfl, hbb, hcw⟩ := HV.out j hlt'
              obtain ⟨g2, cp2, u2, e9, hts, y0, y1⟩ := wd_at (HWS.out.ahead hblj) (i := j) (by rw [List.length_map]; exact hlt')
              simp only [Value.slice.injEq] at e9
              obtain ⟨rfl, -, rfl⟩ := e9
              have hxw : (l.map asWord)[j]'(by rw [List.length_map]; exact hlt') = asWord l[j] := by simp
              rw [hxw] at hts y0
              generalize l[j] = s at hcw hts y0
              replace y0 : wr.cell? ⟨g2, j * 2, none⟩ = some (.bool false) := y0
              replace hts : ToksIs 38 wr (New w3.heap.size) u2 [Tok.txt s] := hts
              obtain ⟨a7, c7, rfl⟩ : ∃ a c, u2 = .slice a 1 c := by
                obtain ⟨a, cap, hv, _⟩ := RowIs.cell hts
                exact ⟨a, cap, hv⟩
              have hBA : Below wr.heap.size wr (wr.alloc (.cells #[.bool false, .slice a7 1 c7] 44)) := (Below.refl _ _).alloc (Nat.le_refl _) _
              have hLI := literalW_fn (hts.ahead hBA)
              have hbs := hBA.size
              have d0 : (wr.alloc (.cells #[.bool false, .slice a7 1 c7] 44)).cell? (p.add j) = some (.string ⟨s.toArray⟩) := by
                rw [hBA.cell (p := p.add j) (by rw [add_block]; omega), hblj.cell (p := p.add j) (by rw [add_block]; omega), HB4.out.cell (p := p.add j) (by rw [add_block]; exact hbb)]
                exact hcw
              have hpb : p.block < (wr.alloc (.cells #[.bool false, .slice a7 1 c7] 44)).heap.size := by omega
              have hi1 : (0 : Int) ≤ (j : Int) ∧ (j : Int) < (i : Int) := by omega
              have hi2 : (j : Int) < (i : Int) := by omega
              have HLI := hid hLI
              have HBA := hid hBA
              clear hts hcw hxw hLI hBA hbs
              by_cases hj0 : j = 0
              · subst hj0
                replace d0 : (wr.alloc (.cells #[.bool false, .slice a7 1 c7] 44)).cell? p = some (.string ⟨s.toArray⟩) := d0
                replace y0 : wr.cell? ⟨g2, 0, none⟩ = some (.bool false) := y0
                replace y1 : wr.cell? ⟨g2, 1, none⟩ = some (.slice a7 1 c7) := y1
                go_wp2_with fail
                (with_reducible refine (HLI.out).mono ?_); rintro e w5 ⟨rfl, hb5⟩
                have d1 : w5.cell? (p) = some (.string ⟨s.toArray⟩) := by rw [hb5.cell (p := p) (by exact hpb)]; exact d0
                have HB5 := hid (hblj.trans ((HBA.out.trans (hb5.mono HBA.out.size)).mono hsj))
                clear hb5 d0
                go_wp2
                go_roundg (i - (0 + 1))
                case measure => omega
                case rel => exact ⟨0 + 1, by go_num, by omega, HB5.out, rfl⟩
              · go_wp2_with fail
                (with_reducible refine (HLI.out).mono ?_); rintro e w5 ⟨rfl, hb5⟩
                have d1 : w5.cell? (p.add j) = some (.string ⟨s.toArray⟩) := by rw [hb5.cell (p := p.add j) (by rw [add_block]; exact hpb)]; exact d0
                have HB5 := hid (hblj.trans ((HBA.out.trans (hb5.mono HBA.out.size)).mono hsj))
                clear hb5 d0
                go_wp2
                go_roundg (i - (j + 1))
                case measure => omega
                case rel => exact ⟨j + 1, by go_num, by omega, HB5.out, rfl⟩
            · have hji : j = i := by omega
              subst hji
              go_wp2_with fail
              (with_reducible refine (AW _).out.mono ?_); rintro e w5 ⟨rfl, hb5⟩
              go_wp2
              go_ret
              exact ⟨rfl, HB4.out.trans ((hblj.trans (hb5.mono hsj)).mono hs4)⟩
end Go.Proofs.YtkgpmkkodpjdfaaDoor.Pz
/-
  ParseLists: the row and its card (the second form: arguments of bulk at most 1048576). Condition: the listed package-level variables hold what the row lists (the card ties them to the text).
-/
namespace Go.Proofs.YtkgpmkkodpjdfaaDoor.parseLists
open Go.ChangeMaps Go.ChangeShapes Go.WideShapes Go.ChangeAt Go.RowKit
theorem own : ownKnob Tryd.prog.godebug = none := by kernel_rfl
theorem ok_true {P : Program} {W' : World} {f : Func} {t : TypeId} (hr : f.resultTypes = #[t]) (ht : P.underlying t = some .bool) :
    ∀ (j : Nat) (t' : TypeId) (r : Value), f.resultTypes[j]? = some t' → ((Value.bool true).resultList f.resultTypes.size)[j]? = some r → Value.okWide P W' .any 0 t' r := ok_one hr rfl (okWide_bool_mk ht true)
section
variable {H : Type} {enc : TypeId × Value → H}
/-- the row's last step: the arguments' places read as they did, no variable is asked, what lay below is as it was -/
theorem post_rows {f : Func} {s : ChangeSpec} {W W' : World} {args : Array Value} {v : Value} {ds gs : List (DataW H)} {before pa : List MemPlace}
    (hW : DataW.Whole enc Tryd.prog f.params.toList s.vars false W args.toList ds gs before)
    (hres : ∀ (b : Nat) (sp : Nat → Bool) (hd : Bool), DataW.TrodAll enc Tryd.prog W' b sp hd f.resultTypes.toList (v.resultList f.resultTypes.size) (s.fn H (ds ++ gs)).results [])
    (hargs : DataW.TrodAll enc Tryd.prog W' 0 (fun b => decide (b < W.heap.size)) true f.params.toList args.toList (s.fn H (ds ++ gs)).args pa)
    (hvars : ∀ sp : Nat → Bool, DataW.TrodVars enc Tryd.prog W' sp s.vars (s.fn H (ds ++ gs)).vars []) (hb : Below W.heap.size W W') :
    s.post enc Tryd.prog f false true false false W args v W' :=
  ⟨ds, gs, before, [], pa, [], hW, hres _ _ _, hargs, hvars _, hb.frame _, fun h => by cases h⟩
theorem laidOut : laidOutB Tryd.prog = true := by kernel_rfl
theorem getD_data (ss : List ByteArray) (n i : Nat) (h : i < ((ss.take n).map (fun x : ByteArray => x.data.toList)).length) : (.string (ss.getD i ByteArray.empty) : Value) = .string ⟨(((ss.take n).map (fun x : ByteArray => x.data.toList))[i]).toArray⟩ := by
  simp only [List.length_map, List.length_take] at h
  have h1 : i < ss.length := by omega
  rw [List.getElem_map, List.getElem_take, List.getD_eq_getElem?_getD, List.getElem?_eq_getElem h1]
  cases ss[i]
  simp
theorem bulk_strs (ss : List ByteArray) : Rows.uptoBulkAll (strs (H := H) ss) = Pz.sumLen (ss.map (·.data.toList)) + ss.length := by
  induction ss with
  | nil => rfl
  | cons a ss ih =>
    show a.data.toList.length + 1 + Rows.uptoBulkAll (strs (H := H) ss) = a.data.toList.length + Pz.sumLen (ss.map (·.data.toList)) + (ss.length + 1)
    rw [ih]
    omega
end
theorem contract (H : Type) (enc : TypeId × Value → H) (W : World) (base : Nat) (args : Array Value) (ds gs : List (DataW H)) (before : List MemPlace)
    (hval : ∀ (j : Nat) t v, Tryd.f5.params[j]? = some t → args[j]? = some v → Value.okWide Tryd.prog W .any base t v)
    (hW : DataW.Whole enc Tryd.prog Tryd.f5.params.toList Rows.parseListsSpec.vars false W args.toList ds gs before) (hk : Rows.uptoSmall H (ds ++ gs) = true) (hml : Pz.ML W) :
    Calls Tryd.prog 5 args W fun e W' => ∃ v, e = .returned v ∧ Rows.parseListsSpec.post enc Tryd.prog Tryd.f5 false true false false W args v W' := by
  have hW' := hW
  obtain ⟨p, q, hA0, hV, rfl, hfz, hnd⟩ := hW
  have hA : DataW.TrodAll enc Tryd.prog W 0 (fun _ => true) true Tryd.f5.params.toList args.toList ds p := hA0
  rw [Tryd.params5] at hA hval
  obtain ⟨v0, vs0, d0, ds0, p0, q0, hargs, rfl, rfl, h0, r0⟩ := trodAll_cons hA
  obtain ⟨rfl, rfl, rfl⟩ := trodAll_nil r0
  obtain rfl : args = #[v0] := by cases args; simp_all
  obtain ⟨rfl, rfl⟩ := trodVars_none hV
  obtain ⟨a0, n0, c0, rfl⟩ := okWide_slice Tryd.underlying39 (by with_reducible exact hval 0 39 v0 (by simp) (by simp))
  have h0k := h0
  obtain ⟨fuel, hf⟩ := h0
  clear hA0
  simp only [List.append_nil] at hW' hk
  have hlt : ∀ x ∈ p0, x.block < W.heap.size := fun x hx => by simpa using hW'.lt x hx
  have fin : ∀ l : List Pz.Str, Pz.StrsAt W (.slice a0 n0 c0) l → Pz.sumLen l + l.length ≤ 2000000 →
      Calls Tryd.prog 5 #[.slice a0 n0 c0] W fun e W' => ∃ v, e = .returned v ∧ Rows.parseListsSpec.post enc Tryd.prog Tryd.f5 false true false false W #[.slice a0 n0 c0] v W' := by
    intro l hl hb
    refine (Pz.parseLists_fn l _ W hml hl hb).mono fun e W' ⟨he, hg⟩ => ?_
    subst he
    exact ⟨_, rfl, post_rows hW' (fun _ _ _ => trodAll_cons_mk (shut_bool Tryd.underlying4 _) trodAll_mk0) (trodAll_mk1 (Below.trod laidOut (by kernel_rfl) (of_decide_eq_true (by kernel_rfl)) h0k hg hlt)) (fun _ => rfl) hg⟩
  have hb := of_decide_eq_true hk
  rcases open_strings Tryd.underlying39 Tryd.underlying9 (by kernel_rfl) hf with ⟨hcs, hx⟩ | ⟨a, len', cap', ss, hcs, _, hl, hm, hz, hx, hcell, hws⟩
  · simp [Value.cells] at hcs
    obtain ⟨rfl, rfl, rfl⟩ := hcs
    exact fin [] ⟨none, 0, rfl, Nat.le_refl _, fun i hi => absurd hi (by simp)⟩ (by decide)
  · simp [Value.cells] at hcs
    obtain ⟨rfl, rfl, rfl⟩ := hcs
    simp only [Prod.mk.injEq] at hx
    obtain ⟨rfl, rfl⟩ := hx
    simp only [if_true] at hz
    have hln : ((ss.take n0).map (·.data.toList)).length = n0 := by rw [List.length_map, List.length_take]; omega
    refine fin ((ss.take n0).map (·.data.toList)) ⟨some a, c0, by rw [hln], by rw [hln]; exact hl, fun i hi => ⟨a, rfl, ?_, ?_⟩⟩ ?_
    · obtain ⟨b, off, spot⟩ := a
      rw [hln] at hi
      have hc0 := hcell 0 (by omega)
      have hspot : spot = none := by simpa [Addr.add] using World.cell?_spot hc0
      subst hspot
      exact hlt (.cell b off) (MemPlace.mem_row.2 ⟨0, by omega, by simp⟩)
    · rw [hcell i (by rw [hln] at hi; omega), getD_data ss n0 i hi]
    · have h1 : Rows.uptoBulkAll [DataW.slice (strs (H := H) (ss.take n0)) (strs (ss.drop n0))] = Rows.uptoBulkAll (strs (H := H) (ss.take n0)) + Rows.uptoBulkAll (strs (H := H) (ss.drop n0)) + 1 + 0 := rfl
      rw [h1, bulk_strs] at hb
      rw [hln]
      rw [List.length_take] at hb
      omega
theorem reads (os : Os) {H : Type} (enc : TypeId × Value → H) : ∃ places, DataW.whole enc Tryd.prog ((World.laidAll Tryd.prog os Rows.parseListsUptoRow.laid).forCall (fun _ _ => 0) ⟨#[], #[.slice none 0 0], []⟩).memory Tryd.f5.params.toList Rows.parseListsSpec.vars false (#[.slice none 0 0] : Array Value).toList 8 = some ([.nil], [], places) :=
  ⟨[], by kernel_rfl⟩
set_option maxRecDepth 100000 in
theorem lifted (os : Os) (started : os.Started) (H : Type) (enc : TypeId × Value → H) (F : Stop.Interp) :
    ReturnsInHanded {} Tryd.checked os 5 .any ((Rows.OpenSpec.upto Rows.parseListsSpec).preRow enc Tryd.prog Tryd.f5 Rows.parseListsUptoRow.domain false Rows.parseListsUptoRow.laid) (((Rows.OpenSpec.upto Rows.parseListsSpec).at F).post enc Tryd.prog Tryd.f5 false true false false) := by
  obtain ⟨places, hx⟩ := reads os enc
  have hl : laidMetH Tryd.prog Rows.parseListsUptoRow.laid ((World.laidAll Tryd.prog os Rows.parseListsUptoRow.laid).forCall (fun _ _ => 0) ⟨#[], #[.slice none 0 0], []⟩).memory := by
    rw [MakeChecks.laidMetH_plain _ _ _ (by kernel_rfl)]
    exact laidMet_laidAll _ (by kernel_rfl) (by kernel_rfl)
  refine returnsInHanded_of_row (C := Tryd.checked) (s := (Rows.OpenSpec.upto Rows.parseListsSpec)) own started (by kernel_rfl) Tryd.func5
    (witness_row_at (enc := enc) (C := Tryd.checked) false (World.laidAll Tryd.prog os Rows.parseListsUptoRow.laid) #[.slice none 0 0] (World.laidAll_os _ _ _) (by kernel_rfl) (by kernel_rfl) (by kernel_rfl)
      (OpenSpec.preRow_of_cond 8 hx (by kernel_rfl) (fun k hk => by cases hk; kernel_rfl) (by kernel_rfl) hl)) ?_
  intro W base args ds gs before hval hW _ hcond _ _ hsh _
  exact contract H enc W base args ds gs before hval hW (hcond _ rfl) (cell_of_shapedOpen_int (t := 3) (zero := #[.int .i64 0]) hsh (of_decide_eq_true (by kernel_rfl)) (by kernel_rfl) rfl (by kernel_rfl) (by kernel_rfl) Tryd.underlying3)
theorem said : Rows.ParseListsUptoSaid :=
  OpenClaim.holds_of_cond 5 Tryd.f5 rfl rfl rfl rfl rfl rfl rfl ⟨rfl, rfl, rfl, rfl, rfl⟩ rfl rfl rfl rfl rfl (by kernel_rfl) Tryd.func5 (by kernel_rfl)
    (of_decide_eq_true (by kernel_rfl)) (by unfold Func.isWrapper; first | (rw [if_pos (by decide +kernel)]; kernel_rfl) | (rw [if_neg (by decide +kernel)]; exact ⟨rfl, rfl⟩))
    (fun os started H enc _ F => by rw [OpenClaim.pre_eq_preRow]; exact lifted os started H enc F)
theorem plain (f : FuncId) (fn : Func) (hf : Tryd.pinned.checked.prog.funcNamed "threadbare/threadbarelaw06.ParseLists" = some f) (hfn : Tryd.pinned.checked.prog.funcs[f]? = some fn) :
    true = Tryd.pinned.checked.prog.looks [] ∧ ∀ (j : Nat) t, fn.params[j]? = some t → Tryd.pinned.checked.prog.wantsStandIn t = false := by
  obtain rfl : f = 5 := Option.some.inj ((show Tryd.prog.funcNamed "threadbare/threadbarelaw06.ParseLists" = some 5 by kernel_rfl).symm.trans hf) |>.symm
  obtain rfl : fn = Tryd.f5 := (Option.some.inj (Tryd.func5.symm.trans hfn)).symm
  refine ⟨by kernel_rfl, fun j t ht => ?_⟩
  rw [Tryd.params5] at ht
  have ht := Array.mem_of_getElem? ht
  simp at ht
  subst ht
  exact (show Tryd.prog.wantsStandIn 39 = false by kernel_rfl)
theorem card : Rows.ParseListsUptoCardSaid :=
  Claim7.holds_tied_plain_at .later [] _ _ _ _ said (fun _ h => by cases h) (by kernel_rfl) (fun _ h => by cases h) parseListsUpto_row_tie rfl ⟨rfl, rfl⟩ (by kernel_rfl) rfl plain (by kernel_rfl)
end Go.Proofs.YtkgpmkkodpjdfaaDoor.parseLists
