/-
  ParsePlacesCard: the law's card and what it alone needs, merged from 2 texts. Conditions: the row's own.
-/
import Derived.Test.YtkgpmkkodpjdfaaDoorCards
import Derived.Test.YtkgpmkkodpjdfaaDoorTie
import Derived.Deep.DeepHandedRow
import Derived.ProofKit
import Derived.OpenShut
import Derived.Lay
import Derived.MakeChecks
import Derived.ChangeMaps5
import Derived.Test.YtkgpmkkodpjdfaaDoorK0
import Derived.Test.YtkgpmkkodpjdfaaDoorK1
import Derived.Test.YtkgpmkkodpjdfaaDoorK2
import Derived.Test.YtkgpmkkodpjdfaaDoorK3
import Derived.Test.YtkgpmkkodpjdfaaDoorK4
import Derived.Test.YtkgpmkkodpjdfaaDoorK5
/-
  P6.4 and P6.5: the walk.
-/
namespace Go.Proofs.YtkgpmkkodpjdfaaDoor.Pz
open Go.RowKit
def off3 : Told := ⟨false, false, false⟩
/-- a text of which nothing is told is one token -/
theorem parts_off (d : Nat) : ∀ (l : Str), parts .never off3 d l = .ok (if l.isEmpty then [] else [Tok.txt l]) []
  | [] => parts_end rfl _ _
  | c :: t => by
    rw [parts_cons rfl, parts_off d t]
    simp only [off3, Bool.and_false, Bool.false_eq_true, if_false, Res.glue]
    cases t with
    | nil => rfl
    | cons e t => rfl
set_option maxRecDepth 100000 in
theorem within1_fn (n lo hi : Int) (w : World) : Calls Tryd.prog 23 #[.int .i64 n, .int .i64 lo, .int .i64 hi] w fun e w' => e = .returned (.bool (decide (lo ≤ n) && decide (n ≤ hi))) ∧ w' = w := by
  obtain ⟨R, hR⟩ : ∃ R, R = (decide (lo ≤ n) && decide (n ≤ hi)) := ⟨_, rfl⟩
  rw [← hR]
  have HR := hid hR
  clear hR
  by_cases h1 : n ≥ lo
  · by_cases h2 : n ≤ hi
    · have hr : R = true := by rw [HR.out, decide_eq_true h1, decide_eq_true h2]; rfl
      subst hr
      go_enter Tryd.func23, Tryd.ntmps23
      go_wp2
      go_ret
      exact ⟨rfl, rfl⟩
    · have hr : R = false := by rw [HR.out, decide_eq_true h1, decide_eq_false h2]; rfl
      subst hr
      go_enter Tryd.func23, Tryd.ntmps23
      go_wp2
      go_ret
      exact ⟨rfl, rfl⟩
  · have hr : R = false := by rw [HR.out, decide_eq_false h1]; rfl
    subst hr
    go_enter Tryd.func23, Tryd.ntmps23
    go_wp2
    go_ret
    exact ⟨rfl, rfl⟩
set_option maxRecDepth 100000 in
theorem whiteR_fn (c : UInt8) (w : World) : Calls Tryd.prog 11 #[.int .u8 (c.toNat : Nat)] w fun e w' => e = .returned (.bool (white c)) ∧ w' = w := by
  have hc := hid (within1_fn (c.toNat : Nat) 9 13 w)
  have hW := hid (white_nat c)
  have hl : c.toNat < 256 := c.toNat_lt
  generalize white c = W at hW ⊢
  generalize c.toNat = x at hl hW hc ⊢
  by_cases h1 : 9 ≤ x ∧ x ≤ 13
  · have hd : (decide ((9 : Int) ≤ (x : Int)) && decide ((x : Int) ≤ 13)) = true := by simp; omega
    rw [hd] at hc
    go_enter Tryd.func11, Tryd.ntmps11
    go_wp2_with fail
    (with_reducible refine hc.out.mono ?_); rintro e w1 ⟨rfl, hw⟩; subst w1
    go_wp2
    go_ret
    exact ⟨by rw [hW.out, decide_eq_true h1.1, decide_eq_true h1.2]; rfl, rfl⟩
  · have hd : (decide ((9 : Int) ≤ (x : Int)) && decide ((x : Int) ≤ 13)) = false := by
      rw [Bool.eq_false_iff]
      intro e
      simp at e
      omega
    have hn : (decide (9 ≤ x) && decide (x ≤ 13)) = false := by
      rw [Bool.eq_false_iff]
      intro e
      simp at e
      omega
    rw [hd] at hc
    by_cases h3 : x = 32
    · have h4 : ((x : Int) == 32) = true := by rw [h3]; rfl
      have H3 := hid h3
      clear h3
      go_enter Tryd.func11, Tryd.ntmps11
      go_wp2_with fail
      (with_reducible refine hc.out.mono ?_); rintro e w1 ⟨rfl, hw⟩; subst w1
      go_wp2
      go_ret
      exact ⟨by rw [hW.out, H3.out]; rfl, rfl⟩
    · have h4 : ((x : Int) == 32) = false := by simp; omega
      go_enter Tryd.func11, Tryd.ntmps11
      go_wp2_with fail
      (with_reducible refine hc.out.mono ?_); rintro e w1 ⟨rfl, hw⟩; subst w1
      go_wp2
      go_ret
      refine ⟨?_, rfl⟩
      rw [hW.out, hn, decide_eq_false h3]
      rfl
theorem ScriptQ.rows {s : Str} {w : World} {e : Ending} {w' : World} (h : ScriptQ s w e w') : ∃ cs a n cp at' er, e = .returned (.tuple #[.slice a n cp, .int .i64 at', .int .i64 er]) ∧ Below w.heap.size w w' ∧
    CmdsIs 38 44 30 s.length w' (New w.heap.size) (.slice a n cp) cs ∧ Placed s cs ∧ n = cs.length ∧ (cs ≠ [] → er = 0) := by
  obtain ⟨hb, h⟩ := h
  cases hR : commands false 0 s with
  | ok cs r =>
    rw [hR] at h
    obtain ⟨v, rfl, hcs⟩ := h
    obtain ⟨a, cap, rfl⟩ : ∃ a cap, v = .slice a cs.length cap := by
      obtain ⟨a, cap, hv, _⟩ := RowIs.cell hcs
      exact ⟨a, cap, hv⟩
    exact ⟨cs, a, _, cap, 0, 0, rfl, hb, hcs, placed_of s.length false 0 s (Nat.le_refl _) cs _ hR, rfl, fun _ => rfl⟩
  | halt hh =>
    rw [hR] at h
    obtain ⟨a, e', o, _, h0, rfl⟩ := h
    exact ⟨[], none, 0, 0, a, e', rfl, hb, RowIs.nil, trivial, rfl, fun h => absurd rfl h⟩
/-- what stands at a placed command, and behind it -/
theorem placed_at : ∀ (cs : List Cmd) (l : Str), Placed l cs → ∀ i (hi : i < cs.length), ∃ ch t, ch :: t <:+ l ∧ cs[i].back = (ch :: t).length ∧ white ch = false ∧ ch ≠ 59 ∧ ch ≠ 35 ∧ cs[i].words ≠ [] ∧ Placed t (cs.drop (i + 1))
  | [], _, _, _, hi => absurd hi (by simp)
  | c :: cs, l, h, 0, hi => by
    obtain ⟨ch, t, h1, h2, h3, h4, h5, h6, h7⟩ := h
    exact ⟨ch, t, h1, h2, h3, h4, h5, h6, by simpa using h7⟩
  | c :: cs, l, h, i + 1, hi => by
    obtain ⟨ch, t, h1, _, _, _, _, _, h7⟩ := h
    obtain ⟨ch', t', q1, q2⟩ := placed_at cs t h7 i (by simpa using hi)
    exact ⟨ch', t', q1.trans ((suf_tail ch t).trans h1), by simpa using q2⟩
set_option maxRecDepth 100000 in
set_option maxHeartbeats 4000000 in
theorem parsePlaces_fn (s : List UInt8) (w : World) (ls : s.length ≤ 9223372036854775807) :
    Calls Tryd.prog 4 #[.string ⟨s.toArray⟩] w fun e w' => e = .returned (.bool true) ∧ Below w.heap.size w w' := by
  have AW := fun w => hid (awake_fn w)
  have LA := fun w => hid (long_fn s w)
  by_cases hla : 800 < s.length
  · rw [decide_eq_true hla] at LA
    go_enter Tryd.func4, Tryd.ntmps4
    go_wp2_with fail
    (with_reducible refine (LA _).out.mono ?_); rintro e w1 ⟨rfl, hw⟩; subst w1
    go_wp2_with fail
    (with_reducible refine (AW _).out.mono ?_); rintro e w2 ⟨rfl, hb⟩
    go_wp2
    go_ret
    exact ⟨rfl, hb⟩
  rw [decide_eq_false hla] at LA
  have SA := fun w => hid (script_fn (s := s) (by omega) w)
  have SU : ∀ w, Hid (Calls Tryd.prog 12 #[.string ⟨s.toArray⟩, .bool false, .bool false, .bool false] w (SubstQ off3 s w)) := fun w => hid (subst_fn (s := s) (by omega) off3 w)
  have hszs : (⟨s.toArray⟩ : ByteArray).size = s.length := Lib.size_mk _
  go_enter Tryd.func4, Tryd.ntmps4
  go_wp2_with fail
  (with_reducible refine (LA _).out.mono ?_); rintro e w1 ⟨rfl, hw⟩; subst w1
  go_wp2_with fail
  (with_reducible refine (SA _).out.mono ?_); intro e w1 h1
  obtain ⟨cs, a1, n1, p1, t1, r1, rfl, hb1, hcs, hpl, rfl, hr⟩ := h1.rows
  have HB1 := hid hb1
  have HCS := hid hcs
  have HR := hid hr
  have hsh := hcs.short
  clear h1 hb1 hcs hr
  go_wp2
  go_loopg [6, 23] cs.length (fun k lv iv wr => ∃ (i z : Nat) (l' : Str), iv = .int .i64 (i : Nat) ∧ lv = .int .i64 ((z : Int) - 1) ∧ Placed l' (cs.drop i) ∧ l' <:+ s ∧ z + l'.length ≤ s.length ∧ Below w.heap.size w wr ∧ Below w1.heap.size w1 wr ∧ i + k = cs.length)
  case atStart => exact ⟨0, 0, s, rfl, rfl, hpl, List.suffix_refl _, by simp, HB1.out, Below.refl _ _, by simp⟩
  case round =>
    obtain ⟨i, z, l', rfl, rfl, hpl', hsf, hz, hbl, hbl1, hk⟩ := hrel
    have HBL := hid hbl
    have HBL1 := hid hbl1
    have HK := hid hk
    by_cases hi : i < cs.length
    · obtain ⟨g, cap, u, e1, hws, x0, x1⟩ := cmd_at (HCS.out.ahead hbl1) hi
      simp only [Value.slice.injEq] at e1
      obtain ⟨rfl, _, rfl⟩ := e1
      obtain ⟨ch, t, hct, hbk, hwh, h59, h35, hne, hpn⟩ := placed_at (cs.drop i) l' hpl' 0 (by simp; omega)
      simp only [List.getElem_drop, Nat.add_zero, List.drop_drop] at hbk hne hpn
      obtain ⟨p, hp⟩ : ∃ p : Nat, p = s.length - cs[i].back := ⟨_, rfl⟩
      have hctl := hct.length_le
      have hlsl := hsf.length_le
      simp only [List.length_cons] at hbk hctl
      have hpe : ((s.length : Int) - (cs[i].back : Int)) = (p : Int) := by omega
      rw [hpe] at x0
      have hat : At s (ch :: t) p := by
        have h := At.of_suf (hct.trans hsf)
        rw [hp, hbk]
        simpa using h
      have hx := hat.byte
      have hlt := hat.lt
      obtain ⟨a6, n6, c6, hu, hn6⟩ : ∃ a n c, u = .slice a n c ∧ n = cs[i].words.length := by
        obtain ⟨a, cap, hv, _⟩ := RowIs.cell hws
        exact ⟨a, _, cap, hv, rfl⟩
      subst hu
      have hn0 : ¬ n6 = 0 := by
        rw [hn6]
        intro e
        exact hne (List.eq_nil_of_length_eq_zero e)
      have hn1 : ((n6 : Int) == 0) = false := by simp; omega
      have hr0 : r1 = 0 := HR.out (by intro e; rw [e] at hi; simp at hi)
      have hl1 : ¬ (p : Int) ≤ (z : Int) - 1 := by omega
      have hl2 : ¬ (p : Int) ≥ (s.length : Int) := by omega
      have b59 := byte_ne 59 h59 rfl
      have b35 := byte_ne 35 h35 rfl
      have hi1 : (0 : Int) ≤ (i : Int) ∧ (i : Int) < (cs.length : Int) := by omega
      have hi2 : (i : Int) < (cs.length : Int) := by omega
      have WF := fun w => hid (whiteR_fn ch w)
      rw [hwh] at WF
      have hz2 : p + 1 + t.length ≤ s.length := by omega
      subst hr0
      have HPN := hid hpn
      have HSF := hid ((suf_tail ch t).trans (hct.trans hsf))
      clear hws hpl' hsf hct hbk hne hpn hp hpe hat hn6 hwh hbl hbl1 hk hpl
      go_wp2_with fail
      (with_reducible refine (WF _).out.mono ?_); rintro e w2 ⟨rfl, hw⟩
      subst hw
      have HBA := hid ((Below.refl wr.heap.size wr).alloc (Nat.le_refl _) (.cells #[.int .i64 (p : Nat), .slice a6 n6 c6] 30))
      go_wp2
      go_roundg (gk - 1)
      case measure => have := HK.out; omega
      case rel => exact ⟨i + 1, p + 1, t, by simp, by simp, HPN.out, HSF.out, hz2, HBL.out.trans (HBA.out.mono HBL.out.size), HBL1.out.trans (HBA.out.mono HBL1.out.size), by have := HK.out; omega⟩
    · clear hpl' hsf hz hbl hbl1 hk hpl
      have SU1 := SU wr
      go_wp2_with fail
      (with_reducible refine SU1.out.mono ?_); rintro e w3 ⟨hb3, h3⟩
      rw [parts_off] at h3
      obtain ⟨v, rfl, hts⟩ := h3
      have HB3 := hid (HBL.out.trans (hb3.mono HBL.out.size))
      clear hb3 SU SU1
      by_cases hse : s = []
      · have hsb : s.isEmpty = true := by rw [hse]; rfl
        rw [if_pos hsb] at hts
        obtain ⟨a2, p2, rfl⟩ : ∃ a cap, v = .slice a 0 cap := by
          obtain ⟨a, cap, hv, _⟩ := RowIs.cell hts
          exact ⟨a, cap, hv⟩
        clear hts hse
        go_wp2_with fail
        (with_reducible refine (AW _).out.mono ?_); rintro e w4 ⟨rfl, hb4⟩
        have HB4 := hid (HB3.out.trans (hb4.mono HB3.out.size))
        clear hb4
        go_wp2
        go_ret
        exact ⟨rfl, HB4.out⟩
      · have hsb : s.isEmpty = false := by simpa using hse
        rw [if_neg (by rw [hsb]; simp), if_neg (by rw [hsb]; simp)] at hts
        obtain ⟨g, cap, k, s', b', ix, u, rfl, hx, _, x0, x1, _, _⟩ := tok_at (ts := [Tok.txt s]) hts (i := 0) (by simp)
        obtain ⟨rfl, rfl, rfl, rfl⟩ := Tok.mk.inj (show Tok.mk 1 s false [] = .mk k s' b' ix from hx)
        clear hts hse hx
        go_wp2_with fail
        (with_reducible refine (AW _).out.mono ?_); rintro e w4 ⟨rfl, hb4⟩
        have HB4 := hid (HB3.out.trans (hb4.mono HB3.out.size))
        clear hb4
        go_wp2
        go_ret
        exact ⟨rfl, HB4.out⟩
end Go.Proofs.YtkgpmkkodpjdfaaDoor.Pz
/-
  ParsePlaces: the row and its card. Condition: the listed package-level variables hold what the row lists (the card ties them to the text).
-/
namespace Go.Proofs.YtkgpmkkodpjdfaaDoor.parsePlaces
open Go.ChangeMaps Go.ChangeShapes Go.WideShapes Go.ChangeAt Go.RowKit
theorem own : ownKnob Tryd.prog.godebug = none := by kernel_rfl
theorem ok_true {P : Program} {W' : World} {f : Func} {t : TypeId} (hr : f.resultTypes = #[t]) (ht : P.underlying t = some .bool) :
    ∀ (j : Nat) (t' : TypeId) (r : Value), f.resultTypes[j]? = some t' → ((Value.bool true).resultList f.resultTypes.size)[j]? = some r → Value.okWide P W' .any 0 t' r := ok_one hr rfl (okWide_bool_mk ht true)
section
variable {H : Type} {enc : TypeId × Value → H}
set_option maxRecDepth 100000 in
/-- the row's last step: no place was read, no variable is asked, what lay below is as it was -/
theorem post_below {f : Func} {s : ChangeSpec} {W W' : World} {args : Array Value} {v : Value} {ds gs : List (DataW H)}
    (hW : DataW.Whole enc Tryd.prog f.params.toList s.vars false W args.toList ds gs [])
    (hres : ∀ (b : Nat) (sp : Nat → Bool) (hd : Bool), DataW.TrodAll enc Tryd.prog W' b sp hd f.resultTypes.toList (v.resultList f.resultTypes.size) (s.fn H (ds ++ gs)).results [])
    (hargs : ∀ sp : Nat → Bool, DataW.TrodAll enc Tryd.prog W' 0 sp true f.params.toList args.toList (s.fn H (ds ++ gs)).args [])
    (hvars : ∀ sp : Nat → Bool, DataW.TrodVars enc Tryd.prog W' sp s.vars (s.fn H (ds ++ gs)).vars []) (hb : Below W.heap.size W W')
    (hok : ∀ (j : Nat) (t : TypeId) (r : Value), f.resultTypes[j]? = some t → (v.resultList f.resultTypes.size)[j]? = some r → Value.okWide Tryd.prog W' .any 0 t r) :
    s.post enc Tryd.prog f false true false false W args v W' := by
  refine ⟨ds, gs, [], [], [], [], hW, hres _ _ _, hargs _, hvars _, World.keptBut_mono (fun p hp => ⟨hp, .inr (.inr hp)⟩) (hb.frame (· ∈ ([] : List MemPlace))), fun _ => ?_⟩
  refine ⟨hok, _, _, ([] ++ []) ++ [], ⟨[] ++ [], [], trodAll_append (hargs _) (hres _ _ _), hvars _, rfl, ?_, ?_⟩, ?_⟩
  · intro b off hp
    simp at hp
  · intro h
    cases h
  · intro p hp _
    simp at hp
end
theorem contract (H : Type) (enc : TypeId × Value → H) (W : World) (base : Nat) (args : Array Value) (ds gs : List (DataW H)) (before : List MemPlace)
    (hval : ∀ (j : Nat) t v, Tryd.f4.params[j]? = some t → args[j]? = some v → Value.okWide Tryd.prog W .any base t v)
    (hW : DataW.Whole enc Tryd.prog Tryd.f4.params.toList Rows.parsePlacesSpec.vars false W args.toList ds gs before) :
    Calls Tryd.prog 4 args W fun e W' => ∃ v, e = .returned v ∧ Rows.parsePlacesSpec.post enc Tryd.prog Tryd.f4 false true false false W args v W' := by
  have hW' := hW
  obtain ⟨p, q, hA0, hV, rfl, hfz, hnd⟩ := hW
  have hA : DataW.TrodAll enc Tryd.prog W 0 (fun _ => true) true Tryd.f4.params.toList args.toList ds p := hA0
  rw [Tryd.params4] at hA hval
  obtain ⟨v0, vs0, d0, ds0, p0, q0, hargs, rfl, rfl, h0, r0⟩ := trodAll_cons hA
  obtain ⟨rfl, rfl, rfl⟩ := trodAll_nil r0
  obtain rfl : args = #[v0] := by cases args; simp_all
  obtain ⟨rfl, rfl⟩ := trodVars_none hV
  obtain ⟨s0, rfl, rfl, rfl, m0⟩ := open_string Tryd.underlying9 (by with_reducible exact hval 0 9 v0 (by simp) (by simp)) h0
  clear hA0
  simp only [List.append_nil] at hW'
  have e0 : s0 = ⟨s0.data.toList.toArray⟩ := by cases s0; simp
  have q0 : s0.data.toList.length ≤ 9223372036854775807 := by
    have h1 : s0.data.toList.length = s0.size := by rw [Array.length_toList]; rfl
    have h2 := m0
    unfold maxLen at h2
    omega
  have walk := Pz.parsePlaces_fn s0.data.toList W q0
  rw [← e0] at walk
  refine walk.mono fun e W' ⟨he, hg⟩ => ?_
  subst he
  exact ⟨_, rfl, post_below hW' (fun _ _ _ => trodAll_cons_mk (shut_bool Tryd.underlying4 _) trodAll_mk0) (fun _ => trodAll_cons_mk (shut_string Tryd.underlying9 m0) trodAll_mk0) (fun _ => rfl) hg (@ok_true Tryd.prog W' Tryd.f4 4 (by kernel_rfl) Tryd.underlying4)⟩
theorem reads (os : Os) {H : Type} (enc : TypeId × Value → H) : ∃ places, DataW.whole enc Tryd.prog ((World.laidAll Tryd.prog os Rows.parsePlacesRow.laid).forCall (fun _ _ => 0) ⟨#[], #[.string .empty], []⟩).memory Tryd.f4.params.toList Rows.parsePlacesSpec.vars false (#[.string .empty] : Array Value).toList 8 = some ([.lit (.string [])], [], places) :=
  ⟨[], by kernel_rfl⟩
set_option maxRecDepth 100000 in
theorem lifted (os : Os) (started : os.Started) (H : Type) (enc : TypeId × Value → H) (F : Stop.Interp) :
    ReturnsInHanded {} Tryd.checked os 4 .any ((OpenSpec.ofChange Rows.parsePlacesSpec).preRow enc Tryd.prog Tryd.f4 Rows.parsePlacesRow.domain false Rows.parsePlacesRow.laid) (((OpenSpec.ofChange Rows.parsePlacesSpec).at F).post enc Tryd.prog Tryd.f4 false true false false) := by
  obtain ⟨places, hx⟩ := reads os enc
  have hl : laidMetH Tryd.prog Rows.parsePlacesRow.laid ((World.laidAll Tryd.prog os Rows.parsePlacesRow.laid).forCall (fun _ _ => 0) ⟨#[], #[.string .empty], []⟩).memory := by
    rw [MakeChecks.laidMetH_plain _ _ _ (by kernel_rfl)]
    exact laidMet_laidAll _ (by kernel_rfl) (by kernel_rfl)
  refine returnsInHanded_of_row (C := Tryd.checked) (s := (OpenSpec.ofChange Rows.parsePlacesSpec)) own started (by kernel_rfl) Tryd.func4
    (witness_row_at (enc := enc) (C := Tryd.checked) false (World.laidAll Tryd.prog os Rows.parsePlacesRow.laid) #[.string .empty] (World.laidAll_os _ _ _) (by kernel_rfl) (by kernel_rfl) (by kernel_rfl)
      (OpenSpec.preRow_of_cond 8 hx (by kernel_rfl) (fun k hk => by cases hk) (by kernel_rfl) hl)) ?_
  intro W base args ds gs before hval hW _ _ _ _ _ _
  exact contract H enc W base args ds gs before hval hW
theorem said : Rows.ParsePlacesSaid :=
  OpenClaim.holds_of_cond 4 Tryd.f4 rfl rfl rfl rfl rfl rfl rfl ⟨rfl, rfl, rfl, rfl, rfl⟩ rfl rfl rfl rfl rfl (by kernel_rfl) Tryd.func4 (by kernel_rfl)
    (of_decide_eq_true (by kernel_rfl)) (by unfold Func.isWrapper; first | (rw [if_pos (by decide +kernel)]; kernel_rfl) | (rw [if_neg (by decide +kernel)]; exact ⟨rfl, rfl⟩))
    (fun os started H enc _ F => by rw [OpenClaim.pre_eq_preRow]; exact lifted os started H enc F)
theorem plain (f : FuncId) (fn : Func) (hf : Tryd.pinned.checked.prog.funcNamed "threadbare/threadbarelaw06.ParsePlaces" = some f) (hfn : Tryd.pinned.checked.prog.funcs[f]? = some fn) :
    true = Tryd.pinned.checked.prog.looks [] ∧ ∀ (j : Nat) t, fn.params[j]? = some t → Tryd.pinned.checked.prog.wantsStandIn t = false := by
  obtain rfl : f = 4 := Option.some.inj ((show Tryd.prog.funcNamed "threadbare/threadbarelaw06.ParsePlaces" = some 4 by kernel_rfl).symm.trans hf) |>.symm
  obtain rfl : fn = Tryd.f4 := (Option.some.inj (Tryd.func4.symm.trans hfn)).symm
  refine ⟨by kernel_rfl, fun j t ht => ?_⟩
  rw [Tryd.params4] at ht
  have ht := Array.mem_of_getElem? ht
  simp at ht
  subst ht
  exact (show Tryd.prog.wantsStandIn 9 = false by kernel_rfl)
theorem card : Rows.ParsePlacesCardSaid :=
  Claim7.holds_tied_plain_at .later [] _ _ _ _ said (fun _ h => by cases h) (by kernel_rfl) (fun _ h => by cases h) parsePlaces_row_tie rfl ⟨rfl, rfl⟩ (by kernel_rfl) rfl plain (by kernel_rfl)
end Go.Proofs.YtkgpmkkodpjdfaaDoor.parsePlaces
