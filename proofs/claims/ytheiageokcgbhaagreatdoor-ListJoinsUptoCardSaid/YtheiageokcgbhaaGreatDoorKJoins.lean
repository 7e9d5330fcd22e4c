/-
  ListJoinsCard: the law's card and what it alone needs, merged from 2 texts. Conditions: the row's own.
-/
import Derived.Test.YtheiageokcgbhaaGreatDoorCards
import Derived.Test.YtheiageokcgbhaaGreatDoorTie
import Derived.Deep.DeepHandedRow
import Derived.ProofKit
import Derived.OpenShut
import Derived.Lay
import Derived.MakeChecks
import Derived.ChangeMaps5
import Derived.SliceStrings
import Derived.Carry
import Derived.Shelf.Vars
import Derived.Test.YtheiageokcgbhaaGreatDoorK0
import Derived.Test.YtheiageokcgbhaaGreatDoorK1
import Derived.Test.YtheiageokcgbhaaGreatDoorK2
import Derived.Test.YtheiageokcgbhaaGreatDoorK3
import Derived.Test.YtheiageokcgbhaaGreatDoorK4
import Derived.Test.YtheiageokcgbhaaGreatDoorK5
/-
  The law ListJoins walked.
-/
namespace Go.Proofs.YtheiageokcgbhaaGreatDoor.Pz
open Go.RowKit
theorem quotedL_len : ∀ l : List Str, (quotedL l).length ≤ 3 * sumS l
  | [] => by simp [quotedL]
  | [a] => by
    have := quote_len a
    rw [quotedL, sumS, sumS]
    omega
  | a :: b :: l => by
    have h1 := quote_len a
    have h2 := quotedL_len (b :: l)
    rw [quotedL_two, sumS, List.length_append, List.length_cons]
    omega
theorem joinRes_small {l : List Str} (h : sumS l ≤ 10000) : joinRes l = (quotedL l, 0) := by
  have h1 := quotedL_len l
  have h2 := sumS_len l
  exact joinRes_yes (by omega) (by omega)
theorem canon_quoted {l : List Str} (h : sumS l ≤ 10000) : isCanon (quotedL l) = true := by
  have h2 := sumS_len l
  have e : canonRes (quotedL l) = (quotedL l, 0) := by
    unfold canonRes
    rw [splitE_quoted l (by omega)]
    exact joinRes_small h
  unfold isCanon
  rw [e]
  simp
set_option maxRecDepth 100000 in
set_option maxHeartbeats 4000000 in
theorem listJoins_fn (l : List Str) (v : Value) (n : Int) (w : World) (hml : ML w) (hv : StrsAt w v l) (hb : sumS l ≤ 10000000) (hn : -9223372036854775808 ≤ n ∧ n ≤ 9223372036854775807) :
    Calls Tryz.prog 5 #[v, .int .i64 n] w fun e w' => e = .returned (.bool true) ∧ Below w.heap.size w w' := by
  have HLO := hid (long_fn hv hb)
  have HM := hid hml
  have HVB := hid (fun u (h : Below w.heap.size w u) => hv.below h)
  have HVV := hid hv
  obtain ⟨a, cap, rfl, hcap, hcell⟩ := hv
  have AW := fun u (h : Below w.heap.size w u) => hid (awakeL_fn u (HM.out.below h))
  by_cases hlo : longB l = true
  · rw [hlo] at HLO
    have haw := AW w (Below.refl _ _)
    clear hml hcell hb
    go_enter Tryz.func5, Tryz.ntmps5
    go_wp2_with fail
    (with_reducible refine HLO.out.mono ?_); rintro e w1 ⟨rfl, hw⟩; subst hw
    go_wp2_with fail
    (with_reducible refine haw.out.mono ?_); rintro e w2 ⟨rfl, hb2⟩
    have HB2 := hid hb2
    clear hb2
    go_wp2
    go_ret
    exact ⟨rfl, HB2.out⟩
  · have hlf : longB l = false := by simpa using hlo
    rw [hlf] at HLO
    have hsl : sumS l ≤ 1500 := by
      have h5 : ¬ 1500 < sumS l := fun h => hlo (decide_eq_true h)
      omega
    have hll := sumS_len l
    have hmem : ∀ x ∈ l, x.length ≤ 1000000 := fun x hx => by have := sumS_mem l x hx; omega
    obtain ⟨m, hm⟩ : ∃ m, m = min n 50 := ⟨_, rfl⟩
    have hm1 : m ≤ 50 := by omega
    have hm2 : -9223372036854775808 ≤ m := by omega
    have H1 := hid (fun u (h : Below w.heap.size w u) => joinA_fn l _ u (HM.out.below h) (HVB.out u h) (by omega))
    have H2 := hid (fun u (h : Below w.heap.size w u) => joinRA_fn l _ u (HVB.out u h) hmem (by omega))
    rw [joinRes_small (by omega)] at H1 H2
    have H3 := hid (fun u (h : Below w.heap.size w u) => repeat_fn l _ m u (HM.out.below h) (HVB.out u h) hm1 (by omega))
    have H4 := hid (fun u (h : Below w.heap.size w u) => repeatR_fn l _ m u (HVB.out u h) hm1 hm2 (by omega) hmem)
    generalize repE l m = rp at H3 H4
    obtain ⟨rp1, rp2⟩ := rp
    have H5 := hid (fun u (h : Below w.heap.size w u) => concat_fn l _ u (HVB.out u h) (by omega))
    have H6 := hid (fun u (h : Below w.heap.size w u) => concatR_fn l _ u (HVB.out u h) (by omega))
    generalize concatE l = ce at H5 H6
    have hql := quotedL_len l
    have H7 := hid (fun u => split_fn (quotedL l) (by omega) u)
    unfold SplitQ at H7
    rw [splitE_quoted l (by omega)] at H7
    have HSM := fun (u : World) (x y : Value) (hx : StrsAt u x l) (hy : StrsAt u y l) => same_fn hx hy (by omega)
    have H8 := hid (fun u (h : Below w.heap.size w u) => isCanonL_fn (quotedL l) (by omega) (by rw [splitE_quoted l (by omega)]; exact Nat.le_trans hll (by omega)) u (HM.out.below h))
    rw [canon_quoted (by omega)] at H8
    generalize quotedL l = ql at H1 H2 H7 H8
    dsimp only at H1 H2 H3 H4 H7
    have HQ1 := hid (fun i (hi : i < l.length) u (h : Below w.heap.size w u) => quote_fn l[i] (hmem _ (List.getElem_mem hi)) u (HM.out.below h))
    have HQ2 := hid (fun i (hi : i < l.length) u => quoteR_fn l[i] (hmem _ (List.getElem_mem hi)) u)
    have HC := hid hcell
    obtain ⟨k, hk⟩ : ∃ k, k = l.length := ⟨_, rfl⟩
    have HK := hid hk
    have hkb : k ≤ 1500 := by omega
    rw [← hk] at HLO H1 H2 H3 H4 H5 H6 hcap HVV HVB ⊢
    have hm3 : min n 50 = m := hm.symm
    have HMM := hid hm
    clear hcell hml hmem hlo hlf hsl hll hql hk hm hb
    go_enter Tryz.func5, Tryz.ntmps5
    go_wp2_with fail
    (with_reducible refine HLO.out.mono ?_); rintro e w1 ⟨rfl, hw⟩; subst hw
    go_wp2_with fail
    go_loopg [23] k (fun m' iv wr => ∃ i : Nat, iv = .int .i64 (i : Nat) ∧ i ≤ k ∧ Below w1.heap.size w1 wr ∧ m' = k - i)
    case atStart => exact ⟨0, rfl, Nat.zero_le _, Below.refl _ _, by simp⟩
    case round =>
      obtain ⟨i, rfl, hi, hbl, rfl⟩ := hrel
      have hsw := hbl.size
      rcases Nat.lt_or_ge i k with hlt | hge
      · have hlt' : i < l.length := by rw [← HK.out]; exact hlt
        obtain ⟨p, rfl, hbb, hcw⟩ := HC.out i hlt'
        have hcw1 : wr.cell? (p.add i) = some (.string ⟨l[i].toArray⟩) := by rw [hbl.cell (p := p.add i) (by rw [add_block]; exact hbb)]; exact hcw
        have hz0 : i = 0 → wr.cell? p = some (.string ⟨l[i].toArray⟩) := by
          intro h0
          subst h0
          exact hcw1
        have h1 := hid (HQ1.out i hlt' wr hbl)
        have h2 := HQ2.out i hlt'
        generalize l[i] = s at hcw1 hz0 h1 h2
        have H2' := hid h2
        clear h2 hcw
        generalize quote s = q at h1 H2'
        by_cases h0 : i = 0
        · subst h0
          replace hcw1 := hz0 rfl
          clear hz0
          go_wp2_with fail
          (with_reducible refine h1.out.mono ?_); rintro e w2 ⟨rfl, hb2⟩
          have HB2 := hid (hbl.trans (hb2.mono hsw))
          have h2 := H2'.out w2
          clear hb2
          go_wp2_with fail
          (with_reducible refine h2.mono ?_); rintro e w3 ⟨rfl, hb3⟩
          have HB3 := hid (HB2.out.trans (hb3.mono HB2.out.size))
          clear hb3 h2
          go_wp2
          go_roundg (k - (0 + 1))
          case measure => omega
          case rel => exact ⟨0 + 1, by go_num, by omega, HB3.out, rfl⟩
        · clear hz0
          go_wp2_with fail
          (with_reducible refine h1.out.mono ?_); rintro e w2 ⟨rfl, hb2⟩
          have HB2 := hid (hbl.trans (hb2.mono hsw))
          have h2 := H2'.out w2
          clear hb2
          go_wp2_with fail
          (with_reducible refine h2.mono ?_); rintro e w3 ⟨rfl, hb3⟩
          have HB3 := hid (HB2.out.trans (hb3.mono HB2.out.size))
          clear hb3 h2
          go_wp2
          go_roundg (k - (i + 1))
          case measure => omega
          case rel => exact ⟨i + 1, by go_num, by omega, HB3.out, rfl⟩
      · obtain rfl : i = k := by omega
        have h1 := H1.out wr hbl
        go_wp2_with fail
        (with_reducible refine h1.mono ?_); rintro e w2 ⟨rfl, hb2⟩
        have HB2 := hid (hbl.trans (hb2.mono hsw))
        clear hb2 h1
        have h1 := H2.out w2 HB2.out
        go_wp2_with fail
        (with_reducible refine h1.mono ?_); rintro e w3 ⟨rfl, hb3⟩
        have HB3 := hid (HB2.out.trans (hb3.mono HB2.out.size))
        clear hb3 h1
        have h1 := H3.out w3 HB3.out
        go_wp2_with fail
        (with_reducible refine h1.mono ?_); rintro e w4 ⟨rfl, hb4⟩
        have HB4 := hid (HB3.out.trans (hb4.mono HB3.out.size))
        clear hb4 h1
        have h1 := H4.out w4 HB4.out
        go_wp2_with fail
        (with_reducible refine h1.mono ?_); rintro e w5 ⟨rfl, hb5⟩
        have HB5 := hid (HB4.out.trans (hb5.mono HB4.out.size))
        clear hb5 h1
        have h1 := H5.out w5 HB5.out
        go_wp2_with fail
        (with_reducible refine h1.mono ?_); rintro e w6 ⟨rfl, hb6⟩
        have HB6 := hid (HB5.out.trans (hb6.mono HB5.out.size))
        clear hb6 h1
        have h1 := H6.out w6 HB6.out
        go_wp2_with fail
        (with_reducible refine h1.mono ?_); rintro e w7 ⟨rfl, hw⟩; subst hw
        clear h1
        have h1 := H7.out w7
        go_wp2_with fail
        (with_reducible refine h1.mono ?_); rintro e w8 ⟨hb8, v8, rfl, hr8⟩
        have HB8 := hid (HB6.out.trans (hb8.mono HB6.out.size))
        have HS := hid (HSM w8 v8 _ hr8.strs (HVB.out w8 HB8.out))
        clear hb8 h1 hr8
        go_wp2_with fail
        (with_reducible refine HS.out.mono ?_); rintro e w9 ⟨rfl, hb9⟩
        have HB9 := hid (HB8.out.trans (hb9.mono HB8.out.size))
        have h1 := H8.out w9 HB9.out
        clear hb9
        go_wp2_with fail
        (with_reducible refine h1.mono ?_); rintro e wa ⟨rfl, hba⟩
        have HBa := hid (HB9.out.trans (hba.mono HB9.out.size))
        clear hba h1
        have h1 := AW wa HBa.out
        go_wp2_with fail
        (with_reducible refine h1.out.mono ?_); rintro e wb ⟨rfl, hbb⟩
        have HBb := hid (HBa.out.trans (hbb.mono HBa.out.size))
        clear hbb h1
        go_wp2
        go_ret
        exact ⟨rfl, HBb.out⟩
end Go.Proofs.YtheiageokcgbhaaGreatDoor.Pz
/-
  ListJoins: the row and its card (the second form: arguments of bulk at most 1048576). Condition: the listed package-level variables hold what the row lists (the card ties them to the text).
-/
namespace Go.Proofs.YtheiageokcgbhaaGreatDoor.listJoins
open Go.ChangeMaps Go.ChangeShapes Go.WideShapes Go.ChangeAt Go.RowKit
theorem own : ownKnob Tryz.prog.godebug = none := by kernel_rfl
theorem ok_true {P : Program} {W' : World} {f : Func} {t : TypeId} (hr : f.resultTypes = #[t]) (ht : P.underlying t = some .bool) :
    ∀ (j : Nat) (t' : TypeId) (r : Value), f.resultTypes[j]? = some t' → ((Value.bool true).resultList f.resultTypes.size)[j]? = some r → Value.okWide P W' .any 0 t' r := ok_one hr rfl (okWide_bool_mk ht true)
section
variable {H : Type} {enc : TypeId × Value → H}
/-- the row's last step: the arguments' places read as they did, no variable is asked, what lay below is as it was -/
theorem post_rows {f : Func} {s : ChangeSpec} {W W' : World} {args : Array Value} {v : Value} {ds gs : List (DataW H)} {before pa : List MemPlace}
    (hW : DataW.Whole enc Tryz.prog f.params.toList s.vars false W args.toList ds gs before)
    (hres : ∀ (b : Nat) (sp : Nat → Bool) (hd : Bool), DataW.TrodAll enc Tryz.prog W' b sp hd f.resultTypes.toList (v.resultList f.resultTypes.size) (s.fn H (ds ++ gs)).results [])
    (hargs : DataW.TrodAll enc Tryz.prog W' 0 (fun b => decide (b < W.heap.size)) true f.params.toList args.toList (s.fn H (ds ++ gs)).args pa)
    (hvars : ∀ sp : Nat → Bool, DataW.TrodVars enc Tryz.prog W' sp s.vars (s.fn H (ds ++ gs)).vars []) (hb : Below W.heap.size W W') :
    s.post enc Tryz.prog f false true false false W args v W' :=
  ⟨ds, gs, before, [], pa, [], hW, hres _ _ _, hargs, hvars _, hb.frame _, fun h => by cases h⟩
theorem laidOut : laidOutB Tryz.prog = true := by kernel_rfl
end
theorem contract (H : Type) (enc : TypeId × Value → H) (W : World) (base : Nat) (args : Array Value) (ds gs : List (DataW H)) (before : List MemPlace)
    (hval : ∀ (j : Nat) t v, Tryz.f5.params[j]? = some t → args[j]? = some v → Value.okWide Tryz.prog W .any base t v)
    (hW : DataW.Whole enc Tryz.prog Tryz.f5.params.toList Rows.listJoinsSpec.vars false W args.toList ds gs before) (hk : Rows.uptoSmall H (ds ++ gs) = true) (hml : Pz.ML W) :
    Calls Tryz.prog 5 args W fun e W' => ∃ v, e = .returned v ∧ Rows.listJoinsSpec.post enc Tryz.prog Tryz.f5 false true false false W args v W' := by
  have hW' := hW
  obtain ⟨p, q, hA0, hV, rfl, hfz, hnd⟩ := hW
  have hA : DataW.TrodAll enc Tryz.prog W 0 (fun _ => true) true Tryz.f5.params.toList args.toList ds p := hA0
  rw [Tryz.params5] at hA hval
  obtain ⟨v0, vs0, d0, ds0, p0, q0, hargs, rfl, rfl, h0, r0⟩ := trodAll_cons hA
  obtain ⟨v1, vs1, d1, ds1, p1, q1, rfl, rfl, rfl, h1, r1⟩ := trodAll_cons r0
  obtain ⟨rfl, rfl, rfl⟩ := trodAll_nil r1
  obtain rfl : args = #[v0, v1] := by cases args; simp_all
  obtain ⟨rfl, rfl⟩ := trodVars_none hV
  obtain ⟨s1, rfl, rfl, rfl, m1⟩ := open_int Tryz.underlying3 (by with_reducible exact hval 1 3 v1 (by simp) (by simp)) h1
  clear hA0
  simp only [List.append_nil] at hW' hk
  have hlt0 : ∀ x ∈ p0, x.block < W.heap.size := fun x hx => by simpa using hW'.lt x (by simp [hx])
  obtain ⟨l0, hl0, hb0, hn0⟩ := Opn.opened_strs (P := Tryz.prog) Tryz.underlying24 Tryz.underlying9 (by kernel_rfl) (by with_reducible exact hval 0 24 v0 (by simp) (by simp)) h0 hlt0
  have hk := of_decide_eq_true hk
  simp only [Rows.uptoBulkAll, Rows.uptoBulk] at hk
  have walk := Pz.listJoins_fn l0 _ s1 W hml hl0 (by omega) (bounds_i64 m1)
  refine walk.mono fun e W' ⟨he, hg⟩ => ?_
  subst he
  exact ⟨_, rfl, post_rows hW' (fun _ _ _ => trodAll_cons_mk (shut_bool Tryz.underlying4 _) trodAll_mk0) (trodAll_cons_mk (Below.trod laidOut (by kernel_rfl) (of_decide_eq_true (by kernel_rfl)) h0 hg hlt0) (trodAll_cons_mk (shut_int Tryz.underlying3 m1) (trodAll_mk0))) (fun _ => rfl) hg⟩
theorem reads (os : Os) {H : Type} (enc : TypeId × Value → H) : ∃ places, DataW.whole enc Tryz.prog ((World.laidAll Tryz.prog os Rows.listJoinsUptoRow.laid).forCall (fun _ _ => 0) ⟨#[], #[.slice none 0 0, .int .i64 0], []⟩).memory Tryz.f5.params.toList Rows.listJoinsSpec.vars false (#[.slice none 0 0, .int .i64 0] : Array Value).toList 8 = some ([.nil, .lit (.int .i64 0)], [], places) :=
  ⟨[], by kernel_rfl⟩
set_option maxRecDepth 100000 in
theorem lifted (os : Os) (started : os.Started) (H : Type) (enc : TypeId × Value → H) (F : Stop.Interp) :
    ReturnsInHanded {} Tryz.checked os 5 .any ((Rows.OpenSpec.upto Rows.listJoinsSpec).preRow enc Tryz.prog Tryz.f5 Rows.listJoinsUptoRow.domain false Rows.listJoinsUptoRow.laid) (((Rows.OpenSpec.upto Rows.listJoinsSpec).at F).post enc Tryz.prog Tryz.f5 false true false false) := by
  obtain ⟨places, hx⟩ := reads os enc
  have hl : laidMetH Tryz.prog Rows.listJoinsUptoRow.laid ((World.laidAll Tryz.prog os Rows.listJoinsUptoRow.laid).forCall (fun _ _ => 0) ⟨#[], #[.slice none 0 0, .int .i64 0], []⟩).memory := by
    rw [MakeChecks.laidMetH_plain _ _ _ (by kernel_rfl)]
    exact laidMet_laidAll _ (by kernel_rfl) (by kernel_rfl)
  refine returnsInHanded_of_row (C := Tryz.checked) (s := (Rows.OpenSpec.upto Rows.listJoinsSpec)) own started (by kernel_rfl) Tryz.func5
    (witness_row_at (enc := enc) (C := Tryz.checked) false (World.laidAll Tryz.prog os Rows.listJoinsUptoRow.laid) #[.slice none 0 0, .int .i64 0] (World.laidAll_os _ _ _) (by kernel_rfl) (by kernel_rfl) (by kernel_rfl)
      (OpenSpec.preRow_of_cond 8 hx (by kernel_rfl) (fun k hk => by cases hk; kernel_rfl) (by kernel_rfl) hl)) ?_
  intro W base args ds gs before hval hW _ hcond _ _ hsh _
  exact contract H enc W base args ds gs before hval hW (hcond _ rfl) (cell_of_shapedOpen_int (t := 3) (zero := #[.int .i64 0]) hsh (of_decide_eq_true (by kernel_rfl)) (by kernel_rfl) rfl (by kernel_rfl) (by kernel_rfl) Tryz.underlying3)
theorem said : Rows.ListJoinsUptoSaid :=
  OpenClaim.holds_of_cond 5 Tryz.f5 rfl rfl rfl rfl rfl rfl rfl ⟨rfl, rfl, rfl, rfl, rfl⟩ rfl rfl rfl rfl rfl (by kernel_rfl) Tryz.func5 (by kernel_rfl)
    (of_decide_eq_true (by kernel_rfl)) (by unfold Func.isWrapper; first | (rw [if_pos (by decide +kernel)]; kernel_rfl) | (rw [if_neg (by decide +kernel)]; exact ⟨rfl, rfl⟩))
    (fun os started H enc _ F => by rw [OpenClaim.pre_eq_preRow]; exact lifted os started H enc F)
theorem plain (f : FuncId) (fn : Func) (hf : Tryz.pinned.checked.prog.funcNamed "threadbare/threadbarelaw02.ListJoins" = some f) (hfn : Tryz.pinned.checked.prog.funcs[f]? = some fn) :
    true = Tryz.pinned.checked.prog.looks [] ∧ ∀ (j : Nat) t, fn.params[j]? = some t → Tryz.pinned.checked.prog.wantsStandIn t = false := by
  obtain rfl : f = 5 := Option.some.inj ((show Tryz.prog.funcNamed "threadbare/threadbarelaw02.ListJoins" = some 5 by kernel_rfl).symm.trans hf) |>.symm
  obtain rfl : fn = Tryz.f5 := (Option.some.inj (Tryz.func5.symm.trans hfn)).symm
  refine ⟨by kernel_rfl, fun j t ht => ?_⟩
  rw [Tryz.params5] at ht
  have ht := Array.mem_of_getElem? ht
  simp at ht
  rcases ht with rfl | rfl
  · exact (show Tryz.prog.wantsStandIn 24 = false by kernel_rfl)
  · exact (show Tryz.prog.wantsStandIn 3 = false by kernel_rfl)
theorem card : Rows.ListJoinsUptoCardSaid :=
  Claim7.holds_tied_plain_at .later [] _ _ _ _ said (fun _ h => by cases h) (by kernel_rfl) (fun _ h => by cases h) listJoinsUpto_row_tie rfl ⟨rfl, rfl⟩ (by kernel_rfl) rfl plain (by kernel_rfl)
end Go.Proofs.YtheiageokcgbhaaGreatDoor.listJoins
