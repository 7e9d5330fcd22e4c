/-
  ValueStoresCard: the law's card and what it alone needs, merged from 2 texts. Conditions: the row's own.
-/
import Derived.Test.YtabhkoklcjhlpaaGreatDoorCards
import Derived.Test.YtabhkoklcjhlpaaGreatDoorTie
import Derived.Deep.DeepHandedRow
import Derived.ProofKit
import Derived.OpenShut
import Derived.Lay
import Derived.MakeChecks
import Derived.ChangeMaps5
import Derived.SliceStrings
import Derived.Carry
import Derived.Shelf.Vars
import Derived.Test.YtabhkoklcjhlpaaGreatDoorK0
import Derived.Test.YtabhkoklcjhlpaaGreatDoorK1
import Derived.Test.YtabhkoklcjhlpaaGreatDoorK2
import Derived.Test.YtabhkoklcjhlpaaGreatDoorK3
import Derived.Test.YtabhkoklcjhlpaaGreatDoorK4
import Derived.Test.YtabhkoklcjhlpaaGreatDoorK5
import Derived.Test.YtabhkoklcjhlpaaGreatDoorK6
import Derived.Test.YtabhkoklcjhlpaaGreatDoorK7
import Derived.Test.YtabhkoklcjhlpaaGreatDoorK8
import Derived.Test.YtabhkoklcjhlpaaGreatDoorK9
import Derived.Test.YtabhkoklcjhlpaaGreatDoorKA
import Derived.Test.YtabhkoklcjhlpaaGreatDoorKB
import Derived.Test.YtabhkoklcjhlpaaGreatDoorKC
import Derived.Test.YtabhkoklcjhlpaaGreatDoorKD
import Derived.Test.YtabhkoklcjhlpaaGreatDoorKE
import Derived.Test.YtabhkoklcjhlpaaGreatDoorKF
import Derived.Test.YtabhkoklcjhlpaaGreatDoorKG
import Derived.Test.YtabhkoklcjhlpaaGreatDoorKH
import Derived.Test.YtabhkoklcjhlpaaGreatDoorKI
/-
  The law ValueStores walked.
-/
namespace Go.Proofs.YtabhkoklcjhlpaaGreatDoor.Pz
open Go.RowKit
theorem store_new {B st : Nat} {w : World} (h : w.heap[st]? = some (.cells #[.slice none 0 0] 69 (0, 0))) (h1 : B ≤ st) (h2 : B ≤ w.heap.size) : StoreIs B st w (.slice none 0 0) [] :=
  ⟨⟨h, World.ownsRow_nil _ _ _ _⟩, by simp, by simp, by simp, by simp, ⟨h1, h2, by simp⟩⟩
theorem store_newR {B st : Nat} {w : World} (h : w.heap[st]? = some (.cells #[.slice none 0 0] 105 (0, 0))) (h1 : B ≤ st) (h2 : B ≤ w.heap.size) : RStAt B st w (.slice none 0 0) [] :=
  ⟨h, World.ownsRow_nil _ _ _ _, by simp, by simp, ⟨h1, h2, by simp⟩⟩
theorem act_ok {al : List ActD} (h : lightB al = true) {a : ActD} (ha : a ∈ al) : a.ok := by
  unfold lightB at h
  rw [Bool.and_eq_true] at h
  have h1 := of_decide_eq_true h.2
  have h2 := bulkAs_mem al a ha
  unfold bulkA at h2
  exact ⟨by omega, by omega, joinOk_light (by omega)⟩
set_option maxRecDepth 100000 in
set_option maxHeartbeats 4000000 in
theorem valueStores_fn (al : List ActD) (v : Value) (w : World) (hml : ML w) (hv : ActsB w.heap.size w v al) (hb : bulkAs al ≤ 10000000) :
    Calls Tryz.prog 7 #[v] w fun e w' => e = .returned (.bool true) ∧ Below w.heap.size w w' := by
  obtain ⟨B, hB⟩ : ∃ B, B = w.heap.size := ⟨_, rfl⟩
  have hmB : 0 < B := by rw [hB]; exact hml.lt
  rw [← hB] at hv ⊢
  have HL := hid (lightAs_fn hv (by omega) hb)
  have HV := hid hv
  have HM := hid hml
  have hBw : B ≤ w.heap.size := by omega
  have AW := fun u (h : Below B w u) => hid (awake_fn u (HM.out.lowB hmB h))
  obtain ⟨a, cap, rfl, hcell⟩ := hv
  obtain ⟨n, hn⟩ : ∃ n, n = al.length := ⟨_, rfl⟩
  have HN := hid hn
  rw [← hn] at HL HV ⊢
  have hnb : n ≤ 10000000 := by have := bulkAs_len al; omega
  clear hml hcell hn hb hB
  cases hlt : lightB al with
  | false =>
    rw [hlt] at HL
    clear hlt
    go_enter Tryz.func7, Tryz.ntmps7
    go_wp2_with fail
    (with_reducible refine HL.out.mono ?_); rintro e w1 ⟨rfl, hb1⟩
    have HB1 := hid (hb1.mono hBw)
    have haw := AW _ HB1.out
    clear hb1
    go_wp2_with fail
    (with_reducible refine haw.out.mono ?_); rintro e w2 ⟨rfl, hb2⟩
    have HB2 := hid (HB1.out.trans (hb2.mono (Nat.le_trans hBw HB1.out.size)))
    clear hb2
    go_wp2
    go_ret
    exact ⟨rfl, HB2.out⟩
  | true =>
    rw [hlt] at HL
    have HLT := hid hlt
    have hn40 : n ≤ 40 := by
      have h9 := hlt
      unfold lightB at h9
      rw [Bool.and_eq_true] at h9
      have := of_decide_eq_true h9.1
      have := HN.out
      omega
    clear hlt
    go_enter Tryz.func7, Tryz.ntmps7
    go_wp2_with fail
    (with_reducible refine HL.out.mono ?_); rintro e w1 ⟨rfl, hb1⟩
    have HB1 := hid (hb1.mono hBw)
    have HNS := hid (newStore_fn w1)
    clear hb1
    go_wp2_with fail
    (with_reducible refine HNS.out.mono ?_); rintro e w2 ⟨rfl, hst, hb2⟩
    have hz1 := Nat.le_trans hBw HB1.out.size
    have HB2 := hid (HB1.out.trans (hb2.mono hz1))
    have HNR := hid (newStoreR_fn w2)
    have HST := hid hst
    obtain ⟨st, hst0⟩ : ∃ st, st = w1.heap.size := ⟨_, rfl⟩
    rw [← hst0]
    have HST0 := hid hst0
    clear hb2 hst hst0
    go_wp2_with fail
    (with_reducible refine HNR.out.mono ?_); rintro e w3 ⟨rfl, hst2, hb3⟩
    have hz2 := Nat.le_trans hBw HB2.out.size
    have HB3 := hid (HB2.out.trans (hb3.mono hz2))
    obtain ⟨st2, hst20⟩ : ∃ st2, st2 = w2.heap.size := ⟨_, rfl⟩
    rw [← hst20]
    have hz3 := Nat.le_trans hBw HB3.out.size
    have hj : J2 B st st2 w3 [] (AR []) := by
      have h2 := HST.out.blk
      rw [← HST0.out] at h2
      refine ⟨_, _, _, _, store_new ((hb3.block st (Array.getElem?_eq_some_iff.1 h2).1).trans h2) (by have := HST0.out; omega) hz3, store_newR (st := st2) (by rw [hst20]; exact hst2.blk) (by omega) hz3, rfl, rfl⟩
    have HJ := hid hj
    clear hst2 hb3 hst20 hj
    go_wp2
    go_loopg [15] n (fun k iv wr => ∃ (i : Nat) (A : ShA), iv = .int .i64 (i : Nat) ∧ i ≤ n ∧ J2 B st st2 wr A (AR A) ∧ Below B w wr ∧ A.length ≤ i ∧ k = n - i)
    case atStart => exact ⟨0, [], rfl, Nat.zero_le _, HJ.out, HB3.out, Nat.le_refl _, by simp⟩
    case round =>
      obtain ⟨i, A, rfl, hi, hj, hbl, hAl, rfl⟩ := hrel
      rcases Nat.lt_or_ge i n with hlt | hge
      · have hlt' : i < al.length := by rw [← HN.out]; exact hlt
        obtain ⟨a', cap', e', hcell⟩ := HV.out.low hbl
        simp only [Value.slice.injEq] at e'
        obtain ⟨b, o, lv, ha, hbl2, hlv, q4, q5, q6, q7, q8, q9⟩ := hcell i hlt'
        rw [← e'.1] at ha
        clear hcell e'
        subst ha
        obtain ⟨x, hx⟩ : ∃ x, x = al[i] := ⟨_, rfl⟩
        have hxok : x.ok := act_ok HLT.out (by rw [hx]; exact List.getElem_mem hlt')
        rw [← hx] at hlv q4 q5 q6 q7 q8
        have HOK := hid hxok
        have HLV := hid hlv
        have hlsh : ∃ la ln lc, lv = .slice la ln lc := by
          obtain ⟨la, lc, e, _⟩ := hlv
          exact ⟨_, _, _, e⟩
        obtain ⟨la, ln, lc, rfl⟩ := hlsh
        have hwz := Nat.le_trans hBw hbl.size
        have HPL := fun (u : World) (hbu : Below wr.heap.size wr u) => hid (play_fn (hj.on hbu) (HM.out.lowB hmB (hbl.trans (hbu.mono hwz))) hmB (by omega) x (.slice la ln lc) (HLV.out.low (hbu.mono hwz)) HOK.out)
        obtain ⟨kind, h, nn, s, t, l⟩ := x
        dsimp only at q4 q5 q6 q7 q8
        unfold ActD.cells at HPL
        dsimp only at HPL
        obtain ⟨W, hW⟩ : ∃ W, W = wr.alloc (.cells #[.int .i64 kind, .int .i64 h, .int .i64 nn, .string ⟨s.toArray⟩, .string ⟨t.toArray⟩, .slice la ln lc] 25) := ⟨_, rfl⟩
        have hbW : Below wr.heap.size wr W := by rw [hW]; exact belowA _ _
        have hpl := HPL W hbW
        have HBW := hid (hbl.trans (hbW.mono hwz))
        have HWW := hid hW
        clear HPL hj hlv hxok hbl hx hbW hW HLV HOK
        have hi0 : i = 0 ∨ 0 < i := by omega
        go_wp2_with fail
        rw [← HWW.out]
        (with_reducible refine hpl.out.mono ?_); rintro e w4 ⟨rfl, A', hj4, hA4, hb4, hx4⟩
        have HB4 := hid (HBW.out.trans hb4)
        have HJ4 := hid hj4
        have HSA := hid (sameS_fn hj4 (HM.out.lowB hmB HB4.out) hmB (by omega))
        clear hj4 hb4 hx4 q4 q5 q6 q7 q8 q9 hpl
        go_wp2_with fail
        (with_reducible refine HSA.out.mono ?_); rintro e w5 ⟨rfl, hj5, hb5, hx5⟩
        have HB5 := hid (HB4.out.trans hb5)
        have HJ5 := hid hj5
        clear hj5 hb5 hx5
        go_wp2
        go_roundg (n - (i + 1))
        case measure => omega
        case rel => exact ⟨i + 1, A', by go_num, by omega, HJ5.out, HB5.out, by omega, rfl⟩
      · obtain rfl : i = n := by omega
        have haw := AW _ hbl
        have HBB := hid hbl
        have hwz := Nat.le_trans hBw hbl.size
        clear hj hbl
        go_wp2_with fail
        (with_reducible refine haw.out.mono ?_); rintro e w4 ⟨rfl, hb4⟩
        have HB9 := hid (HBB.out.trans (hb4.mono hwz))
        clear hb4
        go_wp2
        go_ret
        exact ⟨rfl, HB9.out⟩
end Go.Proofs.YtabhkoklcjhlpaaGreatDoor.Pz
/-
  ValueStores: the row and its card (the second form: arguments of bulk at most 1048576). Condition: the listed package-level variables hold what the row lists (the card ties them to the text).
-/
namespace Go.Proofs.YtabhkoklcjhlpaaGreatDoor.valueStores
open Go.ChangeMaps Go.ChangeShapes Go.WideShapes Go.ChangeAt Go.RowKit
theorem own : ownKnob Tryz.prog.godebug = none := by kernel_rfl
theorem ok_true {P : Program} {W' : World} {f : Func} {t : TypeId} (hr : f.resultTypes = #[t]) (ht : P.underlying t = some .bool) :
    ∀ (j : Nat) (t' : TypeId) (r : Value), f.resultTypes[j]? = some t' → ((Value.bool true).resultList f.resultTypes.size)[j]? = some r → Value.okWide P W' .any 0 t' r := ok_one hr rfl (okWide_bool_mk ht true)
section
variable {H : Type} {enc : TypeId × Value → H}
/-- the row's last step: the arguments' places read as they did, no variable is asked, what lay below is as it was -/
theorem post_rows {f : Func} {s : ChangeSpec} {W W' : World} {args : Array Value} {v : Value} {ds gs : List (DataW H)} {before pa : List MemPlace}
    (hW : DataW.Whole enc Tryz.prog f.params.toList s.vars false W args.toList ds gs before)
    (hres : ∀ (b : Nat) (sp : Nat → Bool) (hd : Bool), DataW.TrodAll enc Tryz.prog W' b sp hd f.resultTypes.toList (v.resultList f.resultTypes.size) (s.fn H (ds ++ gs)).results [])
    (hargs : DataW.TrodAll enc Tryz.prog W' 0 (fun b => decide (b < W.heap.size)) true f.params.toList args.toList (s.fn H (ds ++ gs)).args pa)
    (hvars : ∀ sp : Nat → Bool, DataW.TrodVars enc Tryz.prog W' sp s.vars (s.fn H (ds ++ gs)).vars []) (hb : Below W.heap.size W W') :
    s.post enc Tryz.prog f false true false false W args v W' :=
  ⟨ds, gs, before, [], pa, [], hW, hres _ _ _, hargs, hvars _, hb.frame _, fun h => by cases h⟩
theorem laidOut : laidOutB Tryz.prog = true := by kernel_rfl
end
theorem contract (H : Type) (enc : TypeId × Value → H) (W : World) (base : Nat) (args : Array Value) (ds gs : List (DataW H)) (before : List MemPlace)
    (hval : ∀ (j : Nat) t v, Tryz.f7.params[j]? = some t → args[j]? = some v → Value.okWide Tryz.prog W .any base t v)
    (hW : DataW.Whole enc Tryz.prog Tryz.f7.params.toList Rows.valueStoresSpec.vars false W args.toList ds gs before) (hk : Rows.uptoSmall H (ds ++ gs) = true) (hml : Pz.ML W) :
    Calls Tryz.prog 7 args W fun e W' => ∃ v, e = .returned v ∧ Rows.valueStoresSpec.post enc Tryz.prog Tryz.f7 false true false false W args v W' := by
  have hW' := hW
  obtain ⟨p, q, hA0, hV, rfl, hfz, hnd⟩ := hW
  have hA : DataW.TrodAll enc Tryz.prog W 0 (fun _ => true) true Tryz.f7.params.toList args.toList ds p := hA0
  rw [Tryz.params7] at hA hval
  obtain ⟨v0, vs0, d0, ds0, p0, q0, hargs, rfl, rfl, h0, r0⟩ := trodAll_cons hA
  obtain ⟨rfl, rfl, rfl⟩ := trodAll_nil r0
  obtain rfl : args = #[v0] := by cases args; simp_all
  obtain ⟨rfl, rfl⟩ := trodVars_none hV
  clear hA0
  simp only [List.append_nil] at hW' hk
  have hlt0 : ∀ x ∈ p0, x.block < W.heap.size := fun x hx => by simpa using hW'.lt x (by simp [hx])
  obtain ⟨l0, hl0, hb0, hn0⟩ := Opn.opened_acts (P := Tryz.prog) Tryz.underlying26 Tryz.underlying25 (by kernel_rfl) ⟨_, rfl, rfl, rfl⟩ ⟨_, rfl, rfl, rfl⟩ ⟨_, rfl, rfl, rfl⟩ ⟨_, rfl, rfl, rfl⟩ ⟨_, rfl, rfl, rfl⟩ ⟨_, rfl, rfl, rfl⟩ rfl Tryz.underlying3 (by kernel_rfl) Tryz.underlying9 (by kernel_rfl) Tryz.underlying22 (by kernel_rfl) (by with_reducible exact hval 0 26 v0 (by simp) (by simp)) h0 hlt0
  have hk := of_decide_eq_true hk
  simp only [Rows.uptoBulkAll] at hk
  have walk := Pz.valueStores_fn l0 _ W hml hl0 (by omega)
  refine walk.mono fun e W' ⟨he, hg⟩ => ?_
  subst he
  exact ⟨_, rfl, post_rows hW' (fun _ _ _ => trodAll_cons_mk (shut_bool Tryz.underlying4 _) trodAll_mk0) (trodAll_cons_mk (Below.trod laidOut (by kernel_rfl) (of_decide_eq_true (by kernel_rfl)) h0 hg hlt0) (trodAll_mk0)) (fun _ => rfl) hg⟩
theorem reads (os : Os) {H : Type} (enc : TypeId × Value → H) : ∃ places, DataW.whole enc Tryz.prog ((World.laidAll Tryz.prog os Rows.valueStoresUptoRow.laid).forCall (fun _ _ => 0) ⟨#[], #[.slice none 0 0], []⟩).memory Tryz.f7.params.toList Rows.valueStoresSpec.vars false (#[.slice none 0 0] : Array Value).toList 8 = some ([.nil], [], places) :=
  ⟨[], by kernel_rfl⟩
set_option maxRecDepth 100000 in
theorem lifted (os : Os) (started : os.Started) (H : Type) (enc : TypeId × Value → H) (F : Stop.Interp) :
    ReturnsInHanded {} Tryz.checked os 7 .any ((Rows.OpenSpec.upto Rows.valueStoresSpec).preRow enc Tryz.prog Tryz.f7 Rows.valueStoresUptoRow.domain false Rows.valueStoresUptoRow.laid) (((Rows.OpenSpec.upto Rows.valueStoresSpec).at F).post enc Tryz.prog Tryz.f7 false true false false) := by
  obtain ⟨places, hx⟩ := reads os enc
  have hl : laidMetH Tryz.prog Rows.valueStoresUptoRow.laid ((World.laidAll Tryz.prog os Rows.valueStoresUptoRow.laid).forCall (fun _ _ => 0) ⟨#[], #[.slice none 0 0], []⟩).memory := by
    rw [MakeChecks.laidMetH_plain _ _ _ (by kernel_rfl)]
    exact laidMet_laidAll _ (by kernel_rfl) (by kernel_rfl)
  refine returnsInHanded_of_row (C := Tryz.checked) (s := (Rows.OpenSpec.upto Rows.valueStoresSpec)) own started (by kernel_rfl) Tryz.func7
    (witness_row_at (enc := enc) (C := Tryz.checked) false (World.laidAll Tryz.prog os Rows.valueStoresUptoRow.laid) #[.slice none 0 0] (World.laidAll_os _ _ _) (by kernel_rfl) (by kernel_rfl) (by kernel_rfl)
      (OpenSpec.preRow_of_cond 8 hx (by kernel_rfl) (fun k hk => by cases hk; kernel_rfl) (by kernel_rfl) hl)) ?_
  intro W base args ds gs before hval hW _ hcond _ _ hsh _
  exact contract H enc W base args ds gs before hval hW (hcond _ rfl) (cell_of_shapedOpen_int (t := 3) (zero := #[.int .i64 0]) hsh (of_decide_eq_true (by kernel_rfl)) (by kernel_rfl) rfl (by kernel_rfl) (by kernel_rfl) Tryz.underlying3)
theorem said : Rows.ValueStoresUptoSaid :=
  OpenClaim.holds_of_cond 7 Tryz.f7 rfl rfl rfl rfl rfl rfl rfl ⟨rfl, rfl, rfl, rfl, rfl⟩ rfl rfl rfl rfl rfl (by kernel_rfl) Tryz.func7 (by kernel_rfl)
    (of_decide_eq_true (by kernel_rfl)) (by unfold Func.isWrapper; first | (rw [if_pos (by decide +kernel)]; kernel_rfl) | (rw [if_neg (by decide +kernel)]; exact ⟨rfl, rfl⟩))
    (fun os started H enc _ F => by rw [OpenClaim.pre_eq_preRow]; exact lifted os started H enc F)
theorem plain (f : FuncId) (fn : Func) (hf : Tryz.pinned.checked.prog.funcNamed "threadbare/threadbarelaw05.ValueStores" = some f) (hfn : Tryz.pinned.checked.prog.funcs[f]? = some fn) :
    true = Tryz.pinned.checked.prog.looks [] ∧ ∀ (j : Nat) t, fn.params[j]? = some t → Tryz.pinned.checked.prog.wantsStandIn t = false := by
  obtain rfl : f = 7 := Option.some.inj ((show Tryz.prog.funcNamed "threadbare/threadbarelaw05.ValueStores" = some 7 by kernel_rfl).symm.trans hf) |>.symm
  obtain rfl : fn = Tryz.f7 := (Option.some.inj (Tryz.func7.symm.trans hfn)).symm
  refine ⟨by kernel_rfl, fun j t ht => ?_⟩
  rw [Tryz.params7] at ht
  have ht := Array.mem_of_getElem? ht
  simp at ht
  subst ht
  exact (show Tryz.prog.wantsStandIn 26 = false by kernel_rfl)
theorem card : Rows.ValueStoresUptoCardSaid :=
  Claim7.holds_tied_plain_at .later [] _ _ _ _ said (fun _ h => by cases h) (by kernel_rfl) (fun _ h => by cases h) valueStoresUpto_row_tie rfl ⟨rfl, rfl⟩ (by kernel_rfl) rfl plain (by kernel_rfl)
end Go.Proofs.YtabhkoklcjhlpaaGreatDoor.valueStores
