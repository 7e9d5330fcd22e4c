/-
  Part K20 of the proofs of this seat: contracts of functions and plain facts, merged from 1 texts.
-/
import Derived.Test.YtkgpmkkodpjdfaaGreatDoorK19
namespace Go.Proofs.YtkgpmkkodpjdfaaGreatDoor.Pz
open Go.RowKit
def litVal (x : Wd) : Value :=
  match litOf x with
  | some s => .tuple #[.string ⟨s.toArray⟩, .bool true]
  | none => .tuple #[.string ⟨#[]⟩, .bool false]
set_option maxRecDepth 100000 in
theorem litP_fn {w : World} {ok : Nat → Prop} {v : Value} {sp : Bool} {ts : List Tok} (h : ToksIs 33 w ok v ts) :
    Calls Tryz.prog 25 #[.agg #[.bool sp, v]] w fun e w' => e = .returned (litVal ⟨sp, ts⟩) ∧ Below w.heap.size w w' := by
  have hlen := h.short
  obtain ⟨a, cap, rfl⟩ : ∃ a c, v = .slice a ts.length c := by
    obtain ⟨a, cap, hv, _⟩ := RowIs.cell h
    exact ⟨a, cap, hv⟩
  have hbl := belowA w (.cells #[.bool sp, .slice a ts.length cap] 49)
  cases sp with
  | true =>
    have HB := hid hbl
    clear h hbl
    go_enter Tryz.func25, Tryz.ntmps25
    go_wp2
    go_ret2
    exact ⟨rfl, HB.out⟩
  | false =>
    by_cases h1 : ts.length = 1
    · obtain ⟨t, rfl⟩ := List.length_eq_one_iff.1 h1
      have h2 := h.ahead hbl
      obtain ⟨g, q, k, s, b, ix, u, e1, hx, _, x0, x1, _, _⟩ := tok_at h2 (i := 0) (by simp)
      simp only [Value.slice.injEq, List.length_cons, List.length_nil] at e1
      obtain ⟨rfl, _, rfl⟩ := e1
      obtain rfl : t = .mk k s b ix := hx
      have y0 : (w.alloc (.cells #[.bool false, .slice (some ⟨g, 0, none⟩) 1 cap] 49)).cell? ⟨g, 0, none⟩ = some (.int .i64 (k : Nat)) := x0
      have y1 : (w.alloc (.cells #[.bool false, .slice (some ⟨g, 0, none⟩) 1 cap] 49)).cell? ⟨g, 1, none⟩ = some (.string ⟨s.toArray⟩) := x1
      clear x0 x1
      have HB := hid hbl
      by_cases hk : k = 1
      · subst hk
        clear h hbl h2
        go_enter Tryz.func25, Tryz.ntmps25
        go_wp2
        go_ret2
        exact ⟨rfl, HB.out⟩
      · have n1 : ((k : Int) != 1) = true := by rw [bne_iff_ne]; omega
        have hv : litVal ⟨false, [.mk k s b ix]⟩ = .tuple #[.string ⟨#[]⟩, .bool false] := by
          unfold litVal litOf
          simp [hk]
        clear h hbl h2 hk h1
        go_enter Tryz.func25, Tryz.ntmps25
        go_wp2
        go_ret2
        exact ⟨by rw [hv]; rfl, HB.out⟩
    · have n1 : ((ts.length : Int) != 1) = true := by rw [bne_iff_ne]; omega
      have hv : litVal ⟨false, ts⟩ = .tuple #[.string ⟨#[]⟩, .bool false] := by
        have h0 : litOf ⟨false, ts⟩ = none := by
          unfold litOf
          split
          · rename_i hh
            exact absurd (by simpa using congrArg List.length hh) h1
          · rfl
        unfold litVal
        rw [h0]
      have HB := hid hbl
      clear h hbl h1
      go_enter Tryz.func25, Tryz.ntmps25
      go_wp2
      go_ret2
      exact ⟨by rw [hv]; rfl, HB.out⟩
set_option maxRecDepth 100000 in
theorem litR_fn {w : World} {ok : Nat → Prop} {v : Value} {sp : Bool} {ts : List Tok} (h : ToksIs 33 w ok v ts) :
    Calls Tryz.prog 26 #[.agg #[.bool sp, v]] w fun e w' => e = .returned (litVal ⟨sp, ts⟩) ∧ Below w.heap.size w w' := by
  have hlen := h.short
  obtain ⟨a, cap, rfl⟩ : ∃ a c, v = .slice a ts.length c := by
    obtain ⟨a, cap, hv, _⟩ := RowIs.cell h
    exact ⟨a, cap, hv⟩
  have hbl := belowA w (.cells #[.bool sp, .slice a ts.length cap] 49)
  cases sp with
  | true =>
    have HB := hid hbl
    clear h hbl
    go_enter Tryz.func26, Tryz.ntmps26
    go_wp2
    go_ret2
    exact ⟨rfl, HB.out⟩
  | false =>
    by_cases h1 : ts.length = 1
    · obtain ⟨t, rfl⟩ := List.length_eq_one_iff.1 h1
      have h2 := h.ahead hbl
      obtain ⟨g, q, k, s, b, ix, u, e1, hx, _, x0, x1, _, _⟩ := tok_at h2 (i := 0) (by simp)
      simp only [Value.slice.injEq, List.length_cons, List.length_nil] at e1
      obtain ⟨rfl, _, rfl⟩ := e1
      obtain rfl : t = .mk k s b ix := hx
      have y0 : (w.alloc (.cells #[.bool false, .slice (some ⟨g, 0, none⟩) 1 cap] 49)).cell? ⟨g, 0, none⟩ = some (.int .i64 (k : Nat)) := x0
      have y1 : (w.alloc (.cells #[.bool false, .slice (some ⟨g, 0, none⟩) 1 cap] 49)).cell? ⟨g, 1, none⟩ = some (.string ⟨s.toArray⟩) := x1
      clear x0 x1
      have HB := hid hbl
      by_cases hk : k = 1
      · subst hk
        clear h hbl h2
        go_enter Tryz.func26, Tryz.ntmps26
        go_wp2
        go_ret2
        exact ⟨rfl, HB.out⟩
      · have n1 : ((k : Int) != 1) = true := by rw [bne_iff_ne]; omega
        have hv : litVal ⟨false, [.mk k s b ix]⟩ = .tuple #[.string ⟨#[]⟩, .bool false] := by
          unfold litVal litOf
          simp [hk]
        clear h hbl h2 hk h1
        go_enter Tryz.func26, Tryz.ntmps26
        go_wp2
        go_ret2
        exact ⟨by rw [hv]; rfl, HB.out⟩
    · have n1 : ((ts.length : Int) != 1) = true := by rw [bne_iff_ne]; omega
      have hv : litVal ⟨false, ts⟩ = .tuple #[.string ⟨#[]⟩, .bool false] := by
        have h0 : litOf ⟨false, ts⟩ = none := by
          unfold litOf
          split
          · rename_i hh
            exact absurd (by simpa using congrArg List.length hh) h1
          · rfl
        unfold litVal
        rw [h0]
      have HB := hid hbl
      clear h hbl h1
      go_enter Tryz.func26, Tryz.ntmps26
      go_wp2
      go_ret2
      exact ⟨by rw [hv]; rfl, HB.out⟩
set_option maxRecDepth 100000 in
theorem sameRows_fn {w : World} {B C : Nat} {u v : Value} {l : List Str} (hu : Row B w u l) (hv : Row C w v l) (hl : l.length ≤ 10000000) :
    Calls Tryz.prog 18 #[u, v] w fun e w' => e = .returned (.bool true) ∧ Below w.heap.size w w' := by
  obtain ⟨a1, c1, rfl⟩ := hu.shape
  obtain ⟨a2, c2, rfl⟩ := hv.shape
  have HU := hid hu
  have HV := hid hv
  clear hu hv
  go_enter Tryz.func18, Tryz.ntmps18
  go_wp2
  go_loopg [13] l.length (fun k iv wr => ∃ i : Nat, iv = .int .i64 (i : Nat) ∧ Below w.heap.size w wr ∧ i + k = l.length)
  case atStart => exact ⟨0, rfl, Below.refl _ _, by simp⟩
  case round =>
    obtain ⟨i, rfl, hbl, hk⟩ := hrel
    by_cases hi : i < l.length
    · obtain ⟨g1, rfl, _, x1⟩ := Row.at (HU.out.on hbl) hi
      obtain ⟨g2, rfl, _, x2⟩ := Row.at (HV.out.on hbl) hi
      obtain ⟨s, hs⟩ : ∃ s, s = l[i] := ⟨_, rfl⟩
      rw [← hs] at x1 x2
      have hi1 : (0 : Int) ≤ (i : Int) ∧ (i : Int) < (l.length : Int) := by omega
      have hi2 : (i : Int) < (l.length : Int) := by omega
      clear hs
      go_wp2
      go_quiet (fail)
      have hbl0 := hid (show Below w.heap.size w (wr.drewN nq) from hbl.trans ⟨rfl, rfl, rfl, Nat.le_refl _, fun _ _ => rfl⟩)
      clear hbl x1 x2
      go_wp2
      go_roundg (l.length - (i + 1))
      case measure => omega
      case rel => exact ⟨i + 1, by go_num, hbl0.out, by omega⟩
    · go_wp2
      go_ret
      exact ⟨rfl, hbl⟩
theorem flat_take {α : Type} (f : α → List Str) (l : List α) {j : Nat} (h : j < l.length) : (l.take (j + 1)).flatMap f = (l.take j).flatMap f ++ f l[j] := by
  rw [List.take_succ_eq_append_getElem h, List.flatMap_append]
  simp
theorem flat_part {α : Type} (f : α → List Str) (l : List α) (j : Nat) : ((l.take j).flatMap f).length ≤ (l.flatMap f).length := by
  have h : l.flatMap f = (l.take j).flatMap f ++ (l.drop j).flatMap f := by rw [← List.flatMap_append, List.take_append_drop]
  rw [h, List.length_append]
  omega
theorem nameOf_at {c : Cmd} {ws : List Wd} (h : ws = c.words) (hj : 0 < ws.length) : nameOf c = (litOf ws[0]).toList := by
  cases ws with
  | nil => simp at hj
  | cons x xs =>
    unfold nameOf
    rw [← h]
    rfl
def nameIf (j : Nat) (c : Cmd) : List Str := if j = 0 then [] else nameOf c
theorem nameIf_le (j : Nat) (c : Cmd) : (nameIf j c).length ≤ 1 := by
  unfold nameIf
  split
  · simp
  · exact nameOf_le c
set_option maxRecDepth 100000 in
set_option maxHeartbeats 4000000 in
theorem all_step {k n : Nat} {w : World} {ok : Nat → Prop} {v : Value} {cs : List Cmd} (f : Str → List Str) (hC : CmdsIs 33 49 47 n w ok v cs) (hf : cfit k cs) (hk1 : k ≤ 100000) (hwt : wcs cs ≤ 1000000)
    (hsum : (cs.flatMap fun c => nameOf c ++ (scrWs c.words).flatMap f).length ≤ 1000000)
    (ih : ∀ (s : Str), s.length < k → ∀ (w : World) (ok : Nat → Prop) (v : Value), CmdsIs 33 49 47 s.length w ok v (cmdsOf s) → Calls Tryz.prog 46 #[v] w fun e w' => ∃ u, e = .returned u ∧ Row w.heap.size w' u (f s) ∧ Below w.heap.size w w') :
    Calls Tryz.prog 46 #[v] w fun e w' => ∃ u, e = .returned u ∧ Row w.heap.size w' u (cs.flatMap fun c => nameOf c ++ (scrWs c.words).flatMap f) ∧ Below w.heap.size w w' := by
  have hlen := hC.short
  obtain ⟨a1, c1, rfl⟩ : ∃ a c, v = .slice a cs.length c := by
    obtain ⟨a, cap, hv, _⟩ := RowIs.cell hC
    exact ⟨a, cap, hv⟩
  have HC := hid hC.low
  have HF := hid hf
  have IH := hid ih
  clear hC hf ih
  obtain ⟨F, hF⟩ : ∃ F : Cmd → List Str, F = fun c => nameOf c ++ (scrWs c.words).flatMap f := ⟨_, rfl⟩
  rw [← hF] at hsum ⊢
  go_enter Tryz.func46, Tryz.ntmps46
  go_wp2
  go_loopg [3, 16] cs.length (fun k ov iv wr => ∃ (i : Nat), iv = .int .i64 (i : Nat) ∧ Row w.heap.size wr ov ((cs.take i).flatMap F) ∧ Below w.heap.size w wr ∧ i + k = cs.length)
  case atStart => exact ⟨0, rfl, by rw [List.take_zero]; exact Row.nil _ _, Below.refl _ _, by simp⟩
  case round =>
    obtain ⟨i, rfl, hown, hbl, hk⟩ := hrel
    by_cases hi : i < cs.length
    · have h1 := HC.out.stay (Below.refl _ _) hbl
      obtain ⟨g1, q1, u1, e1, hw1, x0, x1⟩ := cmd_at h1 hi
      simp only [Value.slice.injEq] at e1
      obtain ⟨rfl, _, rfl⟩ := e1
      have hwl := hw1.short
      have hnext := flat_take F cs hi
      have hcp := flat_part F cs (i + 1)
      have hfw := HF.out _ (List.getElem_mem hi)
      have hww := wcs_mem cs _ (List.getElem_mem hi)
      obtain ⟨cm, hcm⟩ : ∃ cm, cm = cs[i] := ⟨_, rfl⟩
      obtain ⟨bk, hbk⟩ : ∃ bk, bk = (n : Int) - (cs[i].back : Int) := ⟨_, rfl⟩
      rw [← hbk] at x0
      rw [← hcm] at hw1 hwl hnext hfw hww
      obtain ⟨ws, hws⟩ : ∃ ws, ws = cm.words := ⟨_, rfl⟩
      rw [← hws] at hw1 hwl hfw hww
      have hFc : F cm = nameOf cm ++ (scrWs ws).flatMap f := by rw [hF, hws]
      generalize (cs.take i).flatMap F = L at hown hnext hcp
      rw [hnext, hFc, List.length_append, List.length_append] at hcp
      obtain ⟨a3, c3, rfl⟩ : ∃ a c, u1 = .slice a ws.length c := by
        obtain ⟨a, cap, hv, _⟩ := RowIs.cell hw1
        exact ⟨a, cap, hv⟩
      have HWS := hid (fun w2 (h2 : Below w.heap.size w w2) => hw1.stay hbl h2)
      have HFW := hid hfw
      have HN := hid (hnext.trans (by rw [hFc]))
      have HR0 := hid (hown.on (belowA wr (.cells #[.int .i64 bk, .slice a3 ws.length c3] 47)))
      have HB0 := hid (hbl.trans ((belowA wr (.cells #[.int .i64 bk, .slice a3 ws.length c3] 47)).mono hbl.size))
      have hi1 : (0 : Int) ≤ (i : Int) ∧ (i : Int) < (cs.length : Int) := by omega
      have hi2 : (i : Int) < (cs.length : Int) := by omega
      have HWE := hid hws
      clear hw1 hfw hnext hws hbk hcm h1 hown hbl hFc
      go_wp2
      clear x0 x1 hi1 hi2
      go_loopg [3, 23] ws.length (fun k2 ov2 jv wr2 => ∃ (j : Nat), jv = .int .i64 (j : Nat) ∧ Row w.heap.size wr2 ov2 (L ++ (nameIf j cm ++ (scrWs (ws.take j)).flatMap f)) ∧ Below w.heap.size w wr2 ∧ j + k2 = ws.length)
      case atStart => exact ⟨0, rfl, by rw [List.take_zero, nameIf, if_pos rfl, show scrWs [] = [] from rfl, List.flatMap_nil, List.append_nil, List.append_nil]; exact HR0.out, HB0.out, by simp⟩
      case round =>
        obtain ⟨j, rfl, hrow2, hbl2, hk2⟩ := hrel
        clear HR0 HB0
        by_cases hj : j < ws.length
        · have hw2 := HWS.out _ hbl2
          obtain ⟨g2, q2, t1, e2, ht1, p0, p1⟩ := wd_at hw2 hj
          simp only [Value.slice.injEq] at e2
          obtain ⟨rfl, _, rfl⟩ := e2
          have hnext := scrWs_take ws hj
          have hft := HFW.out _ (List.getElem_mem hj)
          have hwx := wws_mem ws _ (List.getElem_mem hj)
          have hnm : nameOf cm = if j = 0 then (litOf ws[j]).toList else nameOf cm := by
            split
            · rename_i h0
              subst h0
              exact nameOf_at HWE.out hj
            · rfl
          have hfp : (scrWs (ws.take (j + 1))).flatMap f = (scrWs (ws.take j)).flatMap f ++ (scrs ws[j].toks).flatMap f := by rw [hnext, List.flatMap_append]
          have hfl : ((scrWs (ws.take (j + 1))).flatMap f).length ≤ ((scrWs ws).flatMap f).length := by
            have h3 : scrWs ws = scrWs (ws.take (j + 1)) ++ scrWs (ws.drop (j + 1)) := by rw [scrWs, scrWs, scrWs, ← List.flatMap_append, List.take_append_drop]
            rw [h3, List.flatMap_append, List.length_append]
            omega
          obtain ⟨x, hx⟩ : ∃ x, x = ws[j] := ⟨_, rfl⟩
          rw [← hx] at ht1 hft hwx p0 hnm hfp
          obtain ⟨sp, ts⟩ := x
          dsimp only at ht1 hft hwx p0 hnm hfp
          obtain ⟨a5, c5, rfl⟩ : ∃ a c, t1 = .slice a ts.length c := by
            obtain ⟨a, cap, hv, _⟩ := RowIs.cell ht1
            exact ⟨a, cap, hv⟩
          have hj1 : (0 : Int) ≤ (j : Int) ∧ (j : Int) < (ws.length : Int) := by omega
          have hj2 : (j : Int) < (ws.length : Int) := by omega
          obtain ⟨w1, hw1⟩ : ∃ w1, w1 = wr.alloc (.cells #[.bool sp, .slice a5 ts.length c5] 49) := ⟨_, rfl⟩
          have hb1 : Below wr.heap.size wr w1 := by rw [hw1]; exact belowA _ _
          have hb2 : Below w.heap.size w w1 := hbl2.trans (hb1.mono hbl2.size)
          have hbk1 : w1.heap[wr.heap.size]? = some (.cells #[.bool sp, .slice a5 ts.length c5] 49 (0, 0)) := by rw [hw1]; exact heap_alloc_new _ _
          have HTS := hid (fun w3 (h3 : Below w.heap.size w w3) => ht1.stay hbl2 h3)
          have hlit := hid (litR_fn (sp := sp) (HTS.out w1 hb2))
          have HR1 := hid (hrow2.on hb1)
          have HB1 := hid hb2
          have HBK1 := hid hbk1
          have HX := hid (show ws[j] = ⟨sp, ts⟩ from hx.symm)
          have HFP := hid hfp
          have HNM := hid hnm
          have HFT := hid hft
          have HW1 := hid hw1
          have hsz1 := hb2.size
          have HS1 := hid (show w1.heap.size = wr.heap.size + 1 by rw [hw1]; simp)
          rw [hfp, List.length_append] at hfl
          have HLT := hid (fun g (h : u3.ownBlock = some g) => (Row.lt hrow2 g h).1)
          have hlj : j = 0 → (scrWs (ws.take j)).flatMap f = [] := fun h => by rw [h, List.take_zero]; rfl
          generalize hLj : (scrWs (ws.take j)).flatMap f = Lj at hrow2 hfl HR1 HFP hlj
          have HLJ := hid hlj
          clear hw1 hb1 hb2 hnext hft hw2 ht1 hrow2 hbl2 hbk1 hx hfp hnm hLj hlj
          go_wp2_with fail
          rw [← HW1.out]
          (with_reducible refine hlit.out.mono ?_); rintro e w2 ⟨rfl, hb2⟩
          have hs2 := hb2.size
          cases hlo : litOf ⟨sp, ts⟩ with
          | none =>
            rw [litVal, hlo]
            have HNI := hid (show nameIf j cm = nameIf (j + 1) cm by
              have h9 := HNM.out
              rw [hlo] at h9
              by_cases h0 : j = 0
              · rw [if_pos h0] at h9
                rw [nameIf, nameIf, if_pos h0, if_neg (by omega), h9]
                rfl
              · rw [nameIf, nameIf, if_neg h0, if_neg (by omega)])
            clear hlo
            have HRA := hid (show Row w.heap.size w2 u3 (L ++ (nameIf (j + 1) cm ++ Lj)) by rw [← HNI.out]; exact Row.on HR1.out hb2)
            have HBA := hid (HB1.out.trans (hb2.mono hsz1))
            have y1 : w2.cell? ⟨wr.heap.size, 1, none⟩ = some (.slice a5 ts.length c5) := by rw [Lib.cell_of_heap ((hb2.block _ (by have := HS1.out; omega)).trans HBK1.out)]; rfl
            clear hb2
            have hcl := hid (scriptsF_fn ts HFT.out w2 _ _ (HTS.out w2 HBA.out) (by omega))
            have hszA := HBA.out.size
            have hnl := nameIf_le (j + 1) cm
            go_wp2_with fail
            (with_reducible refine hcl.out.mono ?_); rintro e w3 ⟨ux, rfl, hr3, hb3⟩
            obtain ⟨a6, c6, e6⟩ := hr3.shape
            subst e6
            have HRS := hid hr3
            have HO3 := hid (Row.on HRA.out hb3)
            have HB3 := hid (HBA.out.trans (hb3.mono hszA))
            have HSEP := hid (show ∀ g, (u3 : Value).ownBlock = some g → (Value.slice a6 (scrs ts).length c6).ownBlock ≠ some g from fun g h1 h2 => by
              have h3 := (Row.lt HRA.out g h1).1
              have h4 := (Row.lt hr3 g h2).2
              omega)
            have HSS := hid (scrs_short ts HFT.out)
            have hcs3 := scrs_count ts
            obtain ⟨l3, hl3⟩ : ∃ l3, l3 = scrs ts := ⟨_, rfl⟩
            rw [← hl3] at HRS HSEP HSS hfl hcs3 HFP ⊢
            clear hr3 hb3 hcl y1 hl3
            go_wp2
            go_loopg [3, 46] l3.length (fun k3 ov3 mv wr3 => ∃ (m : Nat), mv = .int .i64 (m : Nat) ∧ Row w.heap.size wr3 ov3 (L ++ (nameIf (j + 1) cm ++ (Lj ++ (l3.take m).flatMap f))) ∧ Below w.heap.size w wr3 ∧ Row w2.heap.size wr3 (.slice a6 l3.length c6) l3 ∧ (∀ g, ov3.ownBlock = some g → (Value.slice a6 l3.length c6).ownBlock ≠ some g) ∧ m + k3 = l3.length)
            case atStart => exact ⟨0, rfl, by rw [List.take_zero, List.flatMap_nil, List.append_nil]; exact HO3.out, HB3.out, HRS.out, HSEP.out, by simp⟩
            case round =>
              obtain ⟨m, rfl, hrow3, hbl3, hrs3, hsep3, hk3⟩ := hrel
              clear HO3 HB3 HRS HSEP
              by_cases hm : m < l3.length
              · obtain ⟨g6, rfl, _, hxs⟩ := Row.at hrs3 hm
                have hshort := HSS.out _ (List.getElem_mem hm)
                have hft3 := flat_take f l3 hm
                have hfp3 := flat_part f l3 (m + 1)
                obtain ⟨s, hs⟩ : ∃ s, s = l3[m] := ⟨_, rfl⟩
                rw [← hs] at hxs hshort hft3
                rw [hft3, List.length_append] at hfp3
                have HFT3 := hid hft3
                generalize hLm : (l3.take m).flatMap f = Lm at hrow3 hfp3 HFT3
                have HROW := hid hrow3
                have HBL3 := hid hbl3
                have HRS3 := hid hrs3
                have HSEP3 := hid hsep3
                have hsz3 := hbl3.size
                have HQ := hid (readR_fn (s := s) (by omega) wr)
                have HI := hid (fun w v ok => IH.out s hshort w ok v)
                have hm1 : (0 : Int) ≤ (m : Int) ∧ (m : Int) < (l3.length : Int) := by omega
                have hm2 : (m : Int) < (l3.length : Int) := by omega
                clear hs hft3 hLm hrow3 hbl3 hrs3 hsep3
                go_wp2_with fail
                (with_reducible refine HQ.out.mono ?_); intro e w5 h5
                obtain ⟨hb5, a7, n7, c7, z, at', o, rfl, hcs5⟩ := h5
                have hs5 := hb5.size
                obtain ⟨w6, hw6⟩ : ∃ w6, w6 = w5.alloc (.cells #[.int .i64 z, .int .i64 at', .bool o] 63) := ⟨_, rfl⟩
                have hb6 : Below wr.heap.size wr w6 := by rw [hw6]; exact hb5.trans ((belowA _ _).mono hs5)
                have HCS6 := hid (hcs5.ahead (show Below w5.heap.size w5 w6 by rw [hw6]; exact belowA _ _))
                have hs6 := hb6.size
                have HI6 := hid (HI.out w6 _ _ HCS6.out)
                have HB6 := hid hb6
                have HW6 := hid hw6
                clear hw6 hcs5 hb5 hb6
                go_wp2_with fail
                rw [← HW6.out]
                (with_reducible refine HI6.out.mono ?_); rintro e w7 ⟨u7, rfl, hr7, hb7⟩
                have hb37 : Below wr.heap.size wr w7 := HB6.out.trans (hb7.mono hs6)
                have HO7 := hid (Row.on HROW.out hb37)
                have HS7 := hid (Row.on HRS3.out hb37)
                have HB37 := hid hb37
                have hs7 := hb37.size
                have HR7 := hid hr7
                clear hr7 hb7 hb37 hxs hm1 hm2
                go_wp2_with (at_builtin; refine app_row rfl (.tmp 55) (.tmp 57) rfl w.heap.size w6.heap.size _ _ (L ++ (nameIf (j + 1) cm ++ (Lj ++ Lm))) (f s) rfl HO7.out rfl HR7.out (by omega) ?c1 ?_)
                case c1 => simp only [List.length_append]; omega
                intro v8 w8 hr8 hg8 hv8
                have HB8 := hid ((HBL3.out.trans (HB37.out.mono hsz3)).grown hg8 (by omega) (fun g hg => (Row.lt HO7.out g hg).2))
                have HS8 := hid (HS7.out.grown hg8 HSEP3.out)
                have HSEP8 := hid (show ∀ g, v8.ownBlock = some g → (Value.slice (some ⟨g6, 0, none⟩) l3.length c6).ownBlock ≠ some g from fun g h1 h2 => by
                  rcases hv8 g h1 with h3 | h3
                  · exact HSEP3.out g h3 h2
                  · have := (Row.lt HS7.out g h2).1
                    omega)
                have HR8 := hid hr8
                clear hr8 hg8 hv8 HW6
                go_wp2
                go_roundg (l3.length - (m + 1))
                case measure => omega
                case rel => exact ⟨m + 1, by go_num, by rw [HFT3.out]; simpa [List.append_assoc] using HR8.out, HB8.out, HS8.out, HSEP8.out, by omega⟩
              · have ht : l3.take m = l3 := List.take_of_length_le (by omega)
                rw [ht, ← HFP.out] at hrow3
                have HR2 := hid hrow3
                have HB2 := hid hbl3
                clear hrow3 hbl3 hrs3 hsep3
                go_wp2
                go_roundg (ws.length - (j + 1))
                case measure => omega
                case rel => exact ⟨j + 1, by go_num, HR2.out, HB2.out, by omega⟩
          | some s0 =>
            rw [litVal, hlo]
            by_cases h0 : j = 0
            · have n0 : ((j : Int) == 0) = true := by simp [h0]
              have HNI := hid (show L ++ (nameIf j cm ++ Lj) ++ [s0] = L ++ (nameIf (j + 1) cm ++ Lj) by
                have h9 := HNM.out
                rw [hlo, if_pos h0] at h9
                have h8 := HLJ.out h0
                subst h0
                rw [h8, nameIf, nameIf, if_pos rfl, if_neg (by omega), h9]
                simp)
              have HRB := hid (Row.on HR1.out hb2)
              have HBB := hid (HB1.out.trans (hb2.mono hsz1))
              have HK2 := hid ((hb2.block _ (by have := HS1.out; omega)).trans HBK1.out)
              have hnl0 := nameIf_le j cm
              clear hlo h0 hb2
              go_wp2_with (at_builtin; refine app_one (w := w2) rfl rfl (.tmp 38) (.tmp 40) rfl w.heap.size _ (L ++ (nameIf j cm ++ Lj)) s0 rfl HRB.out rfl (by omega) ?c1 ?_)
              case c1 => simp only [List.length_append]; omega
              intro v9 w9 hr9 hg9 hv9
              have y1 : w9.cell? ⟨wr.heap.size, 1, none⟩ = some (.slice a5 ts.length c5) := by
                rw [Lib.cell_of_heap ((hg9.block _ (by have := HS1.out; omega) (fun e => by have := (HLT.out _ e.symm); omega)).trans HK2.out)]
                rfl
              have HRA := hid (show Row w.heap.size w9 v9 (L ++ (nameIf (j + 1) cm ++ Lj)) by rw [← HNI.out]; simpa [List.append_assoc] using hr9)
              have HBA := hid (HBB.out.grown hg9 (by omega) (fun g hg => (Row.lt HRB.out g hg).2))
              clear hr9 hg9 hv9
              have hcl := hid (scriptsF_fn ts HFT.out w9 _ _ (HTS.out w9 HBA.out) (by omega))
              have hszA := HBA.out.size
              have hnl := nameIf_le (j + 1) cm
              go_wp2_with fail
              (with_reducible refine hcl.out.mono ?_); rintro e w3 ⟨ux, rfl, hr3, hb3⟩
              obtain ⟨a6, c6, e6⟩ := hr3.shape
              subst e6
              have HRS := hid hr3
              have HO3 := hid (Row.on HRA.out hb3)
              have HB3 := hid (HBA.out.trans (hb3.mono hszA))
              have HSEP := hid (show ∀ g, (v9 : Value).ownBlock = some g → (Value.slice a6 (scrs ts).length c6).ownBlock ≠ some g from fun g h1 h2 => by
                have h3 := (Row.lt HRA.out g h1).1
                have h4 := (Row.lt hr3 g h2).2
                omega)
              have HSS := hid (scrs_short ts HFT.out)
              have hcs3 := scrs_count ts
              obtain ⟨l3, hl3⟩ : ∃ l3, l3 = scrs ts := ⟨_, rfl⟩
              rw [← hl3] at HRS HSEP HSS hfl hcs3 HFP ⊢
              clear hr3 hb3 hcl y1 hl3
              go_wp2
              go_loopg [3, 46] l3.length (fun k3 ov3 mv wr3 => ∃ (m : Nat), mv = .int .i64 (m : Nat) ∧ Row w.heap.size wr3 ov3 (L ++ (nameIf (j + 1) cm ++ (Lj ++ (l3.take m).flatMap f))) ∧ Below w.heap.size w wr3 ∧ Row w9.heap.size wr3 (.slice a6 l3.length c6) l3 ∧ (∀ g, ov3.ownBlock = some g → (Value.slice a6 l3.length c6).ownBlock ≠ some g) ∧ m + k3 = l3.length)
              case atStart => exact ⟨0, rfl, by rw [List.take_zero, List.flatMap_nil, List.append_nil]; exact HO3.out, HB3.out, HRS.out, HSEP.out, by simp⟩
              case round =>
                obtain ⟨m, rfl, hrow3, hbl3, hrs3, hsep3, hk3⟩ := hrel
                clear HO3 HB3 HRS HSEP
                by_cases hm : m < l3.length
                · obtain ⟨g6, rfl, _, hxs⟩ := Row.at hrs3 hm
                  have hshort := HSS.out _ (List.getElem_mem hm)
                  have hft3 := flat_take f l3 hm
                  have hfp3 := flat_part f l3 (m + 1)
                  obtain ⟨s, hs⟩ : ∃ s, s = l3[m] := ⟨_, rfl⟩
                  rw [← hs] at hxs hshort hft3
                  rw [hft3, List.length_append] at hfp3
                  have HFT3 := hid hft3
                  generalize hLm : (l3.take m).flatMap f = Lm at hrow3 hfp3 HFT3
                  have HROW := hid hrow3
                  have HBL3 := hid hbl3
                  have HRS3 := hid hrs3
                  have HSEP3 := hid hsep3
                  have hsz3 := hbl3.size
                  have HQ := hid (readR_fn (s := s) (by omega) wr)
                  have HI := hid (fun w v ok => IH.out s hshort w ok v)
                  have hm1 : (0 : Int) ≤ (m : Int) ∧ (m : Int) < (l3.length : Int) := by omega
                  have hm2 : (m : Int) < (l3.length : Int) := by omega
                  clear hs hft3 hLm hrow3 hbl3 hrs3 hsep3
                  go_wp2_with fail
                  (with_reducible refine HQ.out.mono ?_); intro e w5 h5
                  obtain ⟨hb5, a7, n7, c7, z, at', o, rfl, hcs5⟩ := h5
                  have hs5 := hb5.size
                  obtain ⟨w6, hw6⟩ : ∃ w6, w6 = w5.alloc (.cells #[.int .i64 z, .int .i64 at', .bool o] 63) := ⟨_, rfl⟩
                  have hb6 : Below wr.heap.size wr w6 := by rw [hw6]; exact hb5.trans ((belowA _ _).mono hs5)
                  have HCS6 := hid (hcs5.ahead (show Below w5.heap.size w5 w6 by rw [hw6]; exact belowA _ _))
                  have hs6 := hb6.size
                  have HI6 := hid (HI.out w6 _ _ HCS6.out)
                  have HB6 := hid hb6
                  have HW6 := hid hw6
                  clear hw6 hcs5 hb5 hb6
                  go_wp2_with fail
                  rw [← HW6.out]
                  (with_reducible refine HI6.out.mono ?_); rintro e w7 ⟨u7, rfl, hr7, hb7⟩
                  have hb37 : Below wr.heap.size wr w7 := HB6.out.trans (hb7.mono hs6)
                  have HO7 := hid (Row.on HROW.out hb37)
                  have HS7 := hid (Row.on HRS3.out hb37)
                  have HB37 := hid hb37
                  have hs7 := hb37.size
                  have HR7 := hid hr7
                  clear hr7 hb7 hb37 hxs hm1 hm2
                  go_wp2_with (at_builtin; refine app_row rfl (.tmp 55) (.tmp 57) rfl w.heap.size w6.heap.size _ _ (L ++ (nameIf (j + 1) cm ++ (Lj ++ Lm))) (f s) rfl HO7.out rfl HR7.out (by omega) ?c1 ?_)
                  case c1 => simp only [List.length_append]; omega
                  intro v8 w8 hr8 hg8 hv8
                  have HB8 := hid ((HBL3.out.trans (HB37.out.mono hsz3)).grown hg8 (by omega) (fun g hg => (Row.lt HO7.out g hg).2))
                  have HS8 := hid (HS7.out.grown hg8 HSEP3.out)
                  have HSEP8 := hid (show ∀ g, v8.ownBlock = some g → (Value.slice (some ⟨g6, 0, none⟩) l3.length c6).ownBlock ≠ some g from fun g h1 h2 => by
                    rcases hv8 g h1 with h3 | h3
                    · exact HSEP3.out g h3 h2
                    · have := (Row.lt HS7.out g h2).1
                      omega)
                  have HR8 := hid hr8
                  clear hr8 hg8 hv8 HW6
                  go_wp2
                  go_roundg (l3.length - (m + 1))
                  case measure => omega
                  case rel => exact ⟨m + 1, by go_num, by rw [HFT3.out]; simpa [List.append_assoc] using HR8.out, HB8.out, HS8.out, HSEP8.out, by omega⟩
                · have ht : l3.take m = l3 := List.take_of_length_le (by omega)
                  rw [ht, ← HFP.out] at hrow3
                  have HR2 := hid hrow3
                  have HB2 := hid hbl3
                  clear hrow3 hbl3 hrs3 hsep3
                  go_wp2
                  go_roundg (ws.length - (j + 1))
                  case measure => omega
                  case rel => exact ⟨j + 1, by go_num, HR2.out, HB2.out, by omega⟩
            · have n0 : ((j : Int) == 0) = false := by rw [beq_eq_false_iff_ne]; omega
              have HNI := hid (show nameIf j cm = nameIf (j + 1) cm by
                unfold nameIf
                rw [if_neg h0, if_neg (by omega)])
              clear hlo h0
              have HRA := hid (show Row w.heap.size w2 u3 (L ++ (nameIf (j + 1) cm ++ Lj)) by rw [← HNI.out]; exact Row.on HR1.out hb2)
              have HBA := hid (HB1.out.trans (hb2.mono hsz1))
              have y1 : w2.cell? ⟨wr.heap.size, 1, none⟩ = some (.slice a5 ts.length c5) := by rw [Lib.cell_of_heap ((hb2.block _ (by have := HS1.out; omega)).trans HBK1.out)]; rfl
              clear hb2
              have hcl := hid (scriptsF_fn ts HFT.out w2 _ _ (HTS.out w2 HBA.out) (by omega))
              have hszA := HBA.out.size
              have hnl := nameIf_le (j + 1) cm
              go_wp2_with fail
              (with_reducible refine hcl.out.mono ?_); rintro e w3 ⟨ux, rfl, hr3, hb3⟩
              obtain ⟨a6, c6, e6⟩ := hr3.shape
              subst e6
              have HRS := hid hr3
              have HO3 := hid (Row.on HRA.out hb3)
              have HB3 := hid (HBA.out.trans (hb3.mono hszA))
              have HSEP := hid (show ∀ g, (u3 : Value).ownBlock = some g → (Value.slice a6 (scrs ts).length c6).ownBlock ≠ some g from fun g h1 h2 => by
                have h3 := (Row.lt HRA.out g h1).1
                have h4 := (Row.lt hr3 g h2).2
                omega)
              have HSS := hid (scrs_short ts HFT.out)
              have hcs3 := scrs_count ts
              obtain ⟨l3, hl3⟩ : ∃ l3, l3 = scrs ts := ⟨_, rfl⟩
              rw [← hl3] at HRS HSEP HSS hfl hcs3 HFP ⊢
              clear hr3 hb3 hcl y1 hl3
              go_wp2
              go_loopg [3, 46] l3.length (fun k3 ov3 mv wr3 => ∃ (m : Nat), mv = .int .i64 (m : Nat) ∧ Row w.heap.size wr3 ov3 (L ++ (nameIf (j + 1) cm ++ (Lj ++ (l3.take m).flatMap f))) ∧ Below w.heap.size w wr3 ∧ Row w2.heap.size wr3 (.slice a6 l3.length c6) l3 ∧ (∀ g, ov3.ownBlock = some g → (Value.slice a6 l3.length c6).ownBlock ≠ some g) ∧ m + k3 = l3.length)
              case atStart => exact ⟨0, rfl, by rw [List.take_zero, List.flatMap_nil, List.append_nil]; exact HO3.out, HB3.out, HRS.out, HSEP.out, by simp⟩
              case round =>
                obtain ⟨m, rfl, hrow3, hbl3, hrs3, hsep3, hk3⟩ := hrel
                clear HO3 HB3 HRS HSEP
                by_cases hm : m < l3.length
                · obtain ⟨g6, rfl, _, hxs⟩ := Row.at hrs3 hm
                  have hshort := HSS.out _ (List.getElem_mem hm)
                  have hft3 := flat_take f l3 hm
                  have hfp3 := flat_part f l3 (m + 1)
                  obtain ⟨s, hs⟩ : ∃ s, s = l3[m] := ⟨_, rfl⟩
                  rw [← hs] at hxs hshort hft3
                  rw [hft3, List.length_append] at hfp3
                  have HFT3 := hid hft3
                  generalize hLm : (l3.take m).flatMap f = Lm at hrow3 hfp3 HFT3
                  have HROW := hid hrow3
                  have HBL3 := hid hbl3
                  have HRS3 := hid hrs3
                  have HSEP3 := hid hsep3
                  have hsz3 := hbl3.size
                  have HQ := hid (readR_fn (s := s) (by omega) wr)
                  have HI := hid (fun w v ok => IH.out s hshort w ok v)
                  have hm1 : (0 : Int) ≤ (m : Int) ∧ (m : Int) < (l3.length : Int) := by omega
                  have hm2 : (m : Int) < (l3.length : Int) := by omega
                  clear hs hft3 hLm hrow3 hbl3 hrs3 hsep3
                  go_wp2_with fail
                  (with_reducible refine HQ.out.mono ?_); intro e w5 h5
                  obtain ⟨hb5, a7, n7, c7, z, at', o, rfl, hcs5⟩ := h5
                  have hs5 := hb5.size
                  obtain ⟨w6, hw6⟩ : ∃ w6, w6 = w5.alloc (.cells #[.int .i64 z, .int .i64 at', .bool o] 63) := ⟨_, rfl⟩
                  have hb6 : Below wr.heap.size wr w6 := by rw [hw6]; exact hb5.trans ((belowA _ _).mono hs5)
                  have HCS6 := hid (hcs5.ahead (show Below w5.heap.size w5 w6 by rw [hw6]; exact belowA _ _))
                  have hs6 := hb6.size
                  have HI6 := hid (HI.out w6 _ _ HCS6.out)
                  have HB6 := hid hb6
                  have HW6 := hid hw6
                  clear hw6 hcs5 hb5 hb6
                  go_wp2_with fail
                  rw [← HW6.out]
                  (with_reducible refine HI6.out.mono ?_); rintro e w7 ⟨u7, rfl, hr7, hb7⟩
                  have hb37 : Below wr.heap.size wr w7 := HB6.out.trans (hb7.mono hs6)
                  have HO7 := hid (Row.on HROW.out hb37)
                  have HS7 := hid (Row.on HRS3.out hb37)
                  have HB37 := hid hb37
                  have hs7 := hb37.size
                  have HR7 := hid hr7
                  clear hr7 hb7 hb37 hxs hm1 hm2
                  go_wp2_with (at_builtin; refine app_row rfl (.tmp 55) (.tmp 57) rfl w.heap.size w6.heap.size _ _ (L ++ (nameIf (j + 1) cm ++ (Lj ++ Lm))) (f s) rfl HO7.out rfl HR7.out (by omega) ?c1 ?_)
                  case c1 => simp only [List.length_append]; omega
                  intro v8 w8 hr8 hg8 hv8
                  have HB8 := hid ((HBL3.out.trans (HB37.out.mono hsz3)).grown hg8 (by omega) (fun g hg => (Row.lt HO7.out g hg).2))
                  have HS8 := hid (HS7.out.grown hg8 HSEP3.out)
                  have HSEP8 := hid (show ∀ g, v8.ownBlock = some g → (Value.slice (some ⟨g6, 0, none⟩) l3.length c6).ownBlock ≠ some g from fun g h1 h2 => by
                    rcases hv8 g h1 with h3 | h3
                    · exact HSEP3.out g h3 h2
                    · have := (Row.lt HS7.out g h2).1
                      omega)
                  have HR8 := hid hr8
                  clear hr8 hg8 hv8 HW6
                  go_wp2
                  go_roundg (l3.length - (m + 1))
                  case measure => omega
                  case rel => exact ⟨m + 1, by go_num, by rw [HFT3.out]; simpa [List.append_assoc] using HR8.out, HB8.out, HS8.out, HSEP8.out, by omega⟩
                · have ht : l3.take m = l3 := List.take_of_length_le (by omega)
                  rw [ht, ← HFP.out] at hrow3
                  have HR2 := hid hrow3
                  have HB2 := hid hbl3
                  clear hrow3 hbl3 hrs3 hsep3
                  go_wp2
                  go_roundg (ws.length - (j + 1))
                  case measure => omega
                  case rel => exact ⟨j + 1, by go_num, HR2.out, HB2.out, by omega⟩
        · have ht : ws.take j = ws := List.take_of_length_le (by omega)
          rw [ht] at hrow2
          have HR2 := hid (show Row w.heap.size wr u3 (L ++ (nameOf cm ++ (scrWs ws).flatMap f)) by
            have h9 : nameIf j cm = nameOf cm := by
              unfold nameIf
              split
              · rename_i h0
                have h8 : cm.words = [] := by rw [← HWE.out]; exact List.eq_nil_of_length_eq_zero (by omega)
                unfold nameOf
                rw [h8]
              · rfl
            rw [← h9]
            exact hrow2)
          have HB2 := hid hbl2
          clear hrow2 hbl2
          go_wp2
          go_roundg (cs.length - (i + 1))
          case measure => omega
          case rel => exact ⟨i + 1, by go_num, by rw [HN.out]; exact HR2.out, HB2.out, by omega⟩
    · have ht : cs.take i = cs := List.take_of_length_le (by omega)
      rw [ht] at hown
      go_wp2
      go_ret
      exact ⟨_, rfl, hown, hbl⟩
end Go.Proofs.YtkgpmkkodpjdfaaGreatDoor.Pz
