/-
  Part K16 of the proofs of this seat: contracts of functions and plain facts, merged from 1 texts.
-/
import Derived.Test.YtihdndaibmgoiaaGreatDoorK0
import Derived.Test.YtihdndaibmgoiaaGreatDoorK1
import Derived.Test.YtihdndaibmgoiaaGreatDoorK2
import Derived.Test.YtihdndaibmgoiaaGreatDoorK3
import Derived.Test.YtihdndaibmgoiaaGreatDoorK4
import Derived.Test.YtihdndaibmgoiaaGreatDoorK5
import Derived.Test.YtihdndaibmgoiaaGreatDoorK6
import Derived.Test.YtihdndaibmgoiaaGreatDoorK7
import Derived.Test.YtihdndaibmgoiaaGreatDoorK8
import Derived.Test.YtihdndaibmgoiaaGreatDoorK9
import Derived.Test.YtihdndaibmgoiaaGreatDoorK10
import Derived.Test.YtihdndaibmgoiaaGreatDoorK11
import Derived.Test.YtihdndaibmgoiaaGreatDoorK12
import Derived.Test.YtihdndaibmgoiaaGreatDoorK13
import Derived.Test.YtihdndaibmgoiaaGreatDoorK14
import Derived.Test.YtihdndaibmgoiaaGreatDoorK15
/-
  The reference 10: Unpack.
-/
namespace Go.Proofs.YtihdndaibmgoiaaGreatDoor.Pz
open Go.RowKit
attribute [local go_sem] Oper.semAt_some
theorem num_class {c : UInt8} (hk : knownL c = true) (h64 : c ≠ 64) (h120 : c ≠ 120) (h97 : c ≠ 97) (h65 : c ≠ 65) (h104 : c ≠ 104) (h72 : c ≠ 72) (h98 : c ≠ 98) (h66 : c ≠ 66) : 1 ≤ widthL c ∧ textL c = false ∧ grt c = highL c := by
  have h := known_class hk
  have e : ∀ k : UInt8, c ≠ k → (c == k) = false := fun k h => beq_eq_false_iff_ne.2 h
  unfold clsR at h
  rw [e 64 h64, e 120 h120, e 97 h97, e 65 h65, e 104 h104, e 72 h72, e 98 h98, e 66 h66] at h
  simp only [Bool.or_false, Bool.false_or, Bool.false_and, Bool.and_eq_true, decide_eq_true_eq, Bool.not_eq_true', beq_iff_eq] at h
  exact ⟨h.1.1.1.1.1.1, h.1.1.1.1.1.2, h.1.1.1.1.2⟩
set_option maxRecDepth 1000000 in
set_option maxHeartbeats 16000000 in
theorem unpackR_fn (y s : Str) (hy : y.length ≤ 100000) (hs : s.length ≤ 100000) (w : World) (htab : Tab w) : Calls Tryz.prog 28 #[.string ⟨y.toArray⟩, .string ⟨s.toArray⟩] w (UnpackQ y s w) := by
  have hsz : (⟨s.toArray⟩ : ByteArray).size = s.length := Lib.size_mk _
  have hrd := readL_fn y true hy w
  rw [readG_valid] at hrd
  unfold ReadQ at hrd
  unfold UnpackQ
  by_cases hv : validE y = true
  case neg =>
    have HRS := hid (show unpackRes y s = ([], false, 2) by unfold unpackRes; rw [if_neg hv])
    rw [if_neg hv] at hrd
    have HRD := hid (show Calls Tryz.prog 82 #[.string ⟨y.toArray⟩, .bool true] w fun e w' => ∃ v, e = .returned (.tuple #[v, .bool false]) ∧ RowD w.heap.size w' v [] ∧ Below w.heap.size w w' from hrd)
    clear hrd hv
    go_enter Tryz.func28, Tryz.ntmps28
    go_wp2_with (go_at_call 82; (with_reducible refine HRD.out.mono ?_); rintro e w1 ⟨v, rfl, hr1, hb1⟩; have HB1 := hid hb1; clear hr1 hb1)
    go_ret3
    exact ⟨_, by rw [HRS.out]; rfl, by rw [HRS.out]; exact RowS.nil _ _, HB1.out⟩
  rw [if_pos hv] at hrd
  obtain ⟨l, hl⟩ : ∃ l, l = fldsE y := ⟨_, rfl⟩
  have HOK := hid (show ∀ f ∈ l, FldOk f by rw [hl]; exact valid_ok hv)
  have HRS := hid (show unpackRes y s = ((unpackGo l s 0 []).1, (unpackGo l s 0 []).2, 0) by unfold unpackRes; rw [if_pos hv, hl])
  have hl9 : l.length ≤ 100000 := by rw [hl]; exact Nat.le_trans (flds_len _ y (Nat.le_refl _)) hy
  rw [← hl] at hrd
  have HRD := hid (show Calls Tryz.prog 82 #[.string ⟨y.toArray⟩, .bool true] w fun e w' => ∃ v, e = .returned (.tuple #[v, .bool true]) ∧ RowD w.heap.size w' v l ∧ Below w.heap.size w w' from hrd)
  have HT := hid htab
  obtain ⟨n, hn⟩ : ∃ n, n = l.length := ⟨_, rfl⟩
  have HNL := hid hn
  obtain ⟨U, hU⟩ : ∃ U, U = unpackGo l s 0 [] := ⟨_, rfl⟩
  rw [← hU] at HRS
  have HU := hid hU
  clear hrd hv hl htab hn hU
  go_enter Tryz.func28, Tryz.ntmps28
  go_wp2_with (go_at_call 82; (with_reducible refine HRD.out.mono ?_); rintro e w1 ⟨v, rfl, hr1, hb1⟩; have HB1 := hid hb1; obtain ⟨va, vc, hve⟩ := hr1.shape; subst hve; rw [← HNL.out] at hr1; have HR1 := hid hr1; clear hr1 hb1)
  go_loopg [4, 9, 26] n (fun k ov av iv wr => ∃ (i at0 : Nat) (os : List Str), iv = .int .i64 (i : Nat) ∧ av = .int .i64 (at0 : Nat) ∧ i ≤ n ∧ at0 ≤ s.length ∧ os.length ≤ i ∧ RowS w1.heap.size wr ov os ∧ U = unpackGo (l.drop i) s at0 os ∧ Below w1.heap.size w1 wr ∧ k = n - i)
  case atStart => exact ⟨0, 0, [], rfl, rfl, Nat.zero_le _, Nat.zero_le _, Nat.le_refl _, RowS.nil _ _, by rw [List.drop_zero]; exact HU.out, Below.refl _ _, rfl⟩
  case round =>
    obtain ⟨i, at0, os, rfl, rfl, hin, hat, hos, hro, hun, hbl, hk⟩ := hrel
    replace hk := hk.symm
    subst hk
    have HRO := hid hro
    have HUN := hid hun
    have HBL := hid hbl
    have hs4 := hbl.size
    obtain ⟨ao, co, he⟩ := hro.shape
    subst he
    clear hro hun hbl
    rcases Nat.lt_or_ge i n with hlt | hge
    · have hltI : (i : Int) < (n : Int) := by omega
      have hil : i < l.length := by rw [← HNL.out]; exact hlt
      obtain ⟨g, hge, _, hgl, f0, f1, f2⟩ := RowD.at HR1.out hil
      subst hge
      obtain ⟨f, hf⟩ : ∃ f, f = l[i] := ⟨_, rfl⟩
      rw [← hf] at f0 f1 f2
      have HFO := hid (HOK.out f (by rw [hf]; exact List.getElem_mem hil))
      have HDR := hid (show l.drop i = f :: l.drop (i + 1) by rw [hf]; exact List.drop_eq_getElem_cons hil)
      have g0 := (HBL.out.cell (p := ⟨g, i * 3, none⟩) hgl).trans f0
      have g1 := (HBL.out.cell (p := ⟨g, i * 3 + 1, none⟩) hgl).trans f1
      have g2 := (HBL.out.cell (p := ⟨g, i * 3 + 2, none⟩) hgl).trans f2
      obtain ⟨c, p, q⟩ := f
      dsimp only at g0 g1 g2
      clear hf f0 f1 f2
      obtain ⟨L, hL⟩ : ∃ L, L = s.length - at0 := ⟨_, rfl⟩
      have hLI : (s.length : Int) - (at0 : Int) = (L : Int) := by omega
      have hL9 : L ≤ 100000 := by omega
      have HLE := hid hL
      have hwL : IntKind.i64.wrap (L : Int) = (L : Int) := IntWalk.i64_in _ (by omega)
      rw [HDR.out] at HUN
      have HSZ := hid (fun v => sizeR_fn c v)
      have hrow := HRO.out.on (w' := wr.alloc (.cells #[.int .u8 (c.toNat : Nat), .bool p, .int .i64 q] 103)) ((Below.refl _ wr).alloc (Nat.le_refl _) _)
      have HROW := hid hrow
      have HBW := hid (show Below wr.heap.size wr (wr.alloc (.cells #[.int .u8 (c.toNat : Nat), .bool p, .int .i64 q] 103)) from (Below.refl _ wr).alloc (Nat.le_refl _) _)
      clear hL hrow HDR
      by_cases hc : c = 97
      · as_aux_lemma =>
          rcases (show q = -1 ∨ q = -2 ∨ ∃ m : Nat, q = (m : Int) ∧ m ≤ 9999 by
              have h1 := HFO.out.2.2.1
              have h2 := HFO.out.2.2.2.1
              dsimp only at h1 h2
              rcases (show q = -1 ∨ q = -2 ∨ 0 ≤ q by omega) with h | h | h
              · exact .inl h
              · exact .inr (.inl h)
              · exact .inr (.inr ⟨q.toNat, by omega, by omega⟩)) with hq | hq | ⟨m, hq, hm9⟩
          · have y104 : ((c.toNat : Int) == 104) = false := byte_ne (k := 104) 104 (by rw [hc]; decide) rfl
            have y72 : ((c.toNat : Int) == 72) = false := byte_ne (k := 72) 72 (by rw [hc]; decide) rfl
            have y98 : ((c.toNat : Int) == 98) = false := byte_ne (k := 98) 98 (by rw [hc]; decide) rfl
            have y66 : ((c.toNat : Int) == 66) = false := byte_ne (k := 66) 66 (by rw [hc]; decide) rfl
            have y64 : ((c.toNat : Int) == 64) = false := byte_ne (k := 64) 64 (by rw [hc]; decide) rfl
            have y120 : ((c.toNat : Int) == 120) = false := byte_ne (k := 120) 120 (by rw [hc]; decide) rfl
            have y97 : ((c.toNat : Int) == 97) = true := byte_is hc rfl
            have y65 : ((c.toNat : Int) == 65) = false := byte_ne (k := 65) 65 (by rw [hc]; decide) rfl
            have HSZc := hid (show ∀ v, Calls Tryz.prog 83 #[.int .u8 (c.toNat : Nat)] v fun e w' => e = .returned (.int .i64 0) ∧ w' = v from fun v => by have h := HSZ.out v; rw [show widthL c = 0 by rw [hc]; rfl] at h; exact h)
            subst hq
            obtain ⟨Q, hQ⟩ : ∃ Q, Q = lenL c 1 := ⟨_, rfl⟩
            have hQe : Q = 1 := by rw [hQ, hc]; show max 1 0 * 1 = 1; rw [show max 1 0 = 1 from rfl, Nat.one_mul]
            have HCU := hid (show cntU ⟨c, p, -1⟩ L = 1 by rw [hc]; rfl)
            have HBY := hid (show ∀ v, Calls Tryz.prog 84 #[.int .u8 (c.toNat : Nat), .int .i64 1] v fun e w' => e = .returned (.int .i64 (lenL c 1 : Nat)) ∧ w' = v from fun v => bytesR_fn c (by rw [hc]; rfl) (by rw [hc]; decide) 1 (by omega) v)
            rw [← hQ] at HBY
            have HGO := hid (show unpackGo (⟨c, p, -1⟩ :: l.drop (i + 1)) s at0 os = if L < Q then (os, false) else unpackGo (l.drop (i + 1)) s (at0 + Q) (os ++ [toldE ⟨c, p, -1⟩ 1 ((s.drop at0).take Q)]) by
              rw [unpackGo, if_neg (by simp [hc])]
              dsimp only
              rw [← HLE.out, HCU.out, ← hQ, show takesL c = true by rw [hc]; rfl]
              rfl)
            by_cases hfit : L < Q
            · have hgt : (L : Int) < (Q : Int) := by omega
              have HO := hid (show U = (os, false) by rw [HUN.out, HGO.out, if_pos hfit])
              clear hfit hQ hQe hc
              go_wp2_with (first | (go_at_call 83; (with_reducible refine (HSZc.out _).mono ?_); rintro e w3 ⟨rfl, rfl⟩) | (go_at_call 84; (with_reducible refine (HBY.out _).mono ?_); rintro e w3 ⟨rfl, rfl⟩))
              go_ret3
              exact ⟨_, by rw [HRS.out, HO.out]; rfl, by rw [HRS.out, HO.out]; exact HROW.out.mono HB1.out.size, HB1.out.trans ((HBL.out.trans (HBW.out.mono hs4)).mono HB1.out.size)⟩
            · have hgt : ¬ ((L : Int) < (Q : Int)) := by omega
              obtain ⟨x, hx⟩ : ∃ x, x = (s.drop at0).take Q := ⟨_, rfl⟩
              obtain ⟨oe, hoe⟩ : ∃ oe, oe = at0 + Q := ⟨_, rfl⟩
              have hQL : Q ≤ s.length - at0 := by rw [← HLE.out]; omega
              have hxl : x.length = Q := by rw [hx, List.length_take, List.length_drop]; omega
              have hoeI : (at0 : Int) + (Q : Int) = (oe : Int) := by omega
              have hext : (⟨s.toArray⟩ : ByteArray).extract at0 oe = ⟨x.toArray⟩ := by rw [Lib.extract_mk, hx, hoe, show at0 + Q - at0 = Q by omega]
              have hwoe : IntKind.i64.wrap (oe : Int) = (oe : Int) := IntWalk.i64_in _ (by omega)
              have hle1 : (at0 : Int) ≤ (oe : Int) := by omega
              have hle2 : (oe : Int) ≤ (s.length : Int) := by omega
              have hle3 : oe ≤ s.length := by omega
              have HN := hid (show U = unpackGo (l.drop (i + 1)) s oe (os ++ [x]) by
                rw [HUN.out, HGO.out, if_neg hfit, hoe, ← hx]
                rw [show toldE ⟨c, p, -1⟩ 1 x = x by rw [hc]; rfl])
              clear hfit hQ hQe hc hx hoe hxl hQL
              go_wp2_with (first | (go_at_call 83; (with_reducible refine (HSZc.out _).mono ?_); rintro e w3 ⟨rfl, rfl⟩) | (go_at_call 84; (with_reducible refine (HBY.out _).mono ?_); rintro e w3 ⟨rfl, rfl⟩) | (at_builtin; refine app_one (by simp) rfl (.tmp 117) (.tmp 119) rfl w1.heap.size _ _ x rfl HROW.out rfl (Nat.le_trans hs4 HBW.out.size) (by omega) ?_; intro v9 w9 hr9 hg9 hv9; have HR9 := hid hr9; have HB9 := hid ((HBL.out.trans (HBW.out.mono hs4)).grown hg9 (Nat.le_trans hs4 HBW.out.size) (fun k hk => (HROW.out.lt k hk).2)); clear hr9 hg9 hv9))
              go_roundg (n - (i + 1))
              case measure => omega
              case rel => exact ⟨i + 1, oe, os ++ [x], by go_num, by go_num, hlt, hle3, by rw [List.length_append]; simp only [List.length_cons, List.length_nil]; omega, HR9.out, HN.out, HB9.out, rfl⟩
          · have y104 : ((c.toNat : Int) == 104) = false := byte_ne (k := 104) 104 (by rw [hc]; decide) rfl
            have y72 : ((c.toNat : Int) == 72) = false := byte_ne (k := 72) 72 (by rw [hc]; decide) rfl
            have y98 : ((c.toNat : Int) == 98) = false := byte_ne (k := 98) 98 (by rw [hc]; decide) rfl
            have y66 : ((c.toNat : Int) == 66) = false := byte_ne (k := 66) 66 (by rw [hc]; decide) rfl
            have y64 : ((c.toNat : Int) == 64) = false := byte_ne (k := 64) 64 (by rw [hc]; decide) rfl
            have y120 : ((c.toNat : Int) == 120) = false := byte_ne (k := 120) 120 (by rw [hc]; decide) rfl
            have y97 : ((c.toNat : Int) == 97) = true := byte_is hc rfl
            have y65 : ((c.toNat : Int) == 65) = false := byte_ne (k := 65) 65 (by rw [hc]; decide) rfl
            have HSZc := hid (show ∀ v, Calls Tryz.prog 83 #[.int .u8 (c.toNat : Nat)] v fun e w' => e = .returned (.int .i64 0) ∧ w' = v from fun v => by have h := HSZ.out v; rw [show widthL c = 0 by rw [hc]; rfl] at h; exact h)
            subst hq
            obtain ⟨Q, hQ⟩ : ∃ Q, Q = lenL c L := ⟨_, rfl⟩
            have hQe : Q = L := by rw [hQ, hc]; show max 1 0 * L = L; rw [show max 1 0 = 1 from rfl, Nat.one_mul]
            have HCU := hid (show cntU ⟨c, p, -2⟩ L = L by rw [hc]; show L / max 1 0 = L; rw [show max 1 0 = 1 from rfl, Nat.div_one])
            have HBY := hid (show ∀ v, Calls Tryz.prog 84 #[.int .u8 (c.toNat : Nat), .int .i64 (L : Nat)] v fun e w' => e = .returned (.int .i64 (lenL c L : Nat)) ∧ w' = v from fun v => bytesR_fn c (by rw [hc]; rfl) (by rw [hc]; decide) L (by omega) v)
            rw [← hQ] at HBY
            have HGO := hid (show unpackGo (⟨c, p, -2⟩ :: l.drop (i + 1)) s at0 os = if L < Q then (os, false) else unpackGo (l.drop (i + 1)) s (at0 + Q) (os ++ [toldE ⟨c, p, -2⟩ L ((s.drop at0).take Q)]) by
              rw [unpackGo, if_neg (by simp [hc])]
              dsimp only
              rw [← HLE.out, HCU.out, ← hQ, show takesL c = true by rw [hc]; rfl]
              rfl)
            by_cases hfit : L < Q
            · have hgt : (L : Int) < (Q : Int) := by omega
              have HO := hid (show U = (os, false) by rw [HUN.out, HGO.out, if_pos hfit])
              clear hfit hQ hQe hc
              go_wp2_with (first | (go_at_call 83; (with_reducible refine (HSZc.out _).mono ?_); rintro e w3 ⟨rfl, rfl⟩) | (go_at_call 84; (with_reducible refine (HBY.out _).mono ?_); rintro e w3 ⟨rfl, rfl⟩))
              go_ret3
              exact ⟨_, by rw [HRS.out, HO.out]; rfl, by rw [HRS.out, HO.out]; exact HROW.out.mono HB1.out.size, HB1.out.trans ((HBL.out.trans (HBW.out.mono hs4)).mono HB1.out.size)⟩
            · have hgt : ¬ ((L : Int) < (Q : Int)) := by omega
              obtain ⟨x, hx⟩ : ∃ x, x = (s.drop at0).take Q := ⟨_, rfl⟩
              obtain ⟨oe, hoe⟩ : ∃ oe, oe = at0 + Q := ⟨_, rfl⟩
              have hQL : Q ≤ s.length - at0 := by rw [← HLE.out]; omega
              have hxl : x.length = Q := by rw [hx, List.length_take, List.length_drop]; omega
              have hoeI : (at0 : Int) + (Q : Int) = (oe : Int) := by omega
              have hext : (⟨s.toArray⟩ : ByteArray).extract at0 oe = ⟨x.toArray⟩ := by rw [Lib.extract_mk, hx, hoe, show at0 + Q - at0 = Q by omega]
              have hwoe : IntKind.i64.wrap (oe : Int) = (oe : Int) := IntWalk.i64_in _ (by omega)
              have hle1 : (at0 : Int) ≤ (oe : Int) := by omega
              have hle2 : (oe : Int) ≤ (s.length : Int) := by omega
              have hle3 : oe ≤ s.length := by omega
              have HN := hid (show U = unpackGo (l.drop (i + 1)) s oe (os ++ [x]) by
                rw [HUN.out, HGO.out, if_neg hfit, hoe, ← hx]
                rw [show toldE ⟨c, p, -2⟩ L x = x by rw [hc]; rfl])
              clear hfit hQ hQe hc hx hoe hxl hQL
              go_wp2_with (first | (go_at_call 83; (with_reducible refine (HSZc.out _).mono ?_); rintro e w3 ⟨rfl, rfl⟩) | (go_at_call 84; (with_reducible refine (HBY.out _).mono ?_); rintro e w3 ⟨rfl, rfl⟩) | (at_builtin; refine app_one (by simp) rfl (.tmp 117) (.tmp 119) rfl w1.heap.size _ _ x rfl HROW.out rfl (Nat.le_trans hs4 HBW.out.size) (by omega) ?_; intro v9 w9 hr9 hg9 hv9; have HR9 := hid hr9; have HB9 := hid ((HBL.out.trans (HBW.out.mono hs4)).grown hg9 (Nat.le_trans hs4 HBW.out.size) (fun k hk => (HROW.out.lt k hk).2)); clear hr9 hg9 hv9))
              go_roundg (n - (i + 1))
              case measure => omega
              case rel => exact ⟨i + 1, oe, os ++ [x], by go_num, by go_num, hlt, hle3, by rw [List.length_append]; simp only [List.length_cons, List.length_nil]; omega, HR9.out, HN.out, HB9.out, rfl⟩
          · have y104 : ((c.toNat : Int) == 104) = false := byte_ne (k := 104) 104 (by rw [hc]; decide) rfl
            have y72 : ((c.toNat : Int) == 72) = false := byte_ne (k := 72) 72 (by rw [hc]; decide) rfl
            have y98 : ((c.toNat : Int) == 98) = false := byte_ne (k := 98) 98 (by rw [hc]; decide) rfl
            have y66 : ((c.toNat : Int) == 66) = false := byte_ne (k := 66) 66 (by rw [hc]; decide) rfl
            have y64 : ((c.toNat : Int) == 64) = false := byte_ne (k := 64) 64 (by rw [hc]; decide) rfl
            have y120 : ((c.toNat : Int) == 120) = false := byte_ne (k := 120) 120 (by rw [hc]; decide) rfl
            have y97 : ((c.toNat : Int) == 97) = true := byte_is hc rfl
            have y65 : ((c.toNat : Int) == 65) = false := byte_ne (k := 65) 65 (by rw [hc]; decide) rfl
            have HSZc := hid (show ∀ v, Calls Tryz.prog 83 #[.int .u8 (c.toNat : Nat)] v fun e w' => e = .returned (.int .i64 0) ∧ w' = v from fun v => by have h := HSZ.out v; rw [show widthL c = 0 by rw [hc]; rfl] at h; exact h)
            subst hq
            have e1 : ((m : Int) == -1) = false := by rw [beq_eq_false_iff_ne]; omega
            have e2 : ((m : Int) == -2) = false := by rw [beq_eq_false_iff_ne]; omega
            obtain ⟨Q, hQ⟩ : ∃ Q, Q = lenL c m := ⟨_, rfl⟩
            have hQe : Q = m := by rw [hQ, hc]; show max 1 0 * m = m; rw [show max 1 0 = 1 from rfl, Nat.one_mul]
            have HCU := hid (show cntU ⟨c, p, (m : Int)⟩ L = m by rw [hc]; rfl)
            have HBY := hid (show ∀ v, Calls Tryz.prog 84 #[.int .u8 (c.toNat : Nat), .int .i64 (m : Nat)] v fun e w' => e = .returned (.int .i64 (lenL c m : Nat)) ∧ w' = v from fun v => bytesR_fn c (by rw [hc]; rfl) (by rw [hc]; decide) m (by omega) v)
            rw [← hQ] at HBY
            have HGO := hid (show unpackGo (⟨c, p, (m : Int)⟩ :: l.drop (i + 1)) s at0 os = if L < Q then (os, false) else unpackGo (l.drop (i + 1)) s (at0 + Q) (os ++ [toldE ⟨c, p, (m : Int)⟩ m ((s.drop at0).take Q)]) by
              rw [unpackGo, if_neg (by simp [hc])]
              dsimp only
              rw [← HLE.out, HCU.out, ← hQ, show takesL c = true by rw [hc]; rfl]
              rfl)
            by_cases hfit : L < Q
            · have hgt : (L : Int) < (Q : Int) := by omega
              have HO := hid (show U = (os, false) by rw [HUN.out, HGO.out, if_pos hfit])
              clear hfit hQ hQe hc
              go_wp2_with (first | (go_at_call 83; (with_reducible refine (HSZc.out _).mono ?_); rintro e w3 ⟨rfl, rfl⟩) | (go_at_call 84; (with_reducible refine (HBY.out _).mono ?_); rintro e w3 ⟨rfl, rfl⟩))
              go_ret3
              exact ⟨_, by rw [HRS.out, HO.out]; rfl, by rw [HRS.out, HO.out]; exact HROW.out.mono HB1.out.size, HB1.out.trans ((HBL.out.trans (HBW.out.mono hs4)).mono HB1.out.size)⟩
            · have hgt : ¬ ((L : Int) < (Q : Int)) := by omega
              obtain ⟨x, hx⟩ : ∃ x, x = (s.drop at0).take Q := ⟨_, rfl⟩
              obtain ⟨oe, hoe⟩ : ∃ oe, oe = at0 + Q := ⟨_, rfl⟩
              have hQL : Q ≤ s.length - at0 := by rw [← HLE.out]; omega
              have hxl : x.length = Q := by rw [hx, List.length_take, List.length_drop]; omega
              have hoeI : (at0 : Int) + (Q : Int) = (oe : Int) := by omega
              have hext : (⟨s.toArray⟩ : ByteArray).extract at0 oe = ⟨x.toArray⟩ := by rw [Lib.extract_mk, hx, hoe, show at0 + Q - at0 = Q by omega]
              have hwoe : IntKind.i64.wrap (oe : Int) = (oe : Int) := IntWalk.i64_in _ (by omega)
              have hle1 : (at0 : Int) ≤ (oe : Int) := by omega
              have hle2 : (oe : Int) ≤ (s.length : Int) := by omega
              have hle3 : oe ≤ s.length := by omega
              have HN := hid (show U = unpackGo (l.drop (i + 1)) s oe (os ++ [x]) by
                rw [HUN.out, HGO.out, if_neg hfit, hoe, ← hx]
                rw [show toldE ⟨c, p, (m : Int)⟩ m x = x by rw [hc]; rfl])
              clear hfit hQ hQe hc hx hoe hxl hQL
              go_wp2_with (first | (go_at_call 83; (with_reducible refine (HSZc.out _).mono ?_); rintro e w3 ⟨rfl, rfl⟩) | (go_at_call 84; (with_reducible refine (HBY.out _).mono ?_); rintro e w3 ⟨rfl, rfl⟩) | (at_builtin; refine app_one (by simp) rfl (.tmp 117) (.tmp 119) rfl w1.heap.size _ _ x rfl HROW.out rfl (Nat.le_trans hs4 HBW.out.size) (by omega) ?_; intro v9 w9 hr9 hg9 hv9; have HR9 := hid hr9; have HB9 := hid ((HBL.out.trans (HBW.out.mono hs4)).grown hg9 (Nat.le_trans hs4 HBW.out.size) (fun k hk => (HROW.out.lt k hk).2)); clear hr9 hg9 hv9))
              go_roundg (n - (i + 1))
              case measure => omega
              case rel => exact ⟨i + 1, oe, os ++ [x], by go_num, by go_num, hlt, hle3, by rw [List.length_append]; simp only [List.length_cons, List.length_nil]; omega, HR9.out, HN.out, HB9.out, rfl⟩
      have N97 := hid hc
      clear hc
      by_cases hc : c = 65
      · as_aux_lemma =>
          rcases (show q = -1 ∨ q = -2 ∨ ∃ m : Nat, q = (m : Int) ∧ m ≤ 9999 by
              have h1 := HFO.out.2.2.1
              have h2 := HFO.out.2.2.2.1
              dsimp only at h1 h2
              rcases (show q = -1 ∨ q = -2 ∨ 0 ≤ q by omega) with h | h | h
              · exact .inl h
              · exact .inr (.inl h)
              · exact .inr (.inr ⟨q.toNat, by omega, by omega⟩)) with hq | hq | ⟨m, hq, hm9⟩
          · have y104 : ((c.toNat : Int) == 104) = false := byte_ne (k := 104) 104 (by rw [hc]; decide) rfl
            have y72 : ((c.toNat : Int) == 72) = false := byte_ne (k := 72) 72 (by rw [hc]; decide) rfl
            have y98 : ((c.toNat : Int) == 98) = false := byte_ne (k := 98) 98 (by rw [hc]; decide) rfl
            have y66 : ((c.toNat : Int) == 66) = false := byte_ne (k := 66) 66 (by rw [hc]; decide) rfl
            have y64 : ((c.toNat : Int) == 64) = false := byte_ne (k := 64) 64 (by rw [hc]; decide) rfl
            have y120 : ((c.toNat : Int) == 120) = false := byte_ne (k := 120) 120 (by rw [hc]; decide) rfl
            have y97 : ((c.toNat : Int) == 97) = false := byte_ne (k := 97) 97 (by rw [hc]; decide) rfl
            have y65 : ((c.toNat : Int) == 65) = true := byte_is hc rfl
            have HSZc := hid (show ∀ v, Calls Tryz.prog 83 #[.int .u8 (c.toNat : Nat)] v fun e w' => e = .returned (.int .i64 0) ∧ w' = v from fun v => by have h := HSZ.out v; rw [show widthL c = 0 by rw [hc]; rfl] at h; exact h)
            subst hq
            obtain ⟨Q, hQ⟩ : ∃ Q, Q = lenL c 1 := ⟨_, rfl⟩
            have hQe : Q = 1 := by rw [hQ, hc]; show max 1 0 * 1 = 1; rw [show max 1 0 = 1 from rfl, Nat.one_mul]
            have HCU := hid (show cntU ⟨c, p, -1⟩ L = 1 by rw [hc]; rfl)
            have HBY := hid (show ∀ v, Calls Tryz.prog 84 #[.int .u8 (c.toNat : Nat), .int .i64 1] v fun e w' => e = .returned (.int .i64 (lenL c 1 : Nat)) ∧ w' = v from fun v => bytesR_fn c (by rw [hc]; rfl) (by rw [hc]; decide) 1 (by omega) v)
            rw [← hQ] at HBY
            have HGO := hid (show unpackGo (⟨c, p, -1⟩ :: l.drop (i + 1)) s at0 os = if L < Q then (os, false) else unpackGo (l.drop (i + 1)) s (at0 + Q) (os ++ [toldE ⟨c, p, -1⟩ 1 ((s.drop at0).take Q)]) by
              rw [unpackGo, if_neg (by simp [hc])]
              dsimp only
              rw [← HLE.out, HCU.out, ← hQ, show takesL c = true by rw [hc]; rfl]
              rfl)
            by_cases hfit : L < Q
            · have hgt : (L : Int) < (Q : Int) := by omega
              have HO := hid (show U = (os, false) by rw [HUN.out, HGO.out, if_pos hfit])
              clear hfit hQ hQe hc
              go_wp2_with (first | (go_at_call 83; (with_reducible refine (HSZc.out _).mono ?_); rintro e w3 ⟨rfl, rfl⟩) | (go_at_call 84; (with_reducible refine (HBY.out _).mono ?_); rintro e w3 ⟨rfl, rfl⟩))
              go_ret3
              exact ⟨_, by rw [HRS.out, HO.out]; rfl, by rw [HRS.out, HO.out]; exact HROW.out.mono HB1.out.size, HB1.out.trans ((HBL.out.trans (HBW.out.mono hs4)).mono HB1.out.size)⟩
            · have hgt : ¬ ((L : Int) < (Q : Int)) := by omega
              obtain ⟨x, hx⟩ : ∃ x, x = (s.drop at0).take Q := ⟨_, rfl⟩
              obtain ⟨oe, hoe⟩ : ∃ oe, oe = at0 + Q := ⟨_, rfl⟩
              have hQL : Q ≤ s.length - at0 := by rw [← HLE.out]; omega
              have hxl : x.length = Q := by rw [hx, List.length_take, List.length_drop]; omega
              have hoeI : (at0 : Int) + (Q : Int) = (oe : Int) := by omega
              have hext : (⟨s.toArray⟩ : ByteArray).extract at0 oe = ⟨x.toArray⟩ := by rw [Lib.extract_mk, hx, hoe, show at0 + Q - at0 = Q by omega]
              have hwoe : IntKind.i64.wrap (oe : Int) = (oe : Int) := IntWalk.i64_in _ (by omega)
              have hle1 : (at0 : Int) ≤ (oe : Int) := by omega
              have hle2 : (oe : Int) ≤ (s.length : Int) := by omega
              have hle3 : oe ≤ s.length := by omega
              have HN := hid (show U = unpackGo (l.drop (i + 1)) s oe (os ++ [trimZ x]) by
                rw [HUN.out, HGO.out, if_neg hfit, hoe, ← hx]
                rw [show toldE ⟨c, p, -1⟩ 1 x = trimZ x by rw [hc]; rfl])
              have HTR := hid (fun v => trimR_fn x v (by omega))
              clear hfit hQ hQe hc hx hoe hxl hQL
              go_wp2_with (first | (go_at_call 83; (with_reducible refine (HSZc.out _).mono ?_); rintro e w3 ⟨rfl, rfl⟩) | (go_at_call 84; (with_reducible refine (HBY.out _).mono ?_); rintro e w3 ⟨rfl, rfl⟩) | (go_at_call 85; (with_reducible refine (HTR.out _).mono ?_); rintro e w4 ⟨rfl, hb4⟩; have HB4 := hid (HBW.out.trans (hb4.mono HBW.out.size)); have HR4 := hid (HROW.out.on hb4); clear hb4) | (at_builtin; refine app_one rfl rfl (.tmp 123) (.tmp 126) rfl w1.heap.size _ _ (trimZ x) rfl HR4.out rfl (Nat.le_trans hs4 HB4.out.size) (by omega) ?_; intro v9 w9 hr9 hg9 hv9; have HR9 := hid hr9; have HB9 := hid ((HBL.out.trans (HB4.out.mono hs4)).grown hg9 (Nat.le_trans hs4 HB4.out.size) (fun k hk => (HR4.out.lt k hk).2)); clear hr9 hg9 hv9))
              go_roundg (n - (i + 1))
              case measure => omega
              case rel => exact ⟨i + 1, oe, os ++ [trimZ x], by go_num, by go_num, hlt, hle3, by rw [List.length_append]; simp only [List.length_cons, List.length_nil]; omega, HR9.out, HN.out, HB9.out, rfl⟩
          · have y104 : ((c.toNat : Int) == 104) = false := byte_ne (k := 104) 104 (by rw [hc]; decide) rfl
            have y72 : ((c.toNat : Int) == 72) = false := byte_ne (k := 72) 72 (by rw [hc]; decide) rfl
            have y98 : ((c.toNat : Int) == 98) = false := byte_ne (k := 98) 98 (by rw [hc]; decide) rfl
            have y66 : ((c.toNat : Int) == 66) = false := byte_ne (k := 66) 66 (by rw [hc]; decide) rfl
            have y64 : ((c.toNat : Int) == 64) = false := byte_ne (k := 64) 64 (by rw [hc]; decide) rfl
            have y120 : ((c.toNat : Int) == 120) = false := byte_ne (k := 120) 120 (by rw [hc]; decide) rfl
            have y97 : ((c.toNat : Int) == 97) = false := byte_ne (k := 97) 97 (by rw [hc]; decide) rfl
            have y65 : ((c.toNat : Int) == 65) = true := byte_is hc rfl
            have HSZc := hid (show ∀ v, Calls Tryz.prog 83 #[.int .u8 (c.toNat : Nat)] v fun e w' => e = .returned (.int .i64 0) ∧ w' = v from fun v => by have h := HSZ.out v; rw [show widthL c = 0 by rw [hc]; rfl] at h; exact h)
            subst hq
            obtain ⟨Q, hQ⟩ : ∃ Q, Q = lenL c L := ⟨_, rfl⟩
            have hQe : Q = L := by rw [hQ, hc]; show max 1 0 * L = L; rw [show max 1 0 = 1 from rfl, Nat.one_mul]
            have HCU := hid (show cntU ⟨c, p, -2⟩ L = L by rw [hc]; show L / max 1 0 = L; rw [show max 1 0 = 1 from rfl, Nat.div_one])
            have HBY := hid (show ∀ v, Calls Tryz.prog 84 #[.int .u8 (c.toNat : Nat), .int .i64 (L : Nat)] v fun e w' => e = .returned (.int .i64 (lenL c L : Nat)) ∧ w' = v from fun v => bytesR_fn c (by rw [hc]; rfl) (by rw [hc]; decide) L (by omega) v)
            rw [← hQ] at HBY
            have HGO := hid (show unpackGo (⟨c, p, -2⟩ :: l.drop (i + 1)) s at0 os = if L < Q then (os, false) else unpackGo (l.drop (i + 1)) s (at0 + Q) (os ++ [toldE ⟨c, p, -2⟩ L ((s.drop at0).take Q)]) by
              rw [unpackGo, if_neg (by simp [hc])]
              dsimp only
              rw [← HLE.out, HCU.out, ← hQ, show takesL c = true by rw [hc]; rfl]
              rfl)
            by_cases hfit : L < Q
            · have hgt : (L : Int) < (Q : Int) := by omega
              have HO := hid (show U = (os, false) by rw [HUN.out, HGO.out, if_pos hfit])
              clear hfit hQ hQe hc
              go_wp2_with (first | (go_at_call 83; (with_reducible refine (HSZc.out _).mono ?_); rintro e w3 ⟨rfl, rfl⟩) | (go_at_call 84; (with_reducible refine (HBY.out _).mono ?_); rintro e w3 ⟨rfl, rfl⟩))
              go_ret3
              exact ⟨_, by rw [HRS.out, HO.out]; rfl, by rw [HRS.out, HO.out]; exact HROW.out.mono HB1.out.size, HB1.out.trans ((HBL.out.trans (HBW.out.mono hs4)).mono HB1.out.size)⟩
            · have hgt : ¬ ((L : Int) < (Q : Int)) := by omega
              obtain ⟨x, hx⟩ : ∃ x, x = (s.drop at0).take Q := ⟨_, rfl⟩
              obtain ⟨oe, hoe⟩ : ∃ oe, oe = at0 + Q := ⟨_, rfl⟩
              have hQL : Q ≤ s.length - at0 := by rw [← HLE.out]; omega
              have hxl : x.length = Q := by rw [hx, List.length_take, List.length_drop]; omega
              have hoeI : (at0 : Int) + (Q : Int) = (oe : Int) := by omega
              have hext : (⟨s.toArray⟩ : ByteArray).extract at0 oe = ⟨x.toArray⟩ := by rw [Lib.extract_mk, hx, hoe, show at0 + Q - at0 = Q by omega]
              have hwoe : IntKind.i64.wrap (oe : Int) = (oe : Int) := IntWalk.i64_in _ (by omega)
              have hle1 : (at0 : Int) ≤ (oe : Int) := by omega
              have hle2 : (oe : Int) ≤ (s.length : Int) := by omega
              have hle3 : oe ≤ s.length := by omega
              have HN := hid (show U = unpackGo (l.drop (i + 1)) s oe (os ++ [trimZ x]) by
                rw [HUN.out, HGO.out, if_neg hfit, hoe, ← hx]
                rw [show toldE ⟨c, p, -2⟩ L x = trimZ x by rw [hc]; rfl])
              have HTR := hid (fun v => trimR_fn x v (by omega))
              clear hfit hQ hQe hc hx hoe hxl hQL
              go_wp2_with (first | (go_at_call 83; (with_reducible refine (HSZc.out _).mono ?_); rintro e w3 ⟨rfl, rfl⟩) | (go_at_call 84; (with_reducible refine (HBY.out _).mono ?_); rintro e w3 ⟨rfl, rfl⟩) | (go_at_call 85; (with_reducible refine (HTR.out _).mono ?_); rintro e w4 ⟨rfl, hb4⟩; have HB4 := hid (HBW.out.trans (hb4.mono HBW.out.size)); have HR4 := hid (HROW.out.on hb4); clear hb4) | (at_builtin; refine app_one rfl rfl (.tmp 123) (.tmp 126) rfl w1.heap.size _ _ (trimZ x) rfl HR4.out rfl (Nat.le_trans hs4 HB4.out.size) (by omega) ?_; intro v9 w9 hr9 hg9 hv9; have HR9 := hid hr9; have HB9 := hid ((HBL.out.trans (HB4.out.mono hs4)).grown hg9 (Nat.le_trans hs4 HB4.out.size) (fun k hk => (HR4.out.lt k hk).2)); clear hr9 hg9 hv9))
              go_roundg (n - (i + 1))
              case measure => omega
              case rel => exact ⟨i + 1, oe, os ++ [trimZ x], by go_num, by go_num, hlt, hle3, by rw [List.length_append]; simp only [List.length_cons, List.length_nil]; omega, HR9.out, HN.out, HB9.out, rfl⟩
          · have y104 : ((c.toNat : Int) == 104) = false := byte_ne (k := 104) 104 (by rw [hc]; decide) rfl
            have y72 : ((c.toNat : Int) == 72) = false := byte_ne (k := 72) 72 (by rw [hc]; decide) rfl
            have y98 : ((c.toNat : Int) == 98) = false := byte_ne (k := 98) 98 (by rw [hc]; decide) rfl
            have y66 : ((c.toNat : Int) == 66) = false := byte_ne (k := 66) 66 (by rw [hc]; decide) rfl
            have y64 : ((c.toNat : Int) == 64) = false := byte_ne (k := 64) 64 (by rw [hc]; decide) rfl
            have y120 : ((c.toNat : Int) == 120) = false := byte_ne (k := 120) 120 (by rw [hc]; decide) rfl
            have y97 : ((c.toNat : Int) == 97) = false := byte_ne (k := 97) 97 (by rw [hc]; decide) rfl
            have y65 : ((c.toNat : Int) == 65) = true := byte_is hc rfl
            have HSZc := hid (show ∀ v, Calls Tryz.prog 83 #[.int .u8 (c.toNat : Nat)] v fun e w' => e = .returned (.int .i64 0) ∧ w' = v from fun v => by have h := HSZ.out v; rw [show widthL c = 0 by rw [hc]; rfl] at h; exact h)
            subst hq
            have e1 : ((m : Int) == -1) = false := by rw [beq_eq_false_iff_ne]; omega
            have e2 : ((m : Int) == -2) = false := by rw [beq_eq_false_iff_ne]; omega
            obtain ⟨Q, hQ⟩ : ∃ Q, Q = lenL c m := ⟨_, rfl⟩
            have hQe : Q = m := by rw [hQ, hc]; show max 1 0 * m = m; rw [show max 1 0 = 1 from rfl, Nat.one_mul]
            have HCU := hid (show cntU ⟨c, p, (m : Int)⟩ L = m by rw [hc]; rfl)
            have HBY := hid (show ∀ v, Calls Tryz.prog 84 #[.int .u8 (c.toNat : Nat), .int .i64 (m : Nat)] v fun e w' => e = .returned (.int .i64 (lenL c m : Nat)) ∧ w' = v from fun v => bytesR_fn c (by rw [hc]; rfl) (by rw [hc]; decide) m (by omega) v)
            rw [← hQ] at HBY
            have HGO := hid (show unpackGo (⟨c, p, (m : Int)⟩ :: l.drop (i + 1)) s at0 os = if L < Q then (os, false) else unpackGo (l.drop (i + 1)) s (at0 + Q) (os ++ [toldE ⟨c, p, (m : Int)⟩ m ((s.drop at0).take Q)]) by
              rw [unpackGo, if_neg (by simp [hc])]
              dsimp only
              rw [← HLE.out, HCU.out, ← hQ, show takesL c = true by rw [hc]; rfl]
              rfl)
            by_cases hfit : L < Q
            · have hgt : (L : Int) < (Q : Int) := by omega
              have HO := hid (show U = (os, false) by rw [HUN.out, HGO.out, if_pos hfit])
              clear hfit hQ hQe hc
              go_wp2_with (first | (go_at_call 83; (with_reducible refine (HSZc.out _).mono ?_); rintro e w3 ⟨rfl, rfl⟩) | (go_at_call 84; (with_reducible refine (HBY.out _).mono ?_); rintro e w3 ⟨rfl, rfl⟩))
              go_ret3
              exact ⟨_, by rw [HRS.out, HO.out]; rfl, by rw [HRS.out, HO.out]; exact HROW.out.mono HB1.out.size, HB1.out.trans ((HBL.out.trans (HBW.out.mono hs4)).mono HB1.out.size)⟩
            · have hgt : ¬ ((L : Int) < (Q : Int)) := by omega
              obtain ⟨x, hx⟩ : ∃ x, x = (s.drop at0).take Q := ⟨_, rfl⟩
              obtain ⟨oe, hoe⟩ : ∃ oe, oe = at0 + Q := ⟨_, rfl⟩
              have hQL : Q ≤ s.length - at0 := by rw [← HLE.out]; omega
              have hxl : x.length = Q := by rw [hx, List.length_take, List.length_drop]; omega
              have hoeI : (at0 : Int) + (Q : Int) = (oe : Int) := by omega
              have hext : (⟨s.toArray⟩ : ByteArray).extract at0 oe = ⟨x.toArray⟩ := by rw [Lib.extract_mk, hx, hoe, show at0 + Q - at0 = Q by omega]
              have hwoe : IntKind.i64.wrap (oe : Int) = (oe : Int) := IntWalk.i64_in _ (by omega)
              have hle1 : (at0 : Int) ≤ (oe : Int) := by omega
              have hle2 : (oe : Int) ≤ (s.length : Int) := by omega
              have hle3 : oe ≤ s.length := by omega
              have HN := hid (show U = unpackGo (l.drop (i + 1)) s oe (os ++ [trimZ x]) by
                rw [HUN.out, HGO.out, if_neg hfit, hoe, ← hx]
                rw [show toldE ⟨c, p, (m : Int)⟩ m x = trimZ x by rw [hc]; rfl])
              have HTR := hid (fun v => trimR_fn x v (by omega))
              clear hfit hQ hQe hc hx hoe hxl hQL
              go_wp2_with (first | (go_at_call 83; (with_reducible refine (HSZc.out _).mono ?_); rintro e w3 ⟨rfl, rfl⟩) | (go_at_call 84; (with_reducible refine (HBY.out _).mono ?_); rintro e w3 ⟨rfl, rfl⟩) | (go_at_call 85; (with_reducible refine (HTR.out _).mono ?_); rintro e w4 ⟨rfl, hb4⟩; have HB4 := hid (HBW.out.trans (hb4.mono HBW.out.size)); have HR4 := hid (HROW.out.on hb4); clear hb4) | (at_builtin; refine app_one rfl rfl (.tmp 123) (.tmp 126) rfl w1.heap.size _ _ (trimZ x) rfl HR4.out rfl (Nat.le_trans hs4 HB4.out.size) (by omega) ?_; intro v9 w9 hr9 hg9 hv9; have HR9 := hid hr9; have HB9 := hid ((HBL.out.trans (HB4.out.mono hs4)).grown hg9 (Nat.le_trans hs4 HB4.out.size) (fun k hk => (HR4.out.lt k hk).2)); clear hr9 hg9 hv9))
              go_roundg (n - (i + 1))
              case measure => omega
              case rel => exact ⟨i + 1, oe, os ++ [trimZ x], by go_num, by go_num, hlt, hle3, by rw [List.length_append]; simp only [List.length_cons, List.length_nil]; omega, HR9.out, HN.out, HB9.out, rfl⟩
      have N65 := hid hc
      clear hc
      by_cases hc : c = 120
      · as_aux_lemma =>
          rcases (show q = -1 ∨ q = -2 ∨ ∃ m : Nat, q = (m : Int) ∧ m ≤ 9999 by
              have h1 := HFO.out.2.2.1
              have h2 := HFO.out.2.2.2.1
              dsimp only at h1 h2
              rcases (show q = -1 ∨ q = -2 ∨ 0 ≤ q by omega) with h | h | h
              · exact .inl h
              · exact .inr (.inl h)
              · exact .inr (.inr ⟨q.toNat, by omega, by omega⟩)) with hq | hq | ⟨m, hq, hm9⟩
          · have y104 : ((c.toNat : Int) == 104) = false := byte_ne (k := 104) 104 (by rw [hc]; decide) rfl
            have y72 : ((c.toNat : Int) == 72) = false := byte_ne (k := 72) 72 (by rw [hc]; decide) rfl
            have y98 : ((c.toNat : Int) == 98) = false := byte_ne (k := 98) 98 (by rw [hc]; decide) rfl
            have y66 : ((c.toNat : Int) == 66) = false := byte_ne (k := 66) 66 (by rw [hc]; decide) rfl
            have y64 : ((c.toNat : Int) == 64) = false := byte_ne (k := 64) 64 (by rw [hc]; decide) rfl
            have y120 : ((c.toNat : Int) == 120) = true := byte_is hc rfl
            have y97 : ((c.toNat : Int) == 97) = false := byte_ne (k := 97) 97 (by rw [hc]; decide) rfl
            have y65 : ((c.toNat : Int) == 65) = false := byte_ne (k := 65) 65 (by rw [hc]; decide) rfl
            have HSZc := hid (show ∀ v, Calls Tryz.prog 83 #[.int .u8 (c.toNat : Nat)] v fun e w' => e = .returned (.int .i64 0) ∧ w' = v from fun v => by have h := HSZ.out v; rw [show widthL c = 0 by rw [hc]; rfl] at h; exact h)
            subst hq
            obtain ⟨Q, hQ⟩ : ∃ Q, Q = lenL c 1 := ⟨_, rfl⟩
            have hQe : Q = 1 := by rw [hQ, hc]; show max 1 0 * 1 = 1; rw [show max 1 0 = 1 from rfl, Nat.one_mul]
            have HCU := hid (show cntU ⟨c, p, -1⟩ L = 1 by rw [hc]; rfl)
            have HBY := hid (show ∀ v, Calls Tryz.prog 84 #[.int .u8 (c.toNat : Nat), .int .i64 1] v fun e w' => e = .returned (.int .i64 (lenL c 1 : Nat)) ∧ w' = v from fun v => bytesR_fn c (by rw [hc]; rfl) (by rw [hc]; decide) 1 (by omega) v)
            rw [← hQ] at HBY
            have HGO := hid (show unpackGo (⟨c, p, -1⟩ :: l.drop (i + 1)) s at0 os = if L < Q then (os, false) else unpackGo (l.drop (i + 1)) s (at0 + Q) os by
              rw [unpackGo, if_neg (by simp [hc])]
              dsimp only
              rw [← HLE.out, HCU.out, ← hQ, show takesL c = false by rw [hc]; rfl]
              rfl)
            by_cases hfit : L < Q
            · have hgt : (L : Int) < (Q : Int) := by omega
              have HO := hid (show U = (os, false) by rw [HUN.out, HGO.out, if_pos hfit])
              clear hfit hQ hQe hc
              go_wp2_with (first | (go_at_call 83; (with_reducible refine (HSZc.out _).mono ?_); rintro e w3 ⟨rfl, rfl⟩) | (go_at_call 84; (with_reducible refine (HBY.out _).mono ?_); rintro e w3 ⟨rfl, rfl⟩))
              go_ret3
              exact ⟨_, by rw [HRS.out, HO.out]; rfl, by rw [HRS.out, HO.out]; exact HROW.out.mono HB1.out.size, HB1.out.trans ((HBL.out.trans (HBW.out.mono hs4)).mono HB1.out.size)⟩
            · have hgt : ¬ ((L : Int) < (Q : Int)) := by omega
              obtain ⟨x, hx⟩ : ∃ x, x = (s.drop at0).take Q := ⟨_, rfl⟩
              obtain ⟨oe, hoe⟩ : ∃ oe, oe = at0 + Q := ⟨_, rfl⟩
              have hQL : Q ≤ s.length - at0 := by rw [← HLE.out]; omega
              have hxl : x.length = Q := by rw [hx, List.length_take, List.length_drop]; omega
              have hoeI : (at0 : Int) + (Q : Int) = (oe : Int) := by omega
              have hext : (⟨s.toArray⟩ : ByteArray).extract at0 oe = ⟨x.toArray⟩ := by rw [Lib.extract_mk, hx, hoe, show at0 + Q - at0 = Q by omega]
              have hwoe : IntKind.i64.wrap (oe : Int) = (oe : Int) := IntWalk.i64_in _ (by omega)
              have hle1 : (at0 : Int) ≤ (oe : Int) := by omega
              have hle2 : (oe : Int) ≤ (s.length : Int) := by omega
              have hle3 : oe ≤ s.length := by omega
              have HN := hid (show U = unpackGo (l.drop (i + 1)) s oe os by rw [HUN.out, HGO.out, if_neg hfit, hoe])
              clear hfit hQ hQe hc hx hoe hxl hQL
              go_wp2_with (first | (go_at_call 83; (with_reducible refine (HSZc.out _).mono ?_); rintro e w3 ⟨rfl, rfl⟩) | (go_at_call 84; (with_reducible refine (HBY.out _).mono ?_); rintro e w3 ⟨rfl, rfl⟩))
              go_roundg (n - (i + 1))
              case measure => omega
              case rel => exact ⟨i + 1, oe, os, by go_num, by go_num, hlt, hle3, by omega, HROW.out, HN.out, HBL.out.trans (HBW.out.mono hs4), rfl⟩
          · have y104 : ((c.toNat : Int) == 104) = false := byte_ne (k := 104) 104 (by rw [hc]; decide) rfl
            have y72 : ((c.toNat : Int) == 72) = false := byte_ne (k := 72) 72 (by rw [hc]; decide) rfl
            have y98 : ((c.toNat : Int) == 98) = false := byte_ne (k := 98) 98 (by rw [hc]; decide) rfl
            have y66 : ((c.toNat : Int) == 66) = false := byte_ne (k := 66) 66 (by rw [hc]; decide) rfl
            have y64 : ((c.toNat : Int) == 64) = false := byte_ne (k := 64) 64 (by rw [hc]; decide) rfl
            have y120 : ((c.toNat : Int) == 120) = true := byte_is hc rfl
            have y97 : ((c.toNat : Int) == 97) = false := byte_ne (k := 97) 97 (by rw [hc]; decide) rfl
            have y65 : ((c.toNat : Int) == 65) = false := byte_ne (k := 65) 65 (by rw [hc]; decide) rfl
            have HSZc := hid (show ∀ v, Calls Tryz.prog 83 #[.int .u8 (c.toNat : Nat)] v fun e w' => e = .returned (.int .i64 0) ∧ w' = v from fun v => by have h := HSZ.out v; rw [show widthL c = 0 by rw [hc]; rfl] at h; exact h)
            subst hq
            obtain ⟨Q, hQ⟩ : ∃ Q, Q = lenL c 1 := ⟨_, rfl⟩
            have hQe : Q = 1 := by rw [hQ, hc]; show max 1 0 * 1 = 1; rw [show max 1 0 = 1 from rfl, Nat.one_mul]
            have HCU := hid (show cntU ⟨c, p, -2⟩ L = 1 by rw [hc]; rfl)
            have HBY := hid (show ∀ v, Calls Tryz.prog 84 #[.int .u8 (c.toNat : Nat), .int .i64 1] v fun e w' => e = .returned (.int .i64 (lenL c 1 : Nat)) ∧ w' = v from fun v => bytesR_fn c (by rw [hc]; rfl) (by rw [hc]; decide) 1 (by omega) v)
            rw [← hQ] at HBY
            have HGO := hid (show unpackGo (⟨c, p, -2⟩ :: l.drop (i + 1)) s at0 os = if L < Q then (os, false) else unpackGo (l.drop (i + 1)) s (at0 + Q) os by
              rw [unpackGo, if_neg (by simp [hc])]
              dsimp only
              rw [← HLE.out, HCU.out, ← hQ, show takesL c = false by rw [hc]; rfl]
              rfl)
            by_cases hfit : L < Q
            · have hgt : (L : Int) < (Q : Int) := by omega
              have HO := hid (show U = (os, false) by rw [HUN.out, HGO.out, if_pos hfit])
              clear hfit hQ hQe hc
              go_wp2_with (first | (go_at_call 83; (with_reducible refine (HSZc.out _).mono ?_); rintro e w3 ⟨rfl, rfl⟩) | (go_at_call 84; (with_reducible refine (HBY.out _).mono ?_); rintro e w3 ⟨rfl, rfl⟩))
              go_ret3
              exact ⟨_, by rw [HRS.out, HO.out]; rfl, by rw [HRS.out, HO.out]; exact HROW.out.mono HB1.out.size, HB1.out.trans ((HBL.out.trans (HBW.out.mono hs4)).mono HB1.out.size)⟩
            · have hgt : ¬ ((L : Int) < (Q : Int)) := by omega
              obtain ⟨x, hx⟩ : ∃ x, x = (s.drop at0).take Q := ⟨_, rfl⟩
              obtain ⟨oe, hoe⟩ : ∃ oe, oe = at0 + Q := ⟨_, rfl⟩
              have hQL : Q ≤ s.length - at0 := by rw [← HLE.out]; omega
              have hxl : x.length = Q := by rw [hx, List.length_take, List.length_drop]; omega
              have hoeI : (at0 : Int) + (Q : Int) = (oe : Int) := by omega
              have hext : (⟨s.toArray⟩ : ByteArray).extract at0 oe = ⟨x.toArray⟩ := by rw [Lib.extract_mk, hx, hoe, show at0 + Q - at0 = Q by omega]
              have hwoe : IntKind.i64.wrap (oe : Int) = (oe : Int) := IntWalk.i64_in _ (by omega)
              have hle1 : (at0 : Int) ≤ (oe : Int) := by omega
              have hle2 : (oe : Int) ≤ (s.length : Int) := by omega
              have hle3 : oe ≤ s.length := by omega
              have HN := hid (show U = unpackGo (l.drop (i + 1)) s oe os by rw [HUN.out, HGO.out, if_neg hfit, hoe])
              clear hfit hQ hQe hc hx hoe hxl hQL
              go_wp2_with (first | (go_at_call 83; (with_reducible refine (HSZc.out _).mono ?_); rintro e w3 ⟨rfl, rfl⟩) | (go_at_call 84; (with_reducible refine (HBY.out _).mono ?_); rintro e w3 ⟨rfl, rfl⟩))
              go_roundg (n - (i + 1))
              case measure => omega
              case rel => exact ⟨i + 1, oe, os, by go_num, by go_num, hlt, hle3, by omega, HROW.out, HN.out, HBL.out.trans (HBW.out.mono hs4), rfl⟩
          · have y104 : ((c.toNat : Int) == 104) = false := byte_ne (k := 104) 104 (by rw [hc]; decide) rfl
            have y72 : ((c.toNat : Int) == 72) = false := byte_ne (k := 72) 72 (by rw [hc]; decide) rfl
            have y98 : ((c.toNat : Int) == 98) = false := byte_ne (k := 98) 98 (by rw [hc]; decide) rfl
            have y66 : ((c.toNat : Int) == 66) = false := byte_ne (k := 66) 66 (by rw [hc]; decide) rfl
            have y64 : ((c.toNat : Int) == 64) = false := byte_ne (k := 64) 64 (by rw [hc]; decide) rfl
            have y120 : ((c.toNat : Int) == 120) = true := byte_is hc rfl
            have y97 : ((c.toNat : Int) == 97) = false := byte_ne (k := 97) 97 (by rw [hc]; decide) rfl
            have y65 : ((c.toNat : Int) == 65) = false := byte_ne (k := 65) 65 (by rw [hc]; decide) rfl
            have HSZc := hid (show ∀ v, Calls Tryz.prog 83 #[.int .u8 (c.toNat : Nat)] v fun e w' => e = .returned (.int .i64 0) ∧ w' = v from fun v => by have h := HSZ.out v; rw [show widthL c = 0 by rw [hc]; rfl] at h; exact h)
            subst hq
            have e1 : ((m : Int) == -1) = false := by rw [beq_eq_false_iff_ne]; omega
            have e2 : ((m : Int) == -2) = false := by rw [beq_eq_false_iff_ne]; omega
            obtain ⟨Q, hQ⟩ : ∃ Q, Q = lenL c m := ⟨_, rfl⟩
            have hQe : Q = m := by rw [hQ, hc]; show max 1 0 * m = m; rw [show max 1 0 = 1 from rfl, Nat.one_mul]
            have HCU := hid (show cntU ⟨c, p, (m : Int)⟩ L = m by rw [hc]; rfl)
            have HBY := hid (show ∀ v, Calls Tryz.prog 84 #[.int .u8 (c.toNat : Nat), .int .i64 (m : Nat)] v fun e w' => e = .returned (.int .i64 (lenL c m : Nat)) ∧ w' = v from fun v => bytesR_fn c (by rw [hc]; rfl) (by rw [hc]; decide) m (by omega) v)
            rw [← hQ] at HBY
            have HGO := hid (show unpackGo (⟨c, p, (m : Int)⟩ :: l.drop (i + 1)) s at0 os = if L < Q then (os, false) else unpackGo (l.drop (i + 1)) s (at0 + Q) os by
              rw [unpackGo, if_neg (by simp [hc])]
              dsimp only
              rw [← HLE.out, HCU.out, ← hQ, show takesL c = false by rw [hc]; rfl]
              rfl)
            by_cases hfit : L < Q
            · have hgt : (L : Int) < (Q : Int) := by omega
              have HO := hid (show U = (os, false) by rw [HUN.out, HGO.out, if_pos hfit])
              clear hfit hQ hQe hc
              go_wp2_with (first | (go_at_call 83; (with_reducible refine (HSZc.out _).mono ?_); rintro e w3 ⟨rfl, rfl⟩) | (go_at_call 84; (with_reducible refine (HBY.out _).mono ?_); rintro e w3 ⟨rfl, rfl⟩))
              go_ret3
              exact ⟨_, by rw [HRS.out, HO.out]; rfl, by rw [HRS.out, HO.out]; exact HROW.out.mono HB1.out.size, HB1.out.trans ((HBL.out.trans (HBW.out.mono hs4)).mono HB1.out.size)⟩
            · have hgt : ¬ ((L : Int) < (Q : Int)) := by omega
              obtain ⟨x, hx⟩ : ∃ x, x = (s.drop at0).take Q := ⟨_, rfl⟩
              obtain ⟨oe, hoe⟩ : ∃ oe, oe = at0 + Q := ⟨_, rfl⟩
              have hQL : Q ≤ s.length - at0 := by rw [← HLE.out]; omega
              have hxl : x.length = Q := by rw [hx, List.length_take, List.length_drop]; omega
              have hoeI : (at0 : Int) + (Q : Int) = (oe : Int) := by omega
              have hext : (⟨s.toArray⟩ : ByteArray).extract at0 oe = ⟨x.toArray⟩ := by rw [Lib.extract_mk, hx, hoe, show at0 + Q - at0 = Q by omega]
              have hwoe : IntKind.i64.wrap (oe : Int) = (oe : Int) := IntWalk.i64_in _ (by omega)
              have hle1 : (at0 : Int) ≤ (oe : Int) := by omega
              have hle2 : (oe : Int) ≤ (s.length : Int) := by omega
              have hle3 : oe ≤ s.length := by omega
              have HN := hid (show U = unpackGo (l.drop (i + 1)) s oe os by rw [HUN.out, HGO.out, if_neg hfit, hoe])
              clear hfit hQ hQe hc hx hoe hxl hQL
              go_wp2_with (first | (go_at_call 83; (with_reducible refine (HSZc.out _).mono ?_); rintro e w3 ⟨rfl, rfl⟩) | (go_at_call 84; (with_reducible refine (HBY.out _).mono ?_); rintro e w3 ⟨rfl, rfl⟩))
              go_roundg (n - (i + 1))
              case measure => omega
              case rel => exact ⟨i + 1, oe, os, by go_num, by go_num, hlt, hle3, by omega, HROW.out, HN.out, HBL.out.trans (HBW.out.mono hs4), rfl⟩
      have N120 := hid hc
      clear hc
      by_cases hc : c = 104
      · as_aux_lemma =>
          rcases (show q = -1 ∨ q = -2 ∨ ∃ m : Nat, q = (m : Int) ∧ m ≤ 9999 by
              have h1 := HFO.out.2.2.1
              have h2 := HFO.out.2.2.2.1
              dsimp only at h1 h2
              rcases (show q = -1 ∨ q = -2 ∨ 0 ≤ q by omega) with h | h | h
              · exact .inl h
              · exact .inr (.inl h)
              · exact .inr (.inr ⟨q.toNat, by omega, by omega⟩)) with hq | hq | ⟨m, hq, hm9⟩
          · have y104 : ((c.toNat : Int) == 104) = true := byte_is hc rfl
            have y72 : ((c.toNat : Int) == 72) = false := byte_ne (k := 72) 72 (by rw [hc]; decide) rfl
            have y98 : ((c.toNat : Int) == 98) = false := byte_ne (k := 98) 98 (by rw [hc]; decide) rfl
            have y66 : ((c.toNat : Int) == 66) = false := byte_ne (k := 66) 66 (by rw [hc]; decide) rfl
            have y64 : ((c.toNat : Int) == 64) = false := byte_ne (k := 64) 64 (by rw [hc]; decide) rfl
            have y120 : ((c.toNat : Int) == 120) = false := byte_ne (k := 120) 120 (by rw [hc]; decide) rfl
            have y97 : ((c.toNat : Int) == 97) = false := byte_ne (k := 97) 97 (by rw [hc]; decide) rfl
            have y65 : ((c.toNat : Int) == 65) = false := byte_ne (k := 65) 65 (by rw [hc]; decide) rfl
            have HSZc := hid (show ∀ v, Calls Tryz.prog 83 #[.int .u8 (c.toNat : Nat)] v fun e w' => e = .returned (.int .i64 0) ∧ w' = v from fun v => by have h := HSZ.out v; rw [show widthL c = 0 by rw [hc]; rfl] at h; exact h)
            subst hq
            obtain ⟨Q, hQ⟩ : ∃ Q, Q = lenL c 1 := ⟨_, rfl⟩
            have hQe : Q = (1 + 1) / 2 := by rw [hQ, hc]; rfl
            have HCU := hid (show cntU ⟨c, p, -1⟩ L = 1 by rw [hc]; rfl)
            have HBY := hid (show ∀ v, Calls Tryz.prog 84 #[.int .u8 (c.toNat : Nat), .int .i64 1] v fun e w' => e = .returned (.int .i64 (lenL c 1 : Nat)) ∧ w' = v from fun v => bytesR_fn c (by rw [hc]; rfl) (by rw [hc]; decide) 1 (by omega) v)
            rw [← hQ] at HBY
            have HGO := hid (show unpackGo (⟨c, p, -1⟩ :: l.drop (i + 1)) s at0 os = if L < Q then (os, false) else unpackGo (l.drop (i + 1)) s (at0 + Q) (os ++ [toldE ⟨c, p, -1⟩ 1 ((s.drop at0).take Q)]) by
              rw [unpackGo, if_neg (by simp [hc])]
              dsimp only
              rw [← HLE.out, HCU.out, ← hQ, show takesL c = true by rw [hc]; rfl]
              rfl)
            by_cases hfit : L < Q
            · have hgt : (L : Int) < (Q : Int) := by omega
              have HO := hid (show U = (os, false) by rw [HUN.out, HGO.out, if_pos hfit])
              clear hfit hQ hQe hc
              go_wp2_with (first | (go_at_call 83; (with_reducible refine (HSZc.out _).mono ?_); rintro e w3 ⟨rfl, rfl⟩) | (go_at_call 84; (with_reducible refine (HBY.out _).mono ?_); rintro e w3 ⟨rfl, rfl⟩))
              go_ret3
              exact ⟨_, by rw [HRS.out, HO.out]; rfl, by rw [HRS.out, HO.out]; exact HROW.out.mono HB1.out.size, HB1.out.trans ((HBL.out.trans (HBW.out.mono hs4)).mono HB1.out.size)⟩
            · have hgt : ¬ ((L : Int) < (Q : Int)) := by omega
              obtain ⟨x, hx⟩ : ∃ x, x = (s.drop at0).take Q := ⟨_, rfl⟩
              obtain ⟨oe, hoe⟩ : ∃ oe, oe = at0 + Q := ⟨_, rfl⟩
              have hQL : Q ≤ s.length - at0 := by rw [← HLE.out]; omega
              have hxl : x.length = Q := by rw [hx, List.length_take, List.length_drop]; omega
              have hoeI : (at0 : Int) + (Q : Int) = (oe : Int) := by omega
              have hext : (⟨s.toArray⟩ : ByteArray).extract at0 oe = ⟨x.toArray⟩ := by rw [Lib.extract_mk, hx, hoe, show at0 + Q - at0 = Q by omega]
              have hwoe : IntKind.i64.wrap (oe : Int) = (oe : Int) := IntWalk.i64_in _ (by omega)
              have hle1 : (at0 : Int) ≤ (oe : Int) := by omega
              have hle2 : (oe : Int) ≤ (s.length : Int) := by omega
              have hle3 : oe ≤ s.length := by omega
              have HN := hid (show U = unpackGo (l.drop (i + 1)) s oe (os ++ [tellE c x 1]) by
                rw [HUN.out, HGO.out, if_neg hfit, hoe, ← hx]
                rw [show toldE ⟨c, p, -1⟩ 1 x = tellE c x 1 by rw [hc]; rfl])
              have HSP := hid (show ∀ v, Calls Tryz.prog 86 #[.agg #[.int .u8 (c.toNat : Nat), .bool p, .int .i64 (-1)], .string ⟨x.toArray⟩, .int .i64 1, .int .i64 2] v fun e w' => e = .returned (.string ⟨(tellE c x 1).toArray⟩) ∧ Below v.heap.size v w' from fun v => spread2_fn c p (-1) (by rw [hc]; rfl) (by rw [hc]; rfl) x (by omega) 1 (fun j hj => by omega) (by omega) v)
              obtain ⟨tx, htx⟩ : ∃ tx, tx = tellE c x 1 := ⟨_, rfl⟩
              rw [← htx] at HSP HN
              clear htx
              clear hfit hQ hQe hc hx hoe hxl hQL
              go_wp2_with (first | (go_at_call 83; (with_reducible refine (HSZc.out _).mono ?_); rintro e w3 ⟨rfl, rfl⟩) | (go_at_call 84; (with_reducible refine (HBY.out _).mono ?_); rintro e w3 ⟨rfl, rfl⟩) | (go_at_call 86; (with_reducible refine (HSP.out _).mono ?_); rintro e w4 ⟨rfl, hb4⟩; have HB4 := hid (HBW.out.trans (hb4.mono HBW.out.size)); have HR4 := hid (HROW.out.on hb4); clear hb4) | (at_builtin; refine app_one rfl rfl (.tmp 133) (.tmp 139) rfl w1.heap.size _ _ tx rfl HR4.out rfl (Nat.le_trans hs4 HB4.out.size) (by omega) ?_; intro v9 w9 hr9 hg9 hv9; have HR9 := hid hr9; have HB9 := hid ((HBL.out.trans (HB4.out.mono hs4)).grown hg9 (Nat.le_trans hs4 HB4.out.size) (fun k hk => (HR4.out.lt k hk).2)); clear hr9 hg9 hv9))
              go_roundg (n - (i + 1))
              case measure => omega
              case rel => exact ⟨i + 1, oe, os ++ [tx], by go_num, by go_num, hlt, hle3, by rw [List.length_append]; simp only [List.length_cons, List.length_nil]; omega, HR9.out, HN.out, HB9.out, rfl⟩
          · have y104 : ((c.toNat : Int) == 104) = true := byte_is hc rfl
            have y72 : ((c.toNat : Int) == 72) = false := byte_ne (k := 72) 72 (by rw [hc]; decide) rfl
            have y98 : ((c.toNat : Int) == 98) = false := byte_ne (k := 98) 98 (by rw [hc]; decide) rfl
            have y66 : ((c.toNat : Int) == 66) = false := byte_ne (k := 66) 66 (by rw [hc]; decide) rfl
            have y64 : ((c.toNat : Int) == 64) = false := byte_ne (k := 64) 64 (by rw [hc]; decide) rfl
            have y120 : ((c.toNat : Int) == 120) = false := byte_ne (k := 120) 120 (by rw [hc]; decide) rfl
            have y97 : ((c.toNat : Int) == 97) = false := byte_ne (k := 97) 97 (by rw [hc]; decide) rfl
            have y65 : ((c.toNat : Int) == 65) = false := byte_ne (k := 65) 65 (by rw [hc]; decide) rfl
            have HSZc := hid (show ∀ v, Calls Tryz.prog 83 #[.int .u8 (c.toNat : Nat)] v fun e w' => e = .returned (.int .i64 0) ∧ w' = v from fun v => by have h := HSZ.out v; rw [show widthL c = 0 by rw [hc]; rfl] at h; exact h)
            subst hq
            obtain ⟨N2, hN2⟩ : ∃ N2, N2 = L * 2 := ⟨_, rfl⟩
            have hN2I : (L : Int) * 2 = (N2 : Int) := by omega
            have hwN2 : IntKind.i64.wrap (N2 : Int) = (N2 : Int) := IntWalk.i64_in _ (by omega)
            have HN2 := hid hN2
            have hN29 : N2 ≤ 800000 := by omega
            clear hN2
            have hn2m : ((N2 : Int) == -2) = false := by rw [beq_eq_false_iff_ne]; omega
            obtain ⟨Q, hQ⟩ : ∃ Q, Q = lenL c N2 := ⟨_, rfl⟩
            have hQe : Q = (N2 + 1) / 2 := by rw [hQ, hc]; rfl
            have HCU := hid (show cntU ⟨c, p, -2⟩ L = N2 by rw [hc, HN2.out]; show L * 8 / 4 = L * 2; omega)
            have HBY := hid (show ∀ v, Calls Tryz.prog 84 #[.int .u8 (c.toNat : Nat), .int .i64 (N2 : Nat)] v fun e w' => e = .returned (.int .i64 (lenL c N2 : Nat)) ∧ w' = v from fun v => bytesR_fn c (by rw [hc]; rfl) (by rw [hc]; decide) N2 (by omega) v)
            rw [← hQ] at HBY
            have HGO := hid (show unpackGo (⟨c, p, -2⟩ :: l.drop (i + 1)) s at0 os = if L < Q then (os, false) else unpackGo (l.drop (i + 1)) s (at0 + Q) (os ++ [toldE ⟨c, p, -2⟩ N2 ((s.drop at0).take Q)]) by
              rw [unpackGo, if_neg (by simp [hc])]
              dsimp only
              rw [← HLE.out, HCU.out, ← hQ, show takesL c = true by rw [hc]; rfl]
              rfl)
            by_cases hfit : L < Q
            · have hgt : (L : Int) < (Q : Int) := by omega
              have HO := hid (show U = (os, false) by rw [HUN.out, HGO.out, if_pos hfit])
              clear hfit hQ hQe hc
              go_wp2_with (first | (go_at_call 83; (with_reducible refine (HSZc.out _).mono ?_); rintro e w3 ⟨rfl, rfl⟩) | (go_at_call 84; (with_reducible refine (HBY.out _).mono ?_); rintro e w3 ⟨rfl, rfl⟩))
              go_ret3
              exact ⟨_, by rw [HRS.out, HO.out]; rfl, by rw [HRS.out, HO.out]; exact HROW.out.mono HB1.out.size, HB1.out.trans ((HBL.out.trans (HBW.out.mono hs4)).mono HB1.out.size)⟩
            · have hgt : ¬ ((L : Int) < (Q : Int)) := by omega
              obtain ⟨x, hx⟩ : ∃ x, x = (s.drop at0).take Q := ⟨_, rfl⟩
              obtain ⟨oe, hoe⟩ : ∃ oe, oe = at0 + Q := ⟨_, rfl⟩
              have hQL : Q ≤ s.length - at0 := by rw [← HLE.out]; omega
              have hxl : x.length = Q := by rw [hx, List.length_take, List.length_drop]; omega
              have hoeI : (at0 : Int) + (Q : Int) = (oe : Int) := by omega
              have hext : (⟨s.toArray⟩ : ByteArray).extract at0 oe = ⟨x.toArray⟩ := by rw [Lib.extract_mk, hx, hoe, show at0 + Q - at0 = Q by omega]
              have hwoe : IntKind.i64.wrap (oe : Int) = (oe : Int) := IntWalk.i64_in _ (by omega)
              have hle1 : (at0 : Int) ≤ (oe : Int) := by omega
              have hle2 : (oe : Int) ≤ (s.length : Int) := by omega
              have hle3 : oe ≤ s.length := by omega
              have HN := hid (show U = unpackGo (l.drop (i + 1)) s oe (os ++ [tellE c x N2]) by
                rw [HUN.out, HGO.out, if_neg hfit, hoe, ← hx]
                rw [show toldE ⟨c, p, -2⟩ N2 x = tellE c x N2 by rw [hc]; rfl])
              have HSP := hid (show ∀ v, Calls Tryz.prog 86 #[.agg #[.int .u8 (c.toNat : Nat), .bool p, .int .i64 (-2)], .string ⟨x.toArray⟩, .int .i64 (N2 : Nat), .int .i64 2] v fun e w' => e = .returned (.string ⟨(tellE c x N2).toArray⟩) ∧ Below v.heap.size v w' from fun v => spread2_fn c p (-2) (by rw [hc]; rfl) (by rw [hc]; rfl) x (by omega) N2 (fun j hj => by omega) (by omega) v)
              obtain ⟨tx, htx⟩ : ∃ tx, tx = tellE c x N2 := ⟨_, rfl⟩
              rw [← htx] at HSP HN
              clear htx
              clear hfit hQ hQe hc hx hoe hxl hQL
              go_wp2_with (first | (go_at_call 83; (with_reducible refine (HSZc.out _).mono ?_); rintro e w3 ⟨rfl, rfl⟩) | (go_at_call 84; (with_reducible refine (HBY.out _).mono ?_); rintro e w3 ⟨rfl, rfl⟩) | (go_at_call 86; (with_reducible refine (HSP.out _).mono ?_); rintro e w4 ⟨rfl, hb4⟩; have HB4 := hid (HBW.out.trans (hb4.mono HBW.out.size)); have HR4 := hid (HROW.out.on hb4); clear hb4) | (at_builtin; refine app_one rfl rfl (.tmp 133) (.tmp 139) rfl w1.heap.size _ _ tx rfl HR4.out rfl (Nat.le_trans hs4 HB4.out.size) (by omega) ?_; intro v9 w9 hr9 hg9 hv9; have HR9 := hid hr9; have HB9 := hid ((HBL.out.trans (HB4.out.mono hs4)).grown hg9 (Nat.le_trans hs4 HB4.out.size) (fun k hk => (HR4.out.lt k hk).2)); clear hr9 hg9 hv9))
              go_roundg (n - (i + 1))
              case measure => omega
              case rel => exact ⟨i + 1, oe, os ++ [tx], by go_num, by go_num, hlt, hle3, by rw [List.length_append]; simp only [List.length_cons, List.length_nil]; omega, HR9.out, HN.out, HB9.out, rfl⟩
          · have y104 : ((c.toNat : Int) == 104) = true := byte_is hc rfl
            have y72 : ((c.toNat : Int) == 72) = false := byte_ne (k := 72) 72 (by rw [hc]; decide) rfl
            have y98 : ((c.toNat : Int) == 98) = false := byte_ne (k := 98) 98 (by rw [hc]; decide) rfl
            have y66 : ((c.toNat : Int) == 66) = false := byte_ne (k := 66) 66 (by rw [hc]; decide) rfl
            have y64 : ((c.toNat : Int) == 64) = false := byte_ne (k := 64) 64 (by rw [hc]; decide) rfl
            have y120 : ((c.toNat : Int) == 120) = false := byte_ne (k := 120) 120 (by rw [hc]; decide) rfl
            have y97 : ((c.toNat : Int) == 97) = false := byte_ne (k := 97) 97 (by rw [hc]; decide) rfl
            have y65 : ((c.toNat : Int) == 65) = false := byte_ne (k := 65) 65 (by rw [hc]; decide) rfl
            have HSZc := hid (show ∀ v, Calls Tryz.prog 83 #[.int .u8 (c.toNat : Nat)] v fun e w' => e = .returned (.int .i64 0) ∧ w' = v from fun v => by have h := HSZ.out v; rw [show widthL c = 0 by rw [hc]; rfl] at h; exact h)
            subst hq
            have e1 : ((m : Int) == -1) = false := by rw [beq_eq_false_iff_ne]; omega
            have e2 : ((m : Int) == -2) = false := by rw [beq_eq_false_iff_ne]; omega
            obtain ⟨Q, hQ⟩ : ∃ Q, Q = lenL c m := ⟨_, rfl⟩
            have hQe : Q = (m + 1) / 2 := by rw [hQ, hc]; rfl
            have HCU := hid (show cntU ⟨c, p, (m : Int)⟩ L = m by rw [hc]; rfl)
            have HBY := hid (show ∀ v, Calls Tryz.prog 84 #[.int .u8 (c.toNat : Nat), .int .i64 (m : Nat)] v fun e w' => e = .returned (.int .i64 (lenL c m : Nat)) ∧ w' = v from fun v => bytesR_fn c (by rw [hc]; rfl) (by rw [hc]; decide) m (by omega) v)
            rw [← hQ] at HBY
            have HGO := hid (show unpackGo (⟨c, p, (m : Int)⟩ :: l.drop (i + 1)) s at0 os = if L < Q then (os, false) else unpackGo (l.drop (i + 1)) s (at0 + Q) (os ++ [toldE ⟨c, p, (m : Int)⟩ m ((s.drop at0).take Q)]) by
              rw [unpackGo, if_neg (by simp [hc])]
              dsimp only
              rw [← HLE.out, HCU.out, ← hQ, show takesL c = true by rw [hc]; rfl]
              rfl)
            by_cases hfit : L < Q
            · have hgt : (L : Int) < (Q : Int) := by omega
              have HO := hid (show U = (os, false) by rw [HUN.out, HGO.out, if_pos hfit])
              clear hfit hQ hQe hc
              go_wp2_with (first | (go_at_call 83; (with_reducible refine (HSZc.out _).mono ?_); rintro e w3 ⟨rfl, rfl⟩) | (go_at_call 84; (with_reducible refine (HBY.out _).mono ?_); rintro e w3 ⟨rfl, rfl⟩))
              go_ret3
              exact ⟨_, by rw [HRS.out, HO.out]; rfl, by rw [HRS.out, HO.out]; exact HROW.out.mono HB1.out.size, HB1.out.trans ((HBL.out.trans (HBW.out.mono hs4)).mono HB1.out.size)⟩
            · have hgt : ¬ ((L : Int) < (Q : Int)) := by omega
              obtain ⟨x, hx⟩ : ∃ x, x = (s.drop at0).take Q := ⟨_, rfl⟩
              obtain ⟨oe, hoe⟩ : ∃ oe, oe = at0 + Q := ⟨_, rfl⟩
              have hQL : Q ≤ s.length - at0 := by rw [← HLE.out]; omega
              have hxl : x.length = Q := by rw [hx, List.length_take, List.length_drop]; omega
              have hoeI : (at0 : Int) + (Q : Int) = (oe : Int) := by omega
              have hext : (⟨s.toArray⟩ : ByteArray).extract at0 oe = ⟨x.toArray⟩ := by rw [Lib.extract_mk, hx, hoe, show at0 + Q - at0 = Q by omega]
              have hwoe : IntKind.i64.wrap (oe : Int) = (oe : Int) := IntWalk.i64_in _ (by omega)
              have hle1 : (at0 : Int) ≤ (oe : Int) := by omega
              have hle2 : (oe : Int) ≤ (s.length : Int) := by omega
              have hle3 : oe ≤ s.length := by omega
              have HN := hid (show U = unpackGo (l.drop (i + 1)) s oe (os ++ [tellE c x m]) by
                rw [HUN.out, HGO.out, if_neg hfit, hoe, ← hx]
                rw [show toldE ⟨c, p, (m : Int)⟩ m x = tellE c x m by rw [hc]; rfl])
              have HSP := hid (show ∀ v, Calls Tryz.prog 86 #[.agg #[.int .u8 (c.toNat : Nat), .bool p, .int .i64 ((m : Int))], .string ⟨x.toArray⟩, .int .i64 (m : Nat), .int .i64 2] v fun e w' => e = .returned (.string ⟨(tellE c x m).toArray⟩) ∧ Below v.heap.size v w' from fun v => spread2_fn c p ((m : Int)) (by rw [hc]; rfl) (by rw [hc]; rfl) x (by omega) m (fun j hj => by omega) (by omega) v)
              obtain ⟨tx, htx⟩ : ∃ tx, tx = tellE c x m := ⟨_, rfl⟩
              rw [← htx] at HSP HN
              clear htx
              clear hfit hQ hQe hc hx hoe hxl hQL
              go_wp2_with (first | (go_at_call 83; (with_reducible refine (HSZc.out _).mono ?_); rintro e w3 ⟨rfl, rfl⟩) | (go_at_call 84; (with_reducible refine (HBY.out _).mono ?_); rintro e w3 ⟨rfl, rfl⟩) | (go_at_call 86; (with_reducible refine (HSP.out _).mono ?_); rintro e w4 ⟨rfl, hb4⟩; have HB4 := hid (HBW.out.trans (hb4.mono HBW.out.size)); have HR4 := hid (HROW.out.on hb4); clear hb4) | (at_builtin; refine app_one rfl rfl (.tmp 133) (.tmp 139) rfl w1.heap.size _ _ tx rfl HR4.out rfl (Nat.le_trans hs4 HB4.out.size) (by omega) ?_; intro v9 w9 hr9 hg9 hv9; have HR9 := hid hr9; have HB9 := hid ((HBL.out.trans (HB4.out.mono hs4)).grown hg9 (Nat.le_trans hs4 HB4.out.size) (fun k hk => (HR4.out.lt k hk).2)); clear hr9 hg9 hv9))
              go_roundg (n - (i + 1))
              case measure => omega
              case rel => exact ⟨i + 1, oe, os ++ [tx], by go_num, by go_num, hlt, hle3, by rw [List.length_append]; simp only [List.length_cons, List.length_nil]; omega, HR9.out, HN.out, HB9.out, rfl⟩
      have N104 := hid hc
      clear hc
      by_cases hc : c = 72
      · as_aux_lemma =>
          rcases (show q = -1 ∨ q = -2 ∨ ∃ m : Nat, q = (m : Int) ∧ m ≤ 9999 by
              have h1 := HFO.out.2.2.1
              have h2 := HFO.out.2.2.2.1
              dsimp only at h1 h2
              rcases (show q = -1 ∨ q = -2 ∨ 0 ≤ q by omega) with h | h | h
              · exact .inl h
              · exact .inr (.inl h)
              · exact .inr (.inr ⟨q.toNat, by omega, by omega⟩)) with hq | hq | ⟨m, hq, hm9⟩
          · have y104 : ((c.toNat : Int) == 104) = false := byte_ne (k := 104) 104 (by rw [hc]; decide) rfl
            have y72 : ((c.toNat : Int) == 72) = true := byte_is hc rfl
            have y98 : ((c.toNat : Int) == 98) = false := byte_ne (k := 98) 98 (by rw [hc]; decide) rfl
            have y66 : ((c.toNat : Int) == 66) = false := byte_ne (k := 66) 66 (by rw [hc]; decide) rfl
            have y64 : ((c.toNat : Int) == 64) = false := byte_ne (k := 64) 64 (by rw [hc]; decide) rfl
            have y120 : ((c.toNat : Int) == 120) = false := byte_ne (k := 120) 120 (by rw [hc]; decide) rfl
            have y97 : ((c.toNat : Int) == 97) = false := byte_ne (k := 97) 97 (by rw [hc]; decide) rfl
            have y65 : ((c.toNat : Int) == 65) = false := byte_ne (k := 65) 65 (by rw [hc]; decide) rfl
            have HSZc := hid (show ∀ v, Calls Tryz.prog 83 #[.int .u8 (c.toNat : Nat)] v fun e w' => e = .returned (.int .i64 0) ∧ w' = v from fun v => by have h := HSZ.out v; rw [show widthL c = 0 by rw [hc]; rfl] at h; exact h)
            subst hq
            obtain ⟨Q, hQ⟩ : ∃ Q, Q = lenL c 1 := ⟨_, rfl⟩
            have hQe : Q = (1 + 1) / 2 := by rw [hQ, hc]; rfl
            have HCU := hid (show cntU ⟨c, p, -1⟩ L = 1 by rw [hc]; rfl)
            have HBY := hid (show ∀ v, Calls Tryz.prog 84 #[.int .u8 (c.toNat : Nat), .int .i64 1] v fun e w' => e = .returned (.int .i64 (lenL c 1 : Nat)) ∧ w' = v from fun v => bytesR_fn c (by rw [hc]; rfl) (by rw [hc]; decide) 1 (by omega) v)
            rw [← hQ] at HBY
            have HGO := hid (show unpackGo (⟨c, p, -1⟩ :: l.drop (i + 1)) s at0 os = if L < Q then (os, false) else unpackGo (l.drop (i + 1)) s (at0 + Q) (os ++ [toldE ⟨c, p, -1⟩ 1 ((s.drop at0).take Q)]) by
              rw [unpackGo, if_neg (by simp [hc])]
              dsimp only
              rw [← HLE.out, HCU.out, ← hQ, show takesL c = true by rw [hc]; rfl]
              rfl)
            by_cases hfit : L < Q
            · have hgt : (L : Int) < (Q : Int) := by omega
              have HO := hid (show U = (os, false) by rw [HUN.out, HGO.out, if_pos hfit])
              clear hfit hQ hQe hc
              go_wp2_with (first | (go_at_call 83; (with_reducible refine (HSZc.out _).mono ?_); rintro e w3 ⟨rfl, rfl⟩) | (go_at_call 84; (with_reducible refine (HBY.out _).mono ?_); rintro e w3 ⟨rfl, rfl⟩))
              go_ret3
              exact ⟨_, by rw [HRS.out, HO.out]; rfl, by rw [HRS.out, HO.out]; exact HROW.out.mono HB1.out.size, HB1.out.trans ((HBL.out.trans (HBW.out.mono hs4)).mono HB1.out.size)⟩
            · have hgt : ¬ ((L : Int) < (Q : Int)) := by omega
              obtain ⟨x, hx⟩ : ∃ x, x = (s.drop at0).take Q := ⟨_, rfl⟩
              obtain ⟨oe, hoe⟩ : ∃ oe, oe = at0 + Q := ⟨_, rfl⟩
              have hQL : Q ≤ s.length - at0 := by rw [← HLE.out]; omega
              have hxl : x.length = Q := by rw [hx, List.length_take, List.length_drop]; omega
              have hoeI : (at0 : Int) + (Q : Int) = (oe : Int) := by omega
              have hext : (⟨s.toArray⟩ : ByteArray).extract at0 oe = ⟨x.toArray⟩ := by rw [Lib.extract_mk, hx, hoe, show at0 + Q - at0 = Q by omega]
              have hwoe : IntKind.i64.wrap (oe : Int) = (oe : Int) := IntWalk.i64_in _ (by omega)
              have hle1 : (at0 : Int) ≤ (oe : Int) := by omega
              have hle2 : (oe : Int) ≤ (s.length : Int) := by omega
              have hle3 : oe ≤ s.length := by omega
              have HN := hid (show U = unpackGo (l.drop (i + 1)) s oe (os ++ [tellE c x 1]) by
                rw [HUN.out, HGO.out, if_neg hfit, hoe, ← hx]
                rw [show toldE ⟨c, p, -1⟩ 1 x = tellE c x 1 by rw [hc]; rfl])
              have HSP := hid (show ∀ v, Calls Tryz.prog 86 #[.agg #[.int .u8 (c.toNat : Nat), .bool p, .int .i64 (-1)], .string ⟨x.toArray⟩, .int .i64 1, .int .i64 2] v fun e w' => e = .returned (.string ⟨(tellE c x 1).toArray⟩) ∧ Below v.heap.size v w' from fun v => spread2_fn c p (-1) (by rw [hc]; rfl) (by rw [hc]; rfl) x (by omega) 1 (fun j hj => by omega) (by omega) v)
              obtain ⟨tx, htx⟩ : ∃ tx, tx = tellE c x 1 := ⟨_, rfl⟩
              rw [← htx] at HSP HN
              clear htx
              clear hfit hQ hQe hc hx hoe hxl hQL
              go_wp2_with (first | (go_at_call 83; (with_reducible refine (HSZc.out _).mono ?_); rintro e w3 ⟨rfl, rfl⟩) | (go_at_call 84; (with_reducible refine (HBY.out _).mono ?_); rintro e w3 ⟨rfl, rfl⟩) | (go_at_call 86; (with_reducible refine (HSP.out _).mono ?_); rintro e w4 ⟨rfl, hb4⟩; have HB4 := hid (HBW.out.trans (hb4.mono HBW.out.size)); have HR4 := hid (HROW.out.on hb4); clear hb4) | (at_builtin; refine app_one rfl rfl (.tmp 133) (.tmp 139) rfl w1.heap.size _ _ tx rfl HR4.out rfl (Nat.le_trans hs4 HB4.out.size) (by omega) ?_; intro v9 w9 hr9 hg9 hv9; have HR9 := hid hr9; have HB9 := hid ((HBL.out.trans (HB4.out.mono hs4)).grown hg9 (Nat.le_trans hs4 HB4.out.size) (fun k hk => (HR4.out.lt k hk).2)); clear hr9 hg9 hv9))
              go_roundg (n - (i + 1))
              case measure => omega
              case rel => exact ⟨i + 1, oe, os ++ [tx], by go_num, by go_num, hlt, hle3, by rw [List.length_append]; simp only [List.length_cons, List.length_nil]; omega, HR9.out, HN.out, HB9.out, rfl⟩
          · have y104 : ((c.toNat : Int) == 104) = false := byte_ne (k := 104) 104 (by rw [hc]; decide) rfl
            have y72 : ((c.toNat : Int) == 72) = true := byte_is hc rfl
            have y98 : ((c.toNat : Int) == 98) = false := byte_ne (k := 98) 98 (by rw [hc]; decide) rfl
            have y66 : ((c.toNat : Int) == 66) = false := byte_ne (k := 66) 66 (by rw [hc]; decide) rfl
            have y64 : ((c.toNat : Int) == 64) = false := byte_ne (k := 64) 64 (by rw [hc]; decide) rfl
            have y120 : ((c.toNat : Int) == 120) = false := byte_ne (k := 120) 120 (by rw [hc]; decide) rfl
            have y97 : ((c.toNat : Int) == 97) = false := byte_ne (k := 97) 97 (by rw [hc]; decide) rfl
            have y65 : ((c.toNat : Int) == 65) = false := byte_ne (k := 65) 65 (by rw [hc]; decide) rfl
            have HSZc := hid (show ∀ v, Calls Tryz.prog 83 #[.int .u8 (c.toNat : Nat)] v fun e w' => e = .returned (.int .i64 0) ∧ w' = v from fun v => by have h := HSZ.out v; rw [show widthL c = 0 by rw [hc]; rfl] at h; exact h)
            subst hq
            obtain ⟨N2, hN2⟩ : ∃ N2, N2 = L * 2 := ⟨_, rfl⟩
            have hN2I : (L : Int) * 2 = (N2 : Int) := by omega
            have hwN2 : IntKind.i64.wrap (N2 : Int) = (N2 : Int) := IntWalk.i64_in _ (by omega)
            have HN2 := hid hN2
            have hN29 : N2 ≤ 800000 := by omega
            clear hN2
            have hn2m : ((N2 : Int) == -2) = false := by rw [beq_eq_false_iff_ne]; omega
            obtain ⟨Q, hQ⟩ : ∃ Q, Q = lenL c N2 := ⟨_, rfl⟩
            have hQe : Q = (N2 + 1) / 2 := by rw [hQ, hc]; rfl
            have HCU := hid (show cntU ⟨c, p, -2⟩ L = N2 by rw [hc, HN2.out]; show L * 8 / 4 = L * 2; omega)
            have HBY := hid (show ∀ v, Calls Tryz.prog 84 #[.int .u8 (c.toNat : Nat), .int .i64 (N2 : Nat)] v fun e w' => e = .returned (.int .i64 (lenL c N2 : Nat)) ∧ w' = v from fun v => bytesR_fn c (by rw [hc]; rfl) (by rw [hc]; decide) N2 (by omega) v)
            rw [← hQ] at HBY
            have HGO := hid (show unpackGo (⟨c, p, -2⟩ :: l.drop (i + 1)) s at0 os = if L < Q then (os, false) else unpackGo (l.drop (i + 1)) s (at0 + Q) (os ++ [toldE ⟨c, p, -2⟩ N2 ((s.drop at0).take Q)]) by
              rw [unpackGo, if_neg (by simp [hc])]
              dsimp only
              rw [← HLE.out, HCU.out, ← hQ, show takesL c = true by rw [hc]; rfl]
              rfl)
            by_cases hfit : L < Q
            · have hgt : (L : Int) < (Q : Int) := by omega
              have HO := hid (show U = (os, false) by rw [HUN.out, HGO.out, if_pos hfit])
              clear hfit hQ hQe hc
              go_wp2_with (first | (go_at_call 83; (with_reducible refine (HSZc.out _).mono ?_); rintro e w3 ⟨rfl, rfl⟩) | (go_at_call 84; (with_reducible refine (HBY.out _).mono ?_); rintro e w3 ⟨rfl, rfl⟩))
              go_ret3
              exact ⟨_, by rw [HRS.out, HO.out]; rfl, by rw [HRS.out, HO.out]; exact HROW.out.mono HB1.out.size, HB1.out.trans ((HBL.out.trans (HBW.out.mono hs4)).mono HB1.out.size)⟩
            · have hgt : ¬ ((L : Int) < (Q : Int)) := by omega
              obtain ⟨x, hx⟩ : ∃ x, x = (s.drop at0).take Q := ⟨_, rfl⟩
              obtain ⟨oe, hoe⟩ : ∃ oe, oe = at0 + Q := ⟨_, rfl⟩
              have hQL : Q ≤ s.length - at0 := by rw [← HLE.out]; omega
              have hxl : x.length = Q := by rw [hx, List.length_take, List.length_drop]; omega
              have hoeI : (at0 : Int) + (Q : Int) = (oe : Int) := by omega
              have hext : (⟨s.toArray⟩ : ByteArray).extract at0 oe = ⟨x.toArray⟩ := by rw [Lib.extract_mk, hx, hoe, show at0 + Q - at0 = Q by omega]
              have hwoe : IntKind.i64.wrap (oe : Int) = (oe : Int) := IntWalk.i64_in _ (by omega)
              have hle1 : (at0 : Int) ≤ (oe : Int) := by omega
              have hle2 : (oe : Int) ≤ (s.length : Int) := by omega
              have hle3 : oe ≤ s.length := by omega
              have HN := hid (show U = unpackGo (l.drop (i + 1)) s oe (os ++ [tellE c x N2]) by
                rw [HUN.out, HGO.out, if_neg hfit, hoe, ← hx]
                rw [show toldE ⟨c, p, -2⟩ N2 x = tellE c x N2 by rw [hc]; rfl])
              have HSP := hid (show ∀ v, Calls Tryz.prog 86 #[.agg #[.int .u8 (c.toNat : Nat), .bool p, .int .i64 (-2)], .string ⟨x.toArray⟩, .int .i64 (N2 : Nat), .int .i64 2] v fun e w' => e = .returned (.string ⟨(tellE c x N2).toArray⟩) ∧ Below v.heap.size v w' from fun v => spread2_fn c p (-2) (by rw [hc]; rfl) (by rw [hc]; rfl) x (by omega) N2 (fun j hj => by omega) (by omega) v)
              obtain ⟨tx, htx⟩ : ∃ tx, tx = tellE c x N2 := ⟨_, rfl⟩
              rw [← htx] at HSP HN
              clear htx
              clear hfit hQ hQe hc hx hoe hxl hQL
              go_wp2_with (first | (go_at_call 83; (with_reducible refine (HSZc.out _).mono ?_); rintro e w3 ⟨rfl, rfl⟩) | (go_at_call 84; (with_reducible refine (HBY.out _).mono ?_); rintro e w3 ⟨rfl, rfl⟩) | (go_at_call 86; (with_reducible refine (HSP.out _).mono ?_); rintro e w4 ⟨rfl, hb4⟩; have HB4 := hid (HBW.out.trans (hb4.mono HBW.out.size)); have HR4 := hid (HROW.out.on hb4); clear hb4) | (at_builtin; refine app_one rfl rfl (.tmp 133) (.tmp 139) rfl w1.heap.size _ _ tx rfl HR4.out rfl (Nat.le_trans hs4 HB4.out.size) (by omega) ?_; intro v9 w9 hr9 hg9 hv9; have HR9 := hid hr9; have HB9 := hid ((HBL.out.trans (HB4.out.mono hs4)).grown hg9 (Nat.le_trans hs4 HB4.out.size) (fun k hk => (HR4.out.lt k hk).2)); clear hr9 hg9 hv9))
              go_roundg (n - (i + 1))
              case measure => omega
              case rel => exact ⟨i + 1, oe, os ++ [tx], by go_num, by go_num, hlt, hle3, by rw [List.length_append]; simp only [List.length_cons, List.length_nil]; omega, HR9.out, HN.out, HB9.out, rfl⟩
          · have y104 : ((c.toNat : Int) == 104) = false := byte_ne (k := 104) 104 (by rw [hc]; decide) rfl
            have y72 : ((c.toNat : Int) == 72) = true := byte_is hc rfl
            have y98 : ((c.toNat : Int) == 98) = false := byte_ne (k := 98) 98 (by rw [hc]; decide) rfl
            have y66 : ((c.toNat : Int) == 66) = false := byte_ne (k := 66) 66 (by rw [hc]; decide) rfl
            have y64 : ((c.toNat : Int) == 64) = false := byte_ne (k := 64) 64 (by rw [hc]; decide) rfl
            have y120 : ((c.toNat : Int) == 120) = false := byte_ne (k := 120) 120 (by rw [hc]; decide) rfl
            have y97 : ((c.toNat : Int) == 97) = false := byte_ne (k := 97) 97 (by rw [hc]; decide) rfl
            have y65 : ((c.toNat : Int) == 65) = false := byte_ne (k := 65) 65 (by rw [hc]; decide) rfl
            have HSZc := hid (show ∀ v, Calls Tryz.prog 83 #[.int .u8 (c.toNat : Nat)] v fun e w' => e = .returned (.int .i64 0) ∧ w' = v from fun v => by have h := HSZ.out v; rw [show widthL c = 0 by rw [hc]; rfl] at h; exact h)
            subst hq
            have e1 : ((m : Int) == -1) = false := by rw [beq_eq_false_iff_ne]; omega
            have e2 : ((m : Int) == -2) = false := by rw [beq_eq_false_iff_ne]; omega
            obtain ⟨Q, hQ⟩ : ∃ Q, Q = lenL c m := ⟨_, rfl⟩
            have hQe : Q = (m + 1) / 2 := by rw [hQ, hc]; rfl
            have HCU := hid (show cntU ⟨c, p, (m : Int)⟩ L = m by rw [hc]; rfl)
            have HBY := hid (show ∀ v, Calls Tryz.prog 84 #[.int .u8 (c.toNat : Nat), .int .i64 (m : Nat)] v fun e w' => e = .returned (.int .i64 (lenL c m : Nat)) ∧ w' = v from fun v => bytesR_fn c (by rw [hc]; rfl) (by rw [hc]; decide) m (by omega) v)
            rw [← hQ] at HBY
            have HGO := hid (show unpackGo (⟨c, p, (m : Int)⟩ :: l.drop (i + 1)) s at0 os = if L < Q then (os, false) else unpackGo (l.drop (i + 1)) s (at0 + Q) (os ++ [toldE ⟨c, p, (m : Int)⟩ m ((s.drop at0).take Q)]) by
              rw [unpackGo, if_neg (by simp [hc])]
              dsimp only
              rw [← HLE.out, HCU.out, ← hQ, show takesL c = true by rw [hc]; rfl]
              rfl)
            by_cases hfit : L < Q
            · have hgt : (L : Int) < (Q : Int) := by omega
              have HO := hid (show U = (os, false) by rw [HUN.out, HGO.out, if_pos hfit])
              clear hfit hQ hQe hc
              go_wp2_with (first | (go_at_call 83; (with_reducible refine (HSZc.out _).mono ?_); rintro e w3 ⟨rfl, rfl⟩) | (go_at_call 84; (with_reducible refine (HBY.out _).mono ?_); rintro e w3 ⟨rfl, rfl⟩))
              go_ret3
              exact ⟨_, by rw [HRS.out, HO.out]; rfl, by rw [HRS.out, HO.out]; exact HROW.out.mono HB1.out.size, HB1.out.trans ((HBL.out.trans (HBW.out.mono hs4)).mono HB1.out.size)⟩
            · have hgt : ¬ ((L : Int) < (Q : Int)) := by omega
              obtain ⟨x, hx⟩ : ∃ x, x = (s.drop at0).take Q := ⟨_, rfl⟩
              obtain ⟨oe, hoe⟩ : ∃ oe, oe = at0 + Q := ⟨_, rfl⟩
              have hQL : Q ≤ s.length - at0 := by rw [← HLE.out]; omega
              have hxl : x.length = Q := by rw [hx, List.length_take, List.length_drop]; omega
              have hoeI : (at0 : Int) + (Q : Int) = (oe : Int) := by omega
              have hext : (⟨s.toArray⟩ : ByteArray).extract at0 oe = ⟨x.toArray⟩ := by rw [Lib.extract_mk, hx, hoe, show at0 + Q - at0 = Q by omega]
              have hwoe : IntKind.i64.wrap (oe : Int) = (oe : Int) := IntWalk.i64_in _ (by omega)
              have hle1 : (at0 : Int) ≤ (oe : Int) := by omega
              have hle2 : (oe : Int) ≤ (s.length : Int) := by omega
              have hle3 : oe ≤ s.length := by omega
              have HN := hid (show U = unpackGo (l.drop (i + 1)) s oe (os ++ [tellE c x m]) by
                rw [HUN.out, HGO.out, if_neg hfit, hoe, ← hx]
                rw [show toldE ⟨c, p, (m : Int)⟩ m x = tellE c x m by rw [hc]; rfl])
              have HSP := hid (show ∀ v, Calls Tryz.prog 86 #[.agg #[.int .u8 (c.toNat : Nat), .bool p, .int .i64 ((m : Int))], .string ⟨x.toArray⟩, .int .i64 (m : Nat), .int .i64 2] v fun e w' => e = .returned (.string ⟨(tellE c x m).toArray⟩) ∧ Below v.heap.size v w' from fun v => spread2_fn c p ((m : Int)) (by rw [hc]; rfl) (by rw [hc]; rfl) x (by omega) m (fun j hj => by omega) (by omega) v)
              obtain ⟨tx, htx⟩ : ∃ tx, tx = tellE c x m := ⟨_, rfl⟩
              rw [← htx] at HSP HN
              clear htx
              clear hfit hQ hQe hc hx hoe hxl hQL
              go_wp2_with (first | (go_at_call 83; (with_reducible refine (HSZc.out _).mono ?_); rintro e w3 ⟨rfl, rfl⟩) | (go_at_call 84; (with_reducible refine (HBY.out _).mono ?_); rintro e w3 ⟨rfl, rfl⟩) | (go_at_call 86; (with_reducible refine (HSP.out _).mono ?_); rintro e w4 ⟨rfl, hb4⟩; have HB4 := hid (HBW.out.trans (hb4.mono HBW.out.size)); have HR4 := hid (HROW.out.on hb4); clear hb4) | (at_builtin; refine app_one rfl rfl (.tmp 133) (.tmp 139) rfl w1.heap.size _ _ tx rfl HR4.out rfl (Nat.le_trans hs4 HB4.out.size) (by omega) ?_; intro v9 w9 hr9 hg9 hv9; have HR9 := hid hr9; have HB9 := hid ((HBL.out.trans (HB4.out.mono hs4)).grown hg9 (Nat.le_trans hs4 HB4.out.size) (fun k hk => (HR4.out.lt k hk).2)); clear hr9 hg9 hv9))
              go_roundg (n - (i + 1))
              case measure => omega
              case rel => exact ⟨i + 1, oe, os ++ [tx], by go_num, by go_num, hlt, hle3, by rw [List.length_append]; simp only [List.length_cons, List.length_nil]; omega, HR9.out, HN.out, HB9.out, rfl⟩
      have N72 := hid hc
      clear hc
      by_cases hc : c = 98
      · as_aux_lemma =>
          rcases (show q = -1 ∨ q = -2 ∨ ∃ m : Nat, q = (m : Int) ∧ m ≤ 9999 by
              have h1 := HFO.out.2.2.1
              have h2 := HFO.out.2.2.2.1
              dsimp only at h1 h2
              rcases (show q = -1 ∨ q = -2 ∨ 0 ≤ q by omega) with h | h | h
              · exact .inl h
              · exact .inr (.inl h)
              · exact .inr (.inr ⟨q.toNat, by omega, by omega⟩)) with hq | hq | ⟨m, hq, hm9⟩
          · have y104 : ((c.toNat : Int) == 104) = false := byte_ne (k := 104) 104 (by rw [hc]; decide) rfl
            have y72 : ((c.toNat : Int) == 72) = false := byte_ne (k := 72) 72 (by rw [hc]; decide) rfl
            have y98 : ((c.toNat : Int) == 98) = true := byte_is hc rfl
            have y66 : ((c.toNat : Int) == 66) = false := byte_ne (k := 66) 66 (by rw [hc]; decide) rfl
            have y64 : ((c.toNat : Int) == 64) = false := byte_ne (k := 64) 64 (by rw [hc]; decide) rfl
            have y120 : ((c.toNat : Int) == 120) = false := byte_ne (k := 120) 120 (by rw [hc]; decide) rfl
            have y97 : ((c.toNat : Int) == 97) = false := byte_ne (k := 97) 97 (by rw [hc]; decide) rfl
            have y65 : ((c.toNat : Int) == 65) = false := byte_ne (k := 65) 65 (by rw [hc]; decide) rfl
            have HSZc := hid (show ∀ v, Calls Tryz.prog 83 #[.int .u8 (c.toNat : Nat)] v fun e w' => e = .returned (.int .i64 0) ∧ w' = v from fun v => by have h := HSZ.out v; rw [show widthL c = 0 by rw [hc]; rfl] at h; exact h)
            subst hq
            obtain ⟨Q, hQ⟩ : ∃ Q, Q = lenL c 1 := ⟨_, rfl⟩
            have hQe : Q = (1 + 7) / 8 := by rw [hQ, hc]; rfl
            have HCU := hid (show cntU ⟨c, p, -1⟩ L = 1 by rw [hc]; rfl)
            have HBY := hid (show ∀ v, Calls Tryz.prog 84 #[.int .u8 (c.toNat : Nat), .int .i64 1] v fun e w' => e = .returned (.int .i64 (lenL c 1 : Nat)) ∧ w' = v from fun v => bytesR_fn c (by rw [hc]; rfl) (by rw [hc]; decide) 1 (by omega) v)
            rw [← hQ] at HBY
            have HGO := hid (show unpackGo (⟨c, p, -1⟩ :: l.drop (i + 1)) s at0 os = if L < Q then (os, false) else unpackGo (l.drop (i + 1)) s (at0 + Q) (os ++ [toldE ⟨c, p, -1⟩ 1 ((s.drop at0).take Q)]) by
              rw [unpackGo, if_neg (by simp [hc])]
              dsimp only
              rw [← HLE.out, HCU.out, ← hQ, show takesL c = true by rw [hc]; rfl]
              rfl)
            by_cases hfit : L < Q
            · have hgt : (L : Int) < (Q : Int) := by omega
              have HO := hid (show U = (os, false) by rw [HUN.out, HGO.out, if_pos hfit])
              clear hfit hQ hQe hc
              go_wp2_with (first | (go_at_call 83; (with_reducible refine (HSZc.out _).mono ?_); rintro e w3 ⟨rfl, rfl⟩) | (go_at_call 84; (with_reducible refine (HBY.out _).mono ?_); rintro e w3 ⟨rfl, rfl⟩))
              go_ret3
              exact ⟨_, by rw [HRS.out, HO.out]; rfl, by rw [HRS.out, HO.out]; exact HROW.out.mono HB1.out.size, HB1.out.trans ((HBL.out.trans (HBW.out.mono hs4)).mono HB1.out.size)⟩
            · have hgt : ¬ ((L : Int) < (Q : Int)) := by omega
              obtain ⟨x, hx⟩ : ∃ x, x = (s.drop at0).take Q := ⟨_, rfl⟩
              obtain ⟨oe, hoe⟩ : ∃ oe, oe = at0 + Q := ⟨_, rfl⟩
              have hQL : Q ≤ s.length - at0 := by rw [← HLE.out]; omega
              have hxl : x.length = Q := by rw [hx, List.length_take, List.length_drop]; omega
              have hoeI : (at0 : Int) + (Q : Int) = (oe : Int) := by omega
              have hext : (⟨s.toArray⟩ : ByteArray).extract at0 oe = ⟨x.toArray⟩ := by rw [Lib.extract_mk, hx, hoe, show at0 + Q - at0 = Q by omega]
              have hwoe : IntKind.i64.wrap (oe : Int) = (oe : Int) := IntWalk.i64_in _ (by omega)
              have hle1 : (at0 : Int) ≤ (oe : Int) := by omega
              have hle2 : (oe : Int) ≤ (s.length : Int) := by omega
              have hle3 : oe ≤ s.length := by omega
              have HN := hid (show U = unpackGo (l.drop (i + 1)) s oe (os ++ [tellE c x 1]) by
                rw [HUN.out, HGO.out, if_neg hfit, hoe, ← hx]
                rw [show toldE ⟨c, p, -1⟩ 1 x = tellE c x 1 by rw [hc]; rfl])
              have HSP := hid (show ∀ v, Calls Tryz.prog 86 #[.agg #[.int .u8 (c.toNat : Nat), .bool p, .int .i64 (-1)], .string ⟨x.toArray⟩, .int .i64 1, .int .i64 8] v fun e w' => e = .returned (.string ⟨(tellE c x 1).toArray⟩) ∧ Below v.heap.size v w' from fun v => spread8_fn c p (-1) (by rw [hc]; rfl) (by rw [hc]; rfl) x (by omega) 1 (fun j hj => by omega) (by omega) v)
              obtain ⟨tx, htx⟩ : ∃ tx, tx = tellE c x 1 := ⟨_, rfl⟩
              rw [← htx] at HSP HN
              clear htx
              clear hfit hQ hQe hc hx hoe hxl hQL
              go_wp2_with (first | (go_at_call 83; (with_reducible refine (HSZc.out _).mono ?_); rintro e w3 ⟨rfl, rfl⟩) | (go_at_call 84; (with_reducible refine (HBY.out _).mono ?_); rintro e w3 ⟨rfl, rfl⟩) | (go_at_call 86; (with_reducible refine (HSP.out _).mono ?_); rintro e w4 ⟨rfl, hb4⟩; have HB4 := hid (HBW.out.trans (hb4.mono HBW.out.size)); have HR4 := hid (HROW.out.on hb4); clear hb4) | (at_builtin; refine app_one rfl rfl (.tmp 133) (.tmp 139) rfl w1.heap.size _ _ tx rfl HR4.out rfl (Nat.le_trans hs4 HB4.out.size) (by omega) ?_; intro v9 w9 hr9 hg9 hv9; have HR9 := hid hr9; have HB9 := hid ((HBL.out.trans (HB4.out.mono hs4)).grown hg9 (Nat.le_trans hs4 HB4.out.size) (fun k hk => (HR4.out.lt k hk).2)); clear hr9 hg9 hv9))
              go_roundg (n - (i + 1))
              case measure => omega
              case rel => exact ⟨i + 1, oe, os ++ [tx], by go_num, by go_num, hlt, hle3, by rw [List.length_append]; simp only [List.length_cons, List.length_nil]; omega, HR9.out, HN.out, HB9.out, rfl⟩
          · have y104 : ((c.toNat : Int) == 104) = false := byte_ne (k := 104) 104 (by rw [hc]; decide) rfl
            have y72 : ((c.toNat : Int) == 72) = false := byte_ne (k := 72) 72 (by rw [hc]; decide) rfl
            have y98 : ((c.toNat : Int) == 98) = true := byte_is hc rfl
            have y66 : ((c.toNat : Int) == 66) = false := byte_ne (k := 66) 66 (by rw [hc]; decide) rfl
            have y64 : ((c.toNat : Int) == 64) = false := byte_ne (k := 64) 64 (by rw [hc]; decide) rfl
            have y120 : ((c.toNat : Int) == 120) = false := byte_ne (k := 120) 120 (by rw [hc]; decide) rfl
            have y97 : ((c.toNat : Int) == 97) = false := byte_ne (k := 97) 97 (by rw [hc]; decide) rfl
            have y65 : ((c.toNat : Int) == 65) = false := byte_ne (k := 65) 65 (by rw [hc]; decide) rfl
            have HSZc := hid (show ∀ v, Calls Tryz.prog 83 #[.int .u8 (c.toNat : Nat)] v fun e w' => e = .returned (.int .i64 0) ∧ w' = v from fun v => by have h := HSZ.out v; rw [show widthL c = 0 by rw [hc]; rfl] at h; exact h)
            subst hq
            obtain ⟨N2, hN2⟩ : ∃ N2, N2 = L * 8 := ⟨_, rfl⟩
            have hN2I : (L : Int) * 8 = (N2 : Int) := by omega
            have hwN2 : IntKind.i64.wrap (N2 : Int) = (N2 : Int) := IntWalk.i64_in _ (by omega)
            have HN2 := hid hN2
            have hN29 : N2 ≤ 800000 := by omega
            clear hN2
            have hn2m : ((N2 : Int) == -2) = false := by rw [beq_eq_false_iff_ne]; omega
            obtain ⟨Q, hQ⟩ : ∃ Q, Q = lenL c N2 := ⟨_, rfl⟩
            have hQe : Q = (N2 + 7) / 8 := by rw [hQ, hc]; rfl
            have HCU := hid (show cntU ⟨c, p, -2⟩ L = N2 by rw [hc, HN2.out]; show L * 8 / 1 = L * 8; omega)
            have HBY := hid (show ∀ v, Calls Tryz.prog 84 #[.int .u8 (c.toNat : Nat), .int .i64 (N2 : Nat)] v fun e w' => e = .returned (.int .i64 (lenL c N2 : Nat)) ∧ w' = v from fun v => bytesR_fn c (by rw [hc]; rfl) (by rw [hc]; decide) N2 (by omega) v)
            rw [← hQ] at HBY
            have HGO := hid (show unpackGo (⟨c, p, -2⟩ :: l.drop (i + 1)) s at0 os = if L < Q then (os, false) else unpackGo (l.drop (i + 1)) s (at0 + Q) (os ++ [toldE ⟨c, p, -2⟩ N2 ((s.drop at0).take Q)]) by
              rw [unpackGo, if_neg (by simp [hc])]
              dsimp only
              rw [← HLE.out, HCU.out, ← hQ, show takesL c = true by rw [hc]; rfl]
              rfl)
            by_cases hfit : L < Q
            · have hgt : (L : Int) < (Q : Int) := by omega
              have HO := hid (show U = (os, false) by rw [HUN.out, HGO.out, if_pos hfit])
              clear hfit hQ hQe hc
              go_wp2_with (first | (go_at_call 83; (with_reducible refine (HSZc.out _).mono ?_); rintro e w3 ⟨rfl, rfl⟩) | (go_at_call 84; (with_reducible refine (HBY.out _).mono ?_); rintro e w3 ⟨rfl, rfl⟩))
              go_ret3
              exact ⟨_, by rw [HRS.out, HO.out]; rfl, by rw [HRS.out, HO.out]; exact HROW.out.mono HB1.out.size, HB1.out.trans ((HBL.out.trans (HBW.out.mono hs4)).mono HB1.out.size)⟩
            · have hgt : ¬ ((L : Int) < (Q : Int)) := by omega
              obtain ⟨x, hx⟩ : ∃ x, x = (s.drop at0).take Q := ⟨_, rfl⟩
              obtain ⟨oe, hoe⟩ : ∃ oe, oe = at0 + Q := ⟨_, rfl⟩
              have hQL : Q ≤ s.length - at0 := by rw [← HLE.out]; omega
              have hxl : x.length = Q := by rw [hx, List.length_take, List.length_drop]; omega
              have hoeI : (at0 : Int) + (Q : Int) = (oe : Int) := by omega
              have hext : (⟨s.toArray⟩ : ByteArray).extract at0 oe = ⟨x.toArray⟩ := by rw [Lib.extract_mk, hx, hoe, show at0 + Q - at0 = Q by omega]
              have hwoe : IntKind.i64.wrap (oe : Int) = (oe : Int) := IntWalk.i64_in _ (by omega)
              have hle1 : (at0 : Int) ≤ (oe : Int) := by omega
              have hle2 : (oe : Int) ≤ (s.length : Int) := by omega
              have hle3 : oe ≤ s.length := by omega
              have HN := hid (show U = unpackGo (l.drop (i + 1)) s oe (os ++ [tellE c x N2]) by
                rw [HUN.out, HGO.out, if_neg hfit, hoe, ← hx]
                rw [show toldE ⟨c, p, -2⟩ N2 x = tellE c x N2 by rw [hc]; rfl])
              have HSP := hid (show ∀ v, Calls Tryz.prog 86 #[.agg #[.int .u8 (c.toNat : Nat), .bool p, .int .i64 (-2)], .string ⟨x.toArray⟩, .int .i64 (N2 : Nat), .int .i64 8] v fun e w' => e = .returned (.string ⟨(tellE c x N2).toArray⟩) ∧ Below v.heap.size v w' from fun v => spread8_fn c p (-2) (by rw [hc]; rfl) (by rw [hc]; rfl) x (by omega) N2 (fun j hj => by omega) (by omega) v)
              obtain ⟨tx, htx⟩ : ∃ tx, tx = tellE c x N2 := ⟨_, rfl⟩
              rw [← htx] at HSP HN
              clear htx
              clear hfit hQ hQe hc hx hoe hxl hQL
              go_wp2_with (first | (go_at_call 83; (with_reducible refine (HSZc.out _).mono ?_); rintro e w3 ⟨rfl, rfl⟩) | (go_at_call 84; (with_reducible refine (HBY.out _).mono ?_); rintro e w3 ⟨rfl, rfl⟩) | (go_at_call 86; (with_reducible refine (HSP.out _).mono ?_); rintro e w4 ⟨rfl, hb4⟩; have HB4 := hid (HBW.out.trans (hb4.mono HBW.out.size)); have HR4 := hid (HROW.out.on hb4); clear hb4) | (at_builtin; refine app_one rfl rfl (.tmp 133) (.tmp 139) rfl w1.heap.size _ _ tx rfl HR4.out rfl (Nat.le_trans hs4 HB4.out.size) (by omega) ?_; intro v9 w9 hr9 hg9 hv9; have HR9 := hid hr9; have HB9 := hid ((HBL.out.trans (HB4.out.mono hs4)).grown hg9 (Nat.le_trans hs4 HB4.out.size) (fun k hk => (HR4.out.lt k hk).2)); clear hr9 hg9 hv9))
              go_roundg (n - (i + 1))
              case measure => omega
              case rel => exact ⟨i + 1, oe, os ++ [tx], by go_num, by go_num, hlt, hle3, by rw [List.length_append]; simp only [List.length_cons, List.length_nil]; omega, HR9.out, HN.out, HB9.out, rfl⟩
          · have y104 : ((c.toNat : Int) == 104) = false := byte_ne (k := 104) 104 (by rw [hc]; decide) rfl
            have y72 : ((c.toNat : Int) == 72) = false := byte_ne (k := 72) 72 (by rw [hc]; decide) rfl
            have y98 : ((c.toNat : Int) == 98) = true := byte_is hc rfl
            have y66 : ((c.toNat : Int) == 66) = false := byte_ne (k := 66) 66 (by rw [hc]; decide) rfl
            have y64 : ((c.toNat : Int) == 64) = false := byte_ne (k := 64) 64 (by rw [hc]; decide) rfl
            have y120 : ((c.toNat : Int) == 120) = false := byte_ne (k := 120) 120 (by rw [hc]; decide) rfl
            have y97 : ((c.toNat : Int) == 97) = false := byte_ne (k := 97) 97 (by rw [hc]; decide) rfl
            have y65 : ((c.toNat : Int) == 65) = false := byte_ne (k := 65) 65 (by rw [hc]; decide) rfl
            have HSZc := hid (show ∀ v, Calls Tryz.prog 83 #[.int .u8 (c.toNat : Nat)] v fun e w' => e = .returned (.int .i64 0) ∧ w' = v from fun v => by have h := HSZ.out v; rw [show widthL c = 0 by rw [hc]; rfl] at h; exact h)
            subst hq
            have e1 : ((m : Int) == -1) = false := by rw [beq_eq_false_iff_ne]; omega
            have e2 : ((m : Int) == -2) = false := by rw [beq_eq_false_iff_ne]; omega
            obtain ⟨Q, hQ⟩ : ∃ Q, Q = lenL c m := ⟨_, rfl⟩
            have hQe : Q = (m + 7) / 8 := by rw [hQ, hc]; rfl
            have HCU := hid (show cntU ⟨c, p, (m : Int)⟩ L = m by rw [hc]; rfl)
            have HBY := hid (show ∀ v, Calls Tryz.prog 84 #[.int .u8 (c.toNat : Nat), .int .i64 (m : Nat)] v fun e w' => e = .returned (.int .i64 (lenL c m : Nat)) ∧ w' = v from fun v => bytesR_fn c (by rw [hc]; rfl) (by rw [hc]; decide) m (by omega) v)
            rw [← hQ] at HBY
            have HGO := hid (show unpackGo (⟨c, p, (m : Int)⟩ :: l.drop (i + 1)) s at0 os = if L < Q then (os, false) else unpackGo (l.drop (i + 1)) s (at0 + Q) (os ++ [toldE ⟨c, p, (m : Int)⟩ m ((s.drop at0).take Q)]) by
              rw [unpackGo, if_neg (by simp [hc])]
              dsimp only
              rw [← HLE.out, HCU.out, ← hQ, show takesL c = true by rw [hc]; rfl]
              rfl)
            by_cases hfit : L < Q
            · have hgt : (L : Int) < (Q : Int) := by omega
              have HO := hid (show U = (os, false) by rw [HUN.out, HGO.out, if_pos hfit])
              clear hfit hQ hQe hc
              go_wp2_with (first | (go_at_call 83; (with_reducible refine (HSZc.out _).mono ?_); rintro e w3 ⟨rfl, rfl⟩) | (go_at_call 84; (with_reducible refine (HBY.out _).mono ?_); rintro e w3 ⟨rfl, rfl⟩))
              go_ret3
              exact ⟨_, by rw [HRS.out, HO.out]; rfl, by rw [HRS.out, HO.out]; exact HROW.out.mono HB1.out.size, HB1.out.trans ((HBL.out.trans (HBW.out.mono hs4)).mono HB1.out.size)⟩
            · have hgt : ¬ ((L : Int) < (Q : Int)) := by omega
              obtain ⟨x, hx⟩ : ∃ x, x = (s.drop at0).take Q := ⟨_, rfl⟩
              obtain ⟨oe, hoe⟩ : ∃ oe, oe = at0 + Q := ⟨_, rfl⟩
              have hQL : Q ≤ s.length - at0 := by rw [← HLE.out]; omega
              have hxl : x.length = Q := by rw [hx, List.length_take, List.length_drop]; omega
              have hoeI : (at0 : Int) + (Q : Int) = (oe : Int) := by omega
              have hext : (⟨s.toArray⟩ : ByteArray).extract at0 oe = ⟨x.toArray⟩ := by rw [Lib.extract_mk, hx, hoe, show at0 + Q - at0 = Q by omega]
              have hwoe : IntKind.i64.wrap (oe : Int) = (oe : Int) := IntWalk.i64_in _ (by omega)
              have hle1 : (at0 : Int) ≤ (oe : Int) := by omega
              have hle2 : (oe : Int) ≤ (s.length : Int) := by omega
              have hle3 : oe ≤ s.length := by omega
              have HN := hid (show U = unpackGo (l.drop (i + 1)) s oe (os ++ [tellE c x m]) by
                rw [HUN.out, HGO.out, if_neg hfit, hoe, ← hx]
                rw [show toldE ⟨c, p, (m : Int)⟩ m x = tellE c x m by rw [hc]; rfl])
              have HSP := hid (show ∀ v, Calls Tryz.prog 86 #[.agg #[.int .u8 (c.toNat : Nat), .bool p, .int .i64 ((m : Int))], .string ⟨x.toArray⟩, .int .i64 (m : Nat), .int .i64 8] v fun e w' => e = .returned (.string ⟨(tellE c x m).toArray⟩) ∧ Below v.heap.size v w' from fun v => spread8_fn c p ((m : Int)) (by rw [hc]; rfl) (by rw [hc]; rfl) x (by omega) m (fun j hj => by omega) (by omega) v)
              obtain ⟨tx, htx⟩ : ∃ tx, tx = tellE c x m := ⟨_, rfl⟩
              rw [← htx] at HSP HN
              clear htx
              clear hfit hQ hQe hc hx hoe hxl hQL
              go_wp2_with (first | (go_at_call 83; (with_reducible refine (HSZc.out _).mono ?_); rintro e w3 ⟨rfl, rfl⟩) | (go_at_call 84; (with_reducible refine (HBY.out _).mono ?_); rintro e w3 ⟨rfl, rfl⟩) | (go_at_call 86; (with_reducible refine (HSP.out _).mono ?_); rintro e w4 ⟨rfl, hb4⟩; have HB4 := hid (HBW.out.trans (hb4.mono HBW.out.size)); have HR4 := hid (HROW.out.on hb4); clear hb4) | (at_builtin; refine app_one rfl rfl (.tmp 133) (.tmp 139) rfl w1.heap.size _ _ tx rfl HR4.out rfl (Nat.le_trans hs4 HB4.out.size) (by omega) ?_; intro v9 w9 hr9 hg9 hv9; have HR9 := hid hr9; have HB9 := hid ((HBL.out.trans (HB4.out.mono hs4)).grown hg9 (Nat.le_trans hs4 HB4.out.size) (fun k hk => (HR4.out.lt k hk).2)); clear hr9 hg9 hv9))
              go_roundg (n - (i + 1))
              case measure => omega
              case rel => exact ⟨i + 1, oe, os ++ [tx], by go_num, by go_num, hlt, hle3, by rw [List.length_append]; simp only [List.length_cons, List.length_nil]; omega, HR9.out, HN.out, HB9.out, rfl⟩
      have N98 := hid hc
      clear hc
      by_cases hc : c = 66
      · as_aux_lemma =>
          rcases (show q = -1 ∨ q = -2 ∨ ∃ m : Nat, q = (m : Int) ∧ m ≤ 9999 by
              have h1 := HFO.out.2.2.1
              have h2 := HFO.out.2.2.2.1
              dsimp only at h1 h2
              rcases (show q = -1 ∨ q = -2 ∨ 0 ≤ q by omega) with h | h | h
              · exact .inl h
              · exact .inr (.inl h)
              · exact .inr (.inr ⟨q.toNat, by omega, by omega⟩)) with hq | hq | ⟨m, hq, hm9⟩
          · have y104 : ((c.toNat : Int) == 104) = false := byte_ne (k := 104) 104 (by rw [hc]; decide) rfl
            have y72 : ((c.toNat : Int) == 72) = false := byte_ne (k := 72) 72 (by rw [hc]; decide) rfl
            have y98 : ((c.toNat : Int) == 98) = false := byte_ne (k := 98) 98 (by rw [hc]; decide) rfl
            have y66 : ((c.toNat : Int) == 66) = true := byte_is hc rfl
            have y64 : ((c.toNat : Int) == 64) = false := byte_ne (k := 64) 64 (by rw [hc]; decide) rfl
            have y120 : ((c.toNat : Int) == 120) = false := byte_ne (k := 120) 120 (by rw [hc]; decide) rfl
            have y97 : ((c.toNat : Int) == 97) = false := byte_ne (k := 97) 97 (by rw [hc]; decide) rfl
            have y65 : ((c.toNat : Int) == 65) = false := byte_ne (k := 65) 65 (by rw [hc]; decide) rfl
            have HSZc := hid (show ∀ v, Calls Tryz.prog 83 #[.int .u8 (c.toNat : Nat)] v fun e w' => e = .returned (.int .i64 0) ∧ w' = v from fun v => by have h := HSZ.out v; rw [show widthL c = 0 by rw [hc]; rfl] at h; exact h)
            subst hq
            obtain ⟨Q, hQ⟩ : ∃ Q, Q = lenL c 1 := ⟨_, rfl⟩
            have hQe : Q = (1 + 7) / 8 := by rw [hQ, hc]; rfl
            have HCU := hid (show cntU ⟨c, p, -1⟩ L = 1 by rw [hc]; rfl)
            have HBY := hid (show ∀ v, Calls Tryz.prog 84 #[.int .u8 (c.toNat : Nat), .int .i64 1] v fun e w' => e = .returned (.int .i64 (lenL c 1 : Nat)) ∧ w' = v from fun v => bytesR_fn c (by rw [hc]; rfl) (by rw [hc]; decide) 1 (by omega) v)
            rw [← hQ] at HBY
            have HGO := hid (show unpackGo (⟨c, p, -1⟩ :: l.drop (i + 1)) s at0 os = if L < Q then (os, false) else unpackGo (l.drop (i + 1)) s (at0 + Q) (os ++ [toldE ⟨c, p, -1⟩ 1 ((s.drop at0).take Q)]) by
              rw [unpackGo, if_neg (by simp [hc])]
              dsimp only
              rw [← HLE.out, HCU.out, ← hQ, show takesL c = true by rw [hc]; rfl]
              rfl)
            by_cases hfit : L < Q
            · have hgt : (L : Int) < (Q : Int) := by omega
              have HO := hid (show U = (os, false) by rw [HUN.out, HGO.out, if_pos hfit])
              clear hfit hQ hQe hc
              go_wp2_with (first | (go_at_call 83; (with_reducible refine (HSZc.out _).mono ?_); rintro e w3 ⟨rfl, rfl⟩) | (go_at_call 84; (with_reducible refine (HBY.out _).mono ?_); rintro e w3 ⟨rfl, rfl⟩))
              go_ret3
              exact ⟨_, by rw [HRS.out, HO.out]; rfl, by rw [HRS.out, HO.out]; exact HROW.out.mono HB1.out.size, HB1.out.trans ((HBL.out.trans (HBW.out.mono hs4)).mono HB1.out.size)⟩
            · have hgt : ¬ ((L : Int) < (Q : Int)) := by omega
              obtain ⟨x, hx⟩ : ∃ x, x = (s.drop at0).take Q := ⟨_, rfl⟩
              obtain ⟨oe, hoe⟩ : ∃ oe, oe = at0 + Q := ⟨_, rfl⟩
              have hQL : Q ≤ s.length - at0 := by rw [← HLE.out]; omega
              have hxl : x.length = Q := by rw [hx, List.length_take, List.length_drop]; omega
              have hoeI : (at0 : Int) + (Q : Int) = (oe : Int) := by omega
              have hext : (⟨s.toArray⟩ : ByteArray).extract at0 oe = ⟨x.toArray⟩ := by rw [Lib.extract_mk, hx, hoe, show at0 + Q - at0 = Q by omega]
              have hwoe : IntKind.i64.wrap (oe : Int) = (oe : Int) := IntWalk.i64_in _ (by omega)
              have hle1 : (at0 : Int) ≤ (oe : Int) := by omega
              have hle2 : (oe : Int) ≤ (s.length : Int) := by omega
              have hle3 : oe ≤ s.length := by omega
              have HN := hid (show U = unpackGo (l.drop (i + 1)) s oe (os ++ [tellE c x 1]) by
                rw [HUN.out, HGO.out, if_neg hfit, hoe, ← hx]
                rw [show toldE ⟨c, p, -1⟩ 1 x = tellE c x 1 by rw [hc]; rfl])
              have HSP := hid (show ∀ v, Calls Tryz.prog 86 #[.agg #[.int .u8 (c.toNat : Nat), .bool p, .int .i64 (-1)], .string ⟨x.toArray⟩, .int .i64 1, .int .i64 8] v fun e w' => e = .returned (.string ⟨(tellE c x 1).toArray⟩) ∧ Below v.heap.size v w' from fun v => spread8_fn c p (-1) (by rw [hc]; rfl) (by rw [hc]; rfl) x (by omega) 1 (fun j hj => by omega) (by omega) v)
              obtain ⟨tx, htx⟩ : ∃ tx, tx = tellE c x 1 := ⟨_, rfl⟩
              rw [← htx] at HSP HN
              clear htx
              clear hfit hQ hQe hc hx hoe hxl hQL
              go_wp2_with (first | (go_at_call 83; (with_reducible refine (HSZc.out _).mono ?_); rintro e w3 ⟨rfl, rfl⟩) | (go_at_call 84; (with_reducible refine (HBY.out _).mono ?_); rintro e w3 ⟨rfl, rfl⟩) | (go_at_call 86; (with_reducible refine (HSP.out _).mono ?_); rintro e w4 ⟨rfl, hb4⟩; have HB4 := hid (HBW.out.trans (hb4.mono HBW.out.size)); have HR4 := hid (HROW.out.on hb4); clear hb4) | (at_builtin; refine app_one rfl rfl (.tmp 133) (.tmp 139) rfl w1.heap.size _ _ tx rfl HR4.out rfl (Nat.le_trans hs4 HB4.out.size) (by omega) ?_; intro v9 w9 hr9 hg9 hv9; have HR9 := hid hr9; have HB9 := hid ((HBL.out.trans (HB4.out.mono hs4)).grown hg9 (Nat.le_trans hs4 HB4.out.size) (fun k hk => (HR4.out.lt k hk).2)); clear hr9 hg9 hv9))
              go_roundg (n - (i + 1))
              case measure => omega
              case rel => exact ⟨i + 1, oe, os ++ [tx], by go_num, by go_num, hlt, hle3, by rw [List.length_append]; simp only [List.length_cons, List.length_nil]; omega, HR9.out, HN.out, HB9.out, rfl⟩
          · have y104 : ((c.toNat : Int) == 104) = false := byte_ne (k := 104) 104 (by rw [hc]; decide) rfl
            have y72 : ((c.toNat : Int) == 72) = false := byte_ne (k := 72) 72 (by rw [hc]; decide) rfl
            have y98 : ((c.toNat : Int) == 98) = false := byte_ne (k := 98) 98 (by rw [hc]; decide) rfl
            have y66 : ((c.toNat : Int) == 66) = true := byte_is hc rfl
            have y64 : ((c.toNat : Int) == 64) = false := byte_ne (k := 64) 64 (by rw [hc]; decide) rfl
            have y120 : ((c.toNat : Int) == 120) = false := byte_ne (k := 120) 120 (by rw [hc]; decide) rfl
            have y97 : ((c.toNat : Int) == 97) = false := byte_ne (k := 97) 97 (by rw [hc]; decide) rfl
            have y65 : ((c.toNat : Int) == 65) = false := byte_ne (k := 65) 65 (by rw [hc]; decide) rfl
            have HSZc := hid (show ∀ v, Calls Tryz.prog 83 #[.int .u8 (c.toNat : Nat)] v fun e w' => e = .returned (.int .i64 0) ∧ w' = v from fun v => by have h := HSZ.out v; rw [show widthL c = 0 by rw [hc]; rfl] at h; exact h)
            subst hq
            obtain ⟨N2, hN2⟩ : ∃ N2, N2 = L * 8 := ⟨_, rfl⟩
            have hN2I : (L : Int) * 8 = (N2 : Int) := by omega
            have hwN2 : IntKind.i64.wrap (N2 : Int) = (N2 : Int) := IntWalk.i64_in _ (by omega)
            have HN2 := hid hN2
            have hN29 : N2 ≤ 800000 := by omega
            clear hN2
            have hn2m : ((N2 : Int) == -2) = false := by rw [beq_eq_false_iff_ne]; omega
            obtain ⟨Q, hQ⟩ : ∃ Q, Q = lenL c N2 := ⟨_, rfl⟩
            have hQe : Q = (N2 + 7) / 8 := by rw [hQ, hc]; rfl
            have HCU := hid (show cntU ⟨c, p, -2⟩ L = N2 by rw [hc, HN2.out]; show L * 8 / 1 = L * 8; omega)
            have HBY := hid (show ∀ v, Calls Tryz.prog 84 #[.int .u8 (c.toNat : Nat), .int .i64 (N2 : Nat)] v fun e w' => e = .returned (.int .i64 (lenL c N2 : Nat)) ∧ w' = v from fun v => bytesR_fn c (by rw [hc]; rfl) (by rw [hc]; decide) N2 (by omega) v)
            rw [← hQ] at HBY
            have HGO := hid (show unpackGo (⟨c, p, -2⟩ :: l.drop (i + 1)) s at0 os = if L < Q then (os, false) else unpackGo (l.drop (i + 1)) s (at0 + Q) (os ++ [toldE ⟨c, p, -2⟩ N2 ((s.drop at0).take Q)]) by
              rw [unpackGo, if_neg (by simp [hc])]
              dsimp only
              rw [← HLE.out, HCU.out, ← hQ, show takesL c = true by rw [hc]; rfl]
              rfl)
            by_cases hfit : L < Q
            · have hgt : (L : Int) < (Q : Int) := by omega
              have HO := hid (show U = (os, false) by rw [HUN.out, HGO.out, if_pos hfit])
              clear hfit hQ hQe hc
              go_wp2_with (first | (go_at_call 83; (with_reducible refine (HSZc.out _).mono ?_); rintro e w3 ⟨rfl, rfl⟩) | (go_at_call 84; (with_reducible refine (HBY.out _).mono ?_); rintro e w3 ⟨rfl, rfl⟩))
              go_ret3
              exact ⟨_, by rw [HRS.out, HO.out]; rfl, by rw [HRS.out, HO.out]; exact HROW.out.mono HB1.out.size, HB1.out.trans ((HBL.out.trans (HBW.out.mono hs4)).mono HB1.out.size)⟩
            · have hgt : ¬ ((L : Int) < (Q : Int)) := by omega
              obtain ⟨x, hx⟩ : ∃ x, x = (s.drop at0).take Q := ⟨_, rfl⟩
              obtain ⟨oe, hoe⟩ : ∃ oe, oe = at0 + Q := ⟨_, rfl⟩
              have hQL : Q ≤ s.length - at0 := by rw [← HLE.out]; omega
              have hxl : x.length = Q := by rw [hx, List.length_take, List.length_drop]; omega
              have hoeI : (at0 : Int) + (Q : Int) = (oe : Int) := by omega
              have hext : (⟨s.toArray⟩ : ByteArray).extract at0 oe = ⟨x.toArray⟩ := by rw [Lib.extract_mk, hx, hoe, show at0 + Q - at0 = Q by omega]
              have hwoe : IntKind.i64.wrap (oe : Int) = (oe : Int) := IntWalk.i64_in _ (by omega)
              have hle1 : (at0 : Int) ≤ (oe : Int) := by omega
              have hle2 : (oe : Int) ≤ (s.length : Int) := by omega
              have hle3 : oe ≤ s.length := by omega
              have HN := hid (show U = unpackGo (l.drop (i + 1)) s oe (os ++ [tellE c x N2]) by
                rw [HUN.out, HGO.out, if_neg hfit, hoe, ← hx]
                rw [show toldE ⟨c, p, -2⟩ N2 x = tellE c x N2 by rw [hc]; rfl])
              have HSP := hid (show ∀ v, Calls Tryz.prog 86 #[.agg #[.int .u8 (c.toNat : Nat), .bool p, .int .i64 (-2)], .string ⟨x.toArray⟩, .int .i64 (N2 : Nat), .int .i64 8] v fun e w' => e = .returned (.string ⟨(tellE c x N2).toArray⟩) ∧ Below v.heap.size v w' from fun v => spread8_fn c p (-2) (by rw [hc]; rfl) (by rw [hc]; rfl) x (by omega) N2 (fun j hj => by omega) (by omega) v)
              obtain ⟨tx, htx⟩ : ∃ tx, tx = tellE c x N2 := ⟨_, rfl⟩
              rw [← htx] at HSP HN
              clear htx
              clear hfit hQ hQe hc hx hoe hxl hQL
              go_wp2_with (first | (go_at_call 83; (with_reducible refine (HSZc.out _).mono ?_); rintro e w3 ⟨rfl, rfl⟩) | (go_at_call 84; (with_reducible refine (HBY.out _).mono ?_); rintro e w3 ⟨rfl, rfl⟩) | (go_at_call 86; (with_reducible refine (HSP.out _).mono ?_); rintro e w4 ⟨rfl, hb4⟩; have HB4 := hid (HBW.out.trans (hb4.mono HBW.out.size)); have HR4 := hid (HROW.out.on hb4); clear hb4) | (at_builtin; refine app_one rfl rfl (.tmp 133) (.tmp 139) rfl w1.heap.size _ _ tx rfl HR4.out rfl (Nat.le_trans hs4 HB4.out.size) (by omega) ?_; intro v9 w9 hr9 hg9 hv9; have HR9 := hid hr9; have HB9 := hid ((HBL.out.trans (HB4.out.mono hs4)).grown hg9 (Nat.le_trans hs4 HB4.out.size) (fun k hk => (HR4.out.lt k hk).2)); clear hr9 hg9 hv9))
              go_roundg (n - (i + 1))
              case measure => omega
              case rel => exact ⟨i + 1, oe, os ++ [tx], by go_num, by go_num, hlt, hle3, by rw [List.length_append]; simp only [List.length_cons, List.length_nil]; omega, HR9.out, HN.out, HB9.out, rfl⟩
          · have y104 : ((c.toNat : Int) == 104) = false := byte_ne (k := 104) 104 (by rw [hc]; decide) rfl
            have y72 : ((c.toNat : Int) == 72) = false := byte_ne (k := 72) 72 (by rw [hc]; decide) rfl
            have y98 : ((c.toNat : Int) == 98) = false := byte_ne (k := 98) 98 (by rw [hc]; decide) rfl
            have y66 : ((c.toNat : Int) == 66) = true := byte_is hc rfl
            have y64 : ((c.toNat : Int) == 64) = false := byte_ne (k := 64) 64 (by rw [hc]; decide) rfl
            have y120 : ((c.toNat : Int) == 120) = false := byte_ne (k := 120) 120 (by rw [hc]; decide) rfl
            have y97 : ((c.toNat : Int) == 97) = false := byte_ne (k := 97) 97 (by rw [hc]; decide) rfl
            have y65 : ((c.toNat : Int) == 65) = false := byte_ne (k := 65) 65 (by rw [hc]; decide) rfl
            have HSZc := hid (show ∀ v, Calls Tryz.prog 83 #[.int .u8 (c.toNat : Nat)] v fun e w' => e = .returned (.int .i64 0) ∧ w' = v from fun v => by have h := HSZ.out v; rw [show widthL c = 0 by rw [hc]; rfl] at h; exact h)
            subst hq
            have e1 : ((m : Int) == -1) = false := by rw [beq_eq_false_iff_ne]; omega
            have e2 : ((m : Int) == -2) = false := by rw [beq_eq_false_iff_ne]; omega
            obtain ⟨Q, hQ⟩ : ∃ Q, Q = lenL c m := ⟨_, rfl⟩
            have hQe : Q = (m + 7) / 8 := by rw [hQ, hc]; rfl
            have HCU := hid (show cntU ⟨c, p, (m : Int)⟩ L = m by rw [hc]; rfl)
            have HBY := hid (show ∀ v, Calls Tryz.prog 84 #[.int .u8 (c.toNat : Nat), .int .i64 (m : Nat)] v fun e w' => e = .returned (.int .i64 (lenL c m : Nat)) ∧ w' = v from fun v => bytesR_fn c (by rw [hc]; rfl) (by rw [hc]; decide) m (by omega) v)
            rw [← hQ] at HBY
            have HGO := hid (show unpackGo (⟨c, p, (m : Int)⟩ :: l.drop (i + 1)) s at0 os = if L < Q then (os, false) else unpackGo (l.drop (i + 1)) s (at0 + Q) (os ++ [toldE ⟨c, p, (m : Int)⟩ m ((s.drop at0).take Q)]) by
              rw [unpackGo, if_neg (by simp [hc])]
              dsimp only
              rw [← HLE.out, HCU.out, ← hQ, show takesL c = true by rw [hc]; rfl]
              rfl)
            by_cases hfit : L < Q
            · have hgt : (L : Int) < (Q : Int) := by omega
              have HO := hid (show U = (os, false) by rw [HUN.out, HGO.out, if_pos hfit])
              clear hfit hQ hQe hc
              go_wp2_with (first | (go_at_call 83; (with_reducible refine (HSZc.out _).mono ?_); rintro e w3 ⟨rfl, rfl⟩) | (go_at_call 84; (with_reducible refine (HBY.out _).mono ?_); rintro e w3 ⟨rfl, rfl⟩))
              go_ret3
              exact ⟨_, by rw [HRS.out, HO.out]; rfl, by rw [HRS.out, HO.out]; exact HROW.out.mono HB1.out.size, HB1.out.trans ((HBL.out.trans (HBW.out.mono hs4)).mono HB1.out.size)⟩
            · have hgt : ¬ ((L : Int) < (Q : Int)) := by omega
              obtain ⟨x, hx⟩ : ∃ x, x = (s.drop at0).take Q := ⟨_, rfl⟩
              obtain ⟨oe, hoe⟩ : ∃ oe, oe = at0 + Q := ⟨_, rfl⟩
              have hQL : Q ≤ s.length - at0 := by rw [← HLE.out]; omega
              have hxl : x.length = Q := by rw [hx, List.length_take, List.length_drop]; omega
              have hoeI : (at0 : Int) + (Q : Int) = (oe : Int) := by omega
              have hext : (⟨s.toArray⟩ : ByteArray).extract at0 oe = ⟨x.toArray⟩ := by rw [Lib.extract_mk, hx, hoe, show at0 + Q - at0 = Q by omega]
              have hwoe : IntKind.i64.wrap (oe : Int) = (oe : Int) := IntWalk.i64_in _ (by omega)
              have hle1 : (at0 : Int) ≤ (oe : Int) := by omega
              have hle2 : (oe : Int) ≤ (s.length : Int) := by omega
              have hle3 : oe ≤ s.length := by omega
              have HN := hid (show U = unpackGo (l.drop (i + 1)) s oe (os ++ [tellE c x m]) by
                rw [HUN.out, HGO.out, if_neg hfit, hoe, ← hx]
                rw [show toldE ⟨c, p, (m : Int)⟩ m x = tellE c x m by rw [hc]; rfl])
              have HSP := hid (show ∀ v, Calls Tryz.prog 86 #[.agg #[.int .u8 (c.toNat : Nat), .bool p, .int .i64 ((m : Int))], .string ⟨x.toArray⟩, .int .i64 (m : Nat), .int .i64 8] v fun e w' => e = .returned (.string ⟨(tellE c x m).toArray⟩) ∧ Below v.heap.size v w' from fun v => spread8_fn c p ((m : Int)) (by rw [hc]; rfl) (by rw [hc]; rfl) x (by omega) m (fun j hj => by omega) (by omega) v)
              obtain ⟨tx, htx⟩ : ∃ tx, tx = tellE c x m := ⟨_, rfl⟩
              rw [← htx] at HSP HN
              clear htx
              clear hfit hQ hQe hc hx hoe hxl hQL
              go_wp2_with (first | (go_at_call 83; (with_reducible refine (HSZc.out _).mono ?_); rintro e w3 ⟨rfl, rfl⟩) | (go_at_call 84; (with_reducible refine (HBY.out _).mono ?_); rintro e w3 ⟨rfl, rfl⟩) | (go_at_call 86; (with_reducible refine (HSP.out _).mono ?_); rintro e w4 ⟨rfl, hb4⟩; have HB4 := hid (HBW.out.trans (hb4.mono HBW.out.size)); have HR4 := hid (HROW.out.on hb4); clear hb4) | (at_builtin; refine app_one rfl rfl (.tmp 133) (.tmp 139) rfl w1.heap.size _ _ tx rfl HR4.out rfl (Nat.le_trans hs4 HB4.out.size) (by omega) ?_; intro v9 w9 hr9 hg9 hv9; have HR9 := hid hr9; have HB9 := hid ((HBL.out.trans (HB4.out.mono hs4)).grown hg9 (Nat.le_trans hs4 HB4.out.size) (fun k hk => (HR4.out.lt k hk).2)); clear hr9 hg9 hv9))
              go_roundg (n - (i + 1))
              case measure => omega
              case rel => exact ⟨i + 1, oe, os ++ [tx], by go_num, by go_num, hlt, hle3, by rw [List.length_append]; simp only [List.length_cons, List.length_nil]; omega, HR9.out, HN.out, HB9.out, rfl⟩
      have N66 := hid hc
      clear hc
      by_cases hc : c = 64
      · as_aux_lemma =>
          rcases (show q = -1 ∨ q = -2 ∨ ∃ m : Nat, q = (m : Int) ∧ m ≤ 9999 by
              have h1 := HFO.out.2.2.1
              have h2 := HFO.out.2.2.2.1
              dsimp only at h1 h2
              rcases (show q = -1 ∨ q = -2 ∨ 0 ≤ q by omega) with h | h | h
              · exact .inl h
              · exact .inr (.inl h)
              · exact .inr (.inr ⟨q.toNat, by omega, by omega⟩)) with hq | hq | ⟨m, hq, hm9⟩
          · exact absurd hq (HFO.out.2.2.2.2 hc)
          · have y104 : ((c.toNat : Int) == 104) = false := byte_ne (k := 104) 104 (by rw [hc]; decide) rfl
            have y72 : ((c.toNat : Int) == 72) = false := byte_ne (k := 72) 72 (by rw [hc]; decide) rfl
            have y98 : ((c.toNat : Int) == 98) = false := byte_ne (k := 98) 98 (by rw [hc]; decide) rfl
            have y66 : ((c.toNat : Int) == 66) = false := byte_ne (k := 66) 66 (by rw [hc]; decide) rfl
            have y64 : ((c.toNat : Int) == 64) = true := byte_is hc rfl
            have y120 : ((c.toNat : Int) == 120) = false := byte_ne (k := 120) 120 (by rw [hc]; decide) rfl
            have y97 : ((c.toNat : Int) == 97) = false := byte_ne (k := 97) 97 (by rw [hc]; decide) rfl
            have y65 : ((c.toNat : Int) == 65) = false := byte_ne (k := 65) 65 (by rw [hc]; decide) rfl
            subst hq
            have hnn : ¬ ((s.length : Int) < (s.length : Int)) := by omega
            have HN := hid (show U = unpackGo (l.drop (i + 1)) s s.length os by
              rw [HUN.out, unpackGo]
              dsimp only
              rw [hc, if_pos (by decide : ((64 : UInt8) == 64) = true), if_pos rfl, if_neg (Nat.lt_irrefl _)])
            clear hc
            go_wp2
            go_roundg (n - (i + 1))
            case measure => omega
            case rel => exact ⟨i + 1, s.length, os, by go_num, by go_num, hlt, Nat.le_refl _, by omega, HROW.out, HN.out, HBL.out.trans (HBW.out.mono hs4), rfl⟩
          · have y104 : ((c.toNat : Int) == 104) = false := byte_ne (k := 104) 104 (by rw [hc]; decide) rfl
            have y72 : ((c.toNat : Int) == 72) = false := byte_ne (k := 72) 72 (by rw [hc]; decide) rfl
            have y98 : ((c.toNat : Int) == 98) = false := byte_ne (k := 98) 98 (by rw [hc]; decide) rfl
            have y66 : ((c.toNat : Int) == 66) = false := byte_ne (k := 66) 66 (by rw [hc]; decide) rfl
            have y64 : ((c.toNat : Int) == 64) = true := byte_is hc rfl
            have y120 : ((c.toNat : Int) == 120) = false := byte_ne (k := 120) 120 (by rw [hc]; decide) rfl
            have y97 : ((c.toNat : Int) == 97) = false := byte_ne (k := 97) 97 (by rw [hc]; decide) rfl
            have y65 : ((c.toNat : Int) == 65) = false := byte_ne (k := 65) 65 (by rw [hc]; decide) rfl
            subst hq
            have e1 : ((m : Int) == -1) = false := by rw [beq_eq_false_iff_ne]; omega
            have e2 : ((m : Int) == -2) = false := by rw [beq_eq_false_iff_ne]; omega
            have HGO := hid (show U = if s.length < m then (os, false) else unpackGo (l.drop (i + 1)) s m os by
              rw [HUN.out, unpackGo]
              dsimp only
              rw [hc, if_pos (by decide : ((64 : UInt8) == 64) = true), if_neg (by omega : ¬ (m : Int) = -2), Int.toNat_natCast])
            clear hc
            by_cases hfit : s.length < m
            · have hgt : (s.length : Int) < (m : Int) := by omega
              have HO := hid (HGO.out.trans (if_pos hfit))
              clear hfit
              go_wp2
              go_ret3
              exact ⟨_, by rw [HRS.out, HO.out]; rfl, by rw [HRS.out, HO.out]; exact HROW.out.mono HB1.out.size, HB1.out.trans ((HBL.out.trans (HBW.out.mono hs4)).mono HB1.out.size)⟩
            · have hgt : ¬ ((s.length : Int) < (m : Int)) := by omega
              have HN := hid (HGO.out.trans (if_neg hfit))
              clear hfit
              go_wp2
              go_roundg (n - (i + 1))
              case measure => omega
              case rel => exact ⟨i + 1, m, os, by go_num, by go_num, hlt, by omega, by omega, HROW.out, HN.out, HBL.out.trans (HBW.out.mono hs4), rfl⟩
      have N64 := hid hc
      clear hc
      have HNC := hid (num_class HFO.out.1 N64.out N120.out N97.out N65.out N104.out N72.out N98.out N66.out)
      as_aux_lemma =>
        rcases (show q = -1 ∨ q = -2 ∨ ∃ m : Nat, q = (m : Int) ∧ m ≤ 9999 by
            have h1 := HFO.out.2.2.1
            have h2 := HFO.out.2.2.2.1
            dsimp only at h1 h2
            rcases (show q = -1 ∨ q = -2 ∨ 0 ≤ q by omega) with h | h | h
            · exact .inl h
            · exact .inr (.inl h)
            · exact .inr (.inr ⟨q.toNat, by omega, by omega⟩)) with hq | hq | ⟨m, hq, hm9⟩
        · have y104 : ((c.toNat : Int) == 104) = false := byte_ne (k := 104) 104 N104.out rfl
          have y72 : ((c.toNat : Int) == 72) = false := byte_ne (k := 72) 72 N72.out rfl
          have y98 : ((c.toNat : Int) == 98) = false := byte_ne (k := 98) 98 N98.out rfl
          have y66 : ((c.toNat : Int) == 66) = false := byte_ne (k := 66) 66 N66.out rfl
          have y64 : ((c.toNat : Int) == 64) = false := byte_ne (k := 64) 64 N64.out rfl
          have y120 : ((c.toNat : Int) == 120) = false := byte_ne (k := 120) 120 N120.out rfl
          have y97 : ((c.toNat : Int) == 97) = false := byte_ne (k := 97) 97 N97.out rfl
          have y65 : ((c.toNat : Int) == 65) = false := byte_ne (k := 65) 65 N65.out rfl
          subst hq
          obtain ⟨K, hK⟩ : ∃ K, K = widthL c := ⟨_, rfl⟩
          have hK1 : 1 ≤ K := by rw [hK]; exact HNC.out.1
          have hK8 : K ≤ 8 := by rw [hK]; unfold widthL; split <;> (try split) <;> (try split) <;> (try split) <;> omega
          have HKE := hid hK
          have HSZc := hid (show ∀ v, Calls Tryz.prog 83 #[.int .u8 (c.toNat : Nat)] v fun e w' => e = .returned (.int .i64 (K : Nat)) ∧ w' = v from fun v => by rw [hK]; exact HSZ.out v)
          clear hK
          have hK0 : (0 : Int) < (K : Int) := by omega
          have hKz : ((K : Int) == 0) = false := by rw [beq_eq_false_iff_ne]; omega
          have hKn : ¬ (K : Int) = 0 := by omega
          obtain ⟨Q, hQ⟩ : ∃ Q, Q = lenL c 1 := ⟨_, rfl⟩
          have e64 : (c == 64) = false := beq_eq_false_iff_ne.2 N64.out
          have e120 : (c == 120) = false := beq_eq_false_iff_ne.2 N120.out
          have e97 : (c == 97) = false := beq_eq_false_iff_ne.2 N97.out
          have e65 : (c == 65) = false := beq_eq_false_iff_ne.2 N65.out
          have hQe : Q = K * 1 := by rw [hQ]; unfold lenL; rw [beq_eq_false_iff_ne.2 N104.out, beq_eq_false_iff_ne.2 N72.out, beq_eq_false_iff_ne.2 N98.out, beq_eq_false_iff_ne.2 N66.out, if_neg (by simp), if_neg (by simp), ← HKE.out, Nat.max_eq_right hK1]
          have HCU := hid (show cntU ⟨c, p, -1⟩ L = 1 by unfold cntU; dsimp only; rw [if_neg (by decide)]; rfl)
          have HBY := hid (show ∀ v, Calls Tryz.prog 84 #[.int .u8 (c.toNat : Nat), .int .i64 1] v fun e w' => e = .returned (.int .i64 (lenL c 1 : Nat)) ∧ w' = v from fun v => bytesR_fn c HFO.out.1 N64.out 1 (by omega) v)
          rw [← hQ] at HBY
          have HGO := hid (show unpackGo (⟨c, p, -1⟩ :: l.drop (i + 1)) s at0 os = if L < Q then (os, false) else unpackGo (l.drop (i + 1)) s (at0 + Q) (os ++ [toldE ⟨c, p, -1⟩ 1 ((s.drop at0).take Q)]) by
            rw [unpackGo]
            dsimp only
            rw [e64, if_neg (by simp), ← HLE.out, HCU.out, ← hQ, show takesL c = true by unfold takesL; rw [bne, bne, e120, e64]; rfl]
            rfl)
          by_cases hfit : L < Q
          · have hgt : (L : Int) < (Q : Int) := by omega
            have HO := hid (show U = (os, false) by rw [HUN.out, HGO.out, if_pos hfit])
            clear hfit hQ hQe e64 e120 e97 e65
            go_wp2_with (first | (go_at_call 83; (with_reducible refine (HSZc.out _).mono ?_); rintro e w3 ⟨rfl, rfl⟩) | (go_at_call 84; (with_reducible refine (HBY.out _).mono ?_); rintro e w3 ⟨rfl, rfl⟩))
            go_ret3
            exact ⟨_, by rw [HRS.out, HO.out]; rfl, by rw [HRS.out, HO.out]; exact HROW.out.mono HB1.out.size, HB1.out.trans ((HBL.out.trans (HBW.out.mono hs4)).mono HB1.out.size)⟩
          · have hgt : ¬ ((L : Int) < (Q : Int)) := by omega
            obtain ⟨x, hx⟩ : ∃ x, x = (s.drop at0).take Q := ⟨_, rfl⟩
            obtain ⟨oe, hoe⟩ : ∃ oe, oe = at0 + Q := ⟨_, rfl⟩
            have hQL : Q ≤ s.length - at0 := by rw [← HLE.out]; omega
            have hxl : x.length = Q := by rw [hx, List.length_take, List.length_drop]; omega
            have hoeI : (at0 : Int) + (Q : Int) = (oe : Int) := by omega
            have hext : (⟨s.toArray⟩ : ByteArray).extract at0 oe = ⟨x.toArray⟩ := by rw [Lib.extract_mk, hx, hoe, show at0 + Q - at0 = Q by omega]
            have hwoe : IntKind.i64.wrap (oe : Int) = (oe : Int) := IntWalk.i64_in _ (by omega)
            have hle1 : (at0 : Int) ≤ (oe : Int) := by omega
            have hle2 : (oe : Int) ≤ (s.length : Int) := by omega
            have hle3 : oe ≤ s.length := by omega
            obtain ⟨tx, htx⟩ : ∃ tx, tx = joinB (numsU c p K x 1) := ⟨_, rfl⟩
            have HN := hid (show U = unpackGo (l.drop (i + 1)) s oe (os ++ [tx]) by
              rw [HUN.out, HGO.out, if_neg hfit, hoe, ← hx]
              rw [show toldE ⟨c, p, -1⟩ 1 x = tx by unfold toldE; dsimp only; rw [e97, e120, e65, if_neg (by simp), if_neg (by simp), HNC.out.2.1, if_neg (by simp), ← HKE.out, numsU_all, htx]])
            have HUP := hid (show ∀ v, Tab v → Calls Tryz.prog 87 #[.agg #[.int .u8 (c.toNat : Nat), .bool p, .int .i64 (-1)], .string ⟨x.toArray⟩] v fun e w' => e = .returned (.string ⟨tx.toArray⟩) ∧ Below v.heap.size v w' from fun v hv => by
              have h := unpackedR_fn c p (-1) HNC.out.1 HNC.out.2.2 x 1 (by rw [hxl, hQe, HKE.out]) (by omega) (by rw [hxl]; omega) v hv
              rw [← HKE.out, ← htx] at h
              exact h)
            clear hfit hQ hQe hx hoe hxl hQL htx e64 e120 e97 e65
            have HTW := hid (show Tab (wr.alloc (.cells #[.int .u8 (c.toNat : Nat), .bool p, .int .i64 (-1)] 103)) from HT.out.below (HB1.out.trans ((HBL.out.trans (HBW.out.mono hs4)).mono HB1.out.size)))
            go_wp2_with (first | (go_at_call 83; (with_reducible refine (HSZc.out _).mono ?_); rintro e w3 ⟨rfl, rfl⟩) | (go_at_call 84; (with_reducible refine (HBY.out _).mono ?_); rintro e w3 ⟨rfl, rfl⟩) | (go_at_call 87; (with_reducible refine (HUP.out _ HTW.out).mono ?_); rintro e w4 ⟨rfl, hb4⟩; have HB4 := hid (HBW.out.trans (hb4.mono HBW.out.size)); have HR4 := hid (HROW.out.on hb4); clear hb4) | (at_builtin; refine app_one rfl rfl (.tmp 107) (.tmp 111) rfl w1.heap.size _ _ tx rfl HR4.out rfl (Nat.le_trans hs4 HB4.out.size) (by omega) ?_; intro v9 w9 hr9 hg9 hv9; have HR9 := hid hr9; have HB9 := hid ((HBL.out.trans (HB4.out.mono hs4)).grown hg9 (Nat.le_trans hs4 HB4.out.size) (fun k hk => (HR4.out.lt k hk).2)); clear hr9 hg9 hv9))
            go_roundg (n - (i + 1))
            case measure => omega
            case rel => exact ⟨i + 1, oe, os ++ [tx], by go_num, by go_num, hlt, hle3, by rw [List.length_append]; simp only [List.length_cons, List.length_nil]; omega, HR9.out, HN.out, HB9.out, rfl⟩
        · have y104 : ((c.toNat : Int) == 104) = false := byte_ne (k := 104) 104 N104.out rfl
          have y72 : ((c.toNat : Int) == 72) = false := byte_ne (k := 72) 72 N72.out rfl
          have y98 : ((c.toNat : Int) == 98) = false := byte_ne (k := 98) 98 N98.out rfl
          have y66 : ((c.toNat : Int) == 66) = false := byte_ne (k := 66) 66 N66.out rfl
          have y64 : ((c.toNat : Int) == 64) = false := byte_ne (k := 64) 64 N64.out rfl
          have y120 : ((c.toNat : Int) == 120) = false := byte_ne (k := 120) 120 N120.out rfl
          have y97 : ((c.toNat : Int) == 97) = false := byte_ne (k := 97) 97 N97.out rfl
          have y65 : ((c.toNat : Int) == 65) = false := byte_ne (k := 65) 65 N65.out rfl
          subst hq
          obtain ⟨K, hK⟩ : ∃ K, K = widthL c := ⟨_, rfl⟩
          have hK1 : 1 ≤ K := by rw [hK]; exact HNC.out.1
          have hK8 : K ≤ 8 := by rw [hK]; unfold widthL; split <;> (try split) <;> (try split) <;> (try split) <;> omega
          have HKE := hid hK
          have HSZc := hid (show ∀ v, Calls Tryz.prog 83 #[.int .u8 (c.toNat : Nat)] v fun e w' => e = .returned (.int .i64 (K : Nat)) ∧ w' = v from fun v => by rw [hK]; exact HSZ.out v)
          clear hK
          have hK0 : (0 : Int) < (K : Int) := by omega
          have hKz : ((K : Int) == 0) = false := by rw [beq_eq_false_iff_ne]; omega
          have hKn : ¬ (K : Int) = 0 := by omega
          obtain ⟨N2, hN2⟩ : ∃ N2, N2 = L / K := ⟨_, rfl⟩
          have hN2I : Int.tdiv (L : Int) (K : Int) = (N2 : Int) := by rw [hN2]; rfl
          have hN29 : N2 ≤ 100000 := by rw [hN2]; exact Nat.le_trans (Nat.div_le_self _ _) hL9
          have hwN2 : IntKind.i64.wrap (N2 : Int) = (N2 : Int) := IntWalk.i64_in _ (by omega)
          have HN2 := hid hN2
          clear hN2
          have hn2m : ((N2 : Int) == -2) = false := by rw [beq_eq_false_iff_ne]; omega
          obtain ⟨Q, hQ⟩ : ∃ Q, Q = lenL c N2 := ⟨_, rfl⟩
          have e64 : (c == 64) = false := beq_eq_false_iff_ne.2 N64.out
          have e120 : (c == 120) = false := beq_eq_false_iff_ne.2 N120.out
          have e97 : (c == 97) = false := beq_eq_false_iff_ne.2 N97.out
          have e65 : (c == 65) = false := beq_eq_false_iff_ne.2 N65.out
          have hQe : Q = K * N2 := by rw [hQ]; unfold lenL; rw [beq_eq_false_iff_ne.2 N104.out, beq_eq_false_iff_ne.2 N72.out, beq_eq_false_iff_ne.2 N98.out, beq_eq_false_iff_ne.2 N66.out, if_neg (by simp), if_neg (by simp), ← HKE.out, Nat.max_eq_right hK1]
          have HCU := hid (show cntU ⟨c, p, -2⟩ L = N2 by unfold cntU; dsimp only; rw [if_pos rfl, e120, if_neg (by simp), HNC.out.2.1, if_neg (by simp), ← HKE.out, Nat.max_eq_right hK1, HN2.out])
          have HBY := hid (show ∀ v, Calls Tryz.prog 84 #[.int .u8 (c.toNat : Nat), .int .i64 (N2 : Nat)] v fun e w' => e = .returned (.int .i64 (lenL c N2 : Nat)) ∧ w' = v from fun v => bytesR_fn c HFO.out.1 N64.out N2 (by omega) v)
          rw [← hQ] at HBY
          have HGO := hid (show unpackGo (⟨c, p, -2⟩ :: l.drop (i + 1)) s at0 os = if L < Q then (os, false) else unpackGo (l.drop (i + 1)) s (at0 + Q) (os ++ [toldE ⟨c, p, -2⟩ N2 ((s.drop at0).take Q)]) by
            rw [unpackGo]
            dsimp only
            rw [e64, if_neg (by simp), ← HLE.out, HCU.out, ← hQ, show takesL c = true by unfold takesL; rw [bne, bne, e120, e64]; rfl]
            rfl)
          by_cases hfit : L < Q
          · have hgt : (L : Int) < (Q : Int) := by omega
            have HO := hid (show U = (os, false) by rw [HUN.out, HGO.out, if_pos hfit])
            clear hfit hQ hQe e64 e120 e97 e65
            go_wp2_with (first | (go_at_call 83; (with_reducible refine (HSZc.out _).mono ?_); rintro e w3 ⟨rfl, rfl⟩) | (go_at_call 84; (with_reducible refine (HBY.out _).mono ?_); rintro e w3 ⟨rfl, rfl⟩))
            go_ret3
            exact ⟨_, by rw [HRS.out, HO.out]; rfl, by rw [HRS.out, HO.out]; exact HROW.out.mono HB1.out.size, HB1.out.trans ((HBL.out.trans (HBW.out.mono hs4)).mono HB1.out.size)⟩
          · have hgt : ¬ ((L : Int) < (Q : Int)) := by omega
            obtain ⟨x, hx⟩ : ∃ x, x = (s.drop at0).take Q := ⟨_, rfl⟩
            obtain ⟨oe, hoe⟩ : ∃ oe, oe = at0 + Q := ⟨_, rfl⟩
            have hQL : Q ≤ s.length - at0 := by rw [← HLE.out]; omega
            have hxl : x.length = Q := by rw [hx, List.length_take, List.length_drop]; omega
            have hoeI : (at0 : Int) + (Q : Int) = (oe : Int) := by omega
            have hext : (⟨s.toArray⟩ : ByteArray).extract at0 oe = ⟨x.toArray⟩ := by rw [Lib.extract_mk, hx, hoe, show at0 + Q - at0 = Q by omega]
            have hwoe : IntKind.i64.wrap (oe : Int) = (oe : Int) := IntWalk.i64_in _ (by omega)
            have hle1 : (at0 : Int) ≤ (oe : Int) := by omega
            have hle2 : (oe : Int) ≤ (s.length : Int) := by omega
            have hle3 : oe ≤ s.length := by omega
            obtain ⟨tx, htx⟩ : ∃ tx, tx = joinB (numsU c p K x N2) := ⟨_, rfl⟩
            have HN := hid (show U = unpackGo (l.drop (i + 1)) s oe (os ++ [tx]) by
              rw [HUN.out, HGO.out, if_neg hfit, hoe, ← hx]
              rw [show toldE ⟨c, p, -2⟩ N2 x = tx by unfold toldE; dsimp only; rw [e97, e120, e65, if_neg (by simp), if_neg (by simp), HNC.out.2.1, if_neg (by simp), ← HKE.out, numsU_all, htx]])
            have HUP := hid (show ∀ v, Tab v → Calls Tryz.prog 87 #[.agg #[.int .u8 (c.toNat : Nat), .bool p, .int .i64 (-2)], .string ⟨x.toArray⟩] v fun e w' => e = .returned (.string ⟨tx.toArray⟩) ∧ Below v.heap.size v w' from fun v hv => by
              have h := unpackedR_fn c p (-2) HNC.out.1 HNC.out.2.2 x N2 (by rw [hxl, hQe, HKE.out]) (by omega) (by rw [hxl]; omega) v hv
              rw [← HKE.out, ← htx] at h
              exact h)
            clear hfit hQ hQe hx hoe hxl hQL htx e64 e120 e97 e65
            have HTW := hid (show Tab (wr.alloc (.cells #[.int .u8 (c.toNat : Nat), .bool p, .int .i64 (-2)] 103)) from HT.out.below (HB1.out.trans ((HBL.out.trans (HBW.out.mono hs4)).mono HB1.out.size)))
            go_wp2_with (first | (go_at_call 83; (with_reducible refine (HSZc.out _).mono ?_); rintro e w3 ⟨rfl, rfl⟩) | (go_at_call 84; (with_reducible refine (HBY.out _).mono ?_); rintro e w3 ⟨rfl, rfl⟩) | (go_at_call 87; (with_reducible refine (HUP.out _ HTW.out).mono ?_); rintro e w4 ⟨rfl, hb4⟩; have HB4 := hid (HBW.out.trans (hb4.mono HBW.out.size)); have HR4 := hid (HROW.out.on hb4); clear hb4) | (at_builtin; refine app_one rfl rfl (.tmp 107) (.tmp 111) rfl w1.heap.size _ _ tx rfl HR4.out rfl (Nat.le_trans hs4 HB4.out.size) (by omega) ?_; intro v9 w9 hr9 hg9 hv9; have HR9 := hid hr9; have HB9 := hid ((HBL.out.trans (HB4.out.mono hs4)).grown hg9 (Nat.le_trans hs4 HB4.out.size) (fun k hk => (HR4.out.lt k hk).2)); clear hr9 hg9 hv9))
            go_roundg (n - (i + 1))
            case measure => omega
            case rel => exact ⟨i + 1, oe, os ++ [tx], by go_num, by go_num, hlt, hle3, by rw [List.length_append]; simp only [List.length_cons, List.length_nil]; omega, HR9.out, HN.out, HB9.out, rfl⟩
        · have y104 : ((c.toNat : Int) == 104) = false := byte_ne (k := 104) 104 N104.out rfl
          have y72 : ((c.toNat : Int) == 72) = false := byte_ne (k := 72) 72 N72.out rfl
          have y98 : ((c.toNat : Int) == 98) = false := byte_ne (k := 98) 98 N98.out rfl
          have y66 : ((c.toNat : Int) == 66) = false := byte_ne (k := 66) 66 N66.out rfl
          have y64 : ((c.toNat : Int) == 64) = false := byte_ne (k := 64) 64 N64.out rfl
          have y120 : ((c.toNat : Int) == 120) = false := byte_ne (k := 120) 120 N120.out rfl
          have y97 : ((c.toNat : Int) == 97) = false := byte_ne (k := 97) 97 N97.out rfl
          have y65 : ((c.toNat : Int) == 65) = false := byte_ne (k := 65) 65 N65.out rfl
          subst hq
          obtain ⟨K, hK⟩ : ∃ K, K = widthL c := ⟨_, rfl⟩
          have hK1 : 1 ≤ K := by rw [hK]; exact HNC.out.1
          have hK8 : K ≤ 8 := by rw [hK]; unfold widthL; split <;> (try split) <;> (try split) <;> (try split) <;> omega
          have HKE := hid hK
          have HSZc := hid (show ∀ v, Calls Tryz.prog 83 #[.int .u8 (c.toNat : Nat)] v fun e w' => e = .returned (.int .i64 (K : Nat)) ∧ w' = v from fun v => by rw [hK]; exact HSZ.out v)
          clear hK
          have hK0 : (0 : Int) < (K : Int) := by omega
          have hKz : ((K : Int) == 0) = false := by rw [beq_eq_false_iff_ne]; omega
          have hKn : ¬ (K : Int) = 0 := by omega
          have e1 : ((m : Int) == -1) = false := by rw [beq_eq_false_iff_ne]; omega
          have e2 : ((m : Int) == -2) = false := by rw [beq_eq_false_iff_ne]; omega
          obtain ⟨Q, hQ⟩ : ∃ Q, Q = lenL c m := ⟨_, rfl⟩
          have e64 : (c == 64) = false := beq_eq_false_iff_ne.2 N64.out
          have e120 : (c == 120) = false := beq_eq_false_iff_ne.2 N120.out
          have e97 : (c == 97) = false := beq_eq_false_iff_ne.2 N97.out
          have e65 : (c == 65) = false := beq_eq_false_iff_ne.2 N65.out
          have hQe : Q = K * m := by rw [hQ]; unfold lenL; rw [beq_eq_false_iff_ne.2 N104.out, beq_eq_false_iff_ne.2 N72.out, beq_eq_false_iff_ne.2 N98.out, beq_eq_false_iff_ne.2 N66.out, if_neg (by simp), if_neg (by simp), ← HKE.out, Nat.max_eq_right hK1]
          have HCU := hid (show cntU ⟨c, p, (m : Int)⟩ L = m by unfold cntU; dsimp only; rw [if_neg (by omega)]; show (if (m : Int) < 0 then 1 else (m : Int).toNat) = m; rw [if_neg (by omega)]; exact Int.toNat_natCast m)
          have HBY := hid (show ∀ v, Calls Tryz.prog 84 #[.int .u8 (c.toNat : Nat), .int .i64 (m : Nat)] v fun e w' => e = .returned (.int .i64 (lenL c m : Nat)) ∧ w' = v from fun v => bytesR_fn c HFO.out.1 N64.out m (by omega) v)
          rw [← hQ] at HBY
          have HGO := hid (show unpackGo (⟨c, p, (m : Int)⟩ :: l.drop (i + 1)) s at0 os = if L < Q then (os, false) else unpackGo (l.drop (i + 1)) s (at0 + Q) (os ++ [toldE ⟨c, p, (m : Int)⟩ m ((s.drop at0).take Q)]) by
            rw [unpackGo]
            dsimp only
            rw [e64, if_neg (by simp), ← HLE.out, HCU.out, ← hQ, show takesL c = true by unfold takesL; rw [bne, bne, e120, e64]; rfl]
            rfl)
          by_cases hfit : L < Q
          · have hgt : (L : Int) < (Q : Int) := by omega
            have HO := hid (show U = (os, false) by rw [HUN.out, HGO.out, if_pos hfit])
            clear hfit hQ hQe e64 e120 e97 e65
            go_wp2_with (first | (go_at_call 83; (with_reducible refine (HSZc.out _).mono ?_); rintro e w3 ⟨rfl, rfl⟩) | (go_at_call 84; (with_reducible refine (HBY.out _).mono ?_); rintro e w3 ⟨rfl, rfl⟩))
            go_ret3
            exact ⟨_, by rw [HRS.out, HO.out]; rfl, by rw [HRS.out, HO.out]; exact HROW.out.mono HB1.out.size, HB1.out.trans ((HBL.out.trans (HBW.out.mono hs4)).mono HB1.out.size)⟩
          · have hgt : ¬ ((L : Int) < (Q : Int)) := by omega
            obtain ⟨x, hx⟩ : ∃ x, x = (s.drop at0).take Q := ⟨_, rfl⟩
            obtain ⟨oe, hoe⟩ : ∃ oe, oe = at0 + Q := ⟨_, rfl⟩
            have hQL : Q ≤ s.length - at0 := by rw [← HLE.out]; omega
            have hxl : x.length = Q := by rw [hx, List.length_take, List.length_drop]; omega
            have hoeI : (at0 : Int) + (Q : Int) = (oe : Int) := by omega
            have hext : (⟨s.toArray⟩ : ByteArray).extract at0 oe = ⟨x.toArray⟩ := by rw [Lib.extract_mk, hx, hoe, show at0 + Q - at0 = Q by omega]
            have hwoe : IntKind.i64.wrap (oe : Int) = (oe : Int) := IntWalk.i64_in _ (by omega)
            have hle1 : (at0 : Int) ≤ (oe : Int) := by omega
            have hle2 : (oe : Int) ≤ (s.length : Int) := by omega
            have hle3 : oe ≤ s.length := by omega
            obtain ⟨tx, htx⟩ : ∃ tx, tx = joinB (numsU c p K x m) := ⟨_, rfl⟩
            have HN := hid (show U = unpackGo (l.drop (i + 1)) s oe (os ++ [tx]) by
              rw [HUN.out, HGO.out, if_neg hfit, hoe, ← hx]
              rw [show toldE ⟨c, p, (m : Int)⟩ m x = tx by unfold toldE; dsimp only; rw [e97, e120, e65, if_neg (by simp), if_neg (by simp), HNC.out.2.1, if_neg (by simp), ← HKE.out, numsU_all, htx]])
            have HUP := hid (show ∀ v, Tab v → Calls Tryz.prog 87 #[.agg #[.int .u8 (c.toNat : Nat), .bool p, .int .i64 ((m : Int))], .string ⟨x.toArray⟩] v fun e w' => e = .returned (.string ⟨tx.toArray⟩) ∧ Below v.heap.size v w' from fun v hv => by
              have h := unpackedR_fn c p ((m : Int)) HNC.out.1 HNC.out.2.2 x m (by rw [hxl, hQe, HKE.out]) (by omega) (by rw [hxl]; omega) v hv
              rw [← HKE.out, ← htx] at h
              exact h)
            clear hfit hQ hQe hx hoe hxl hQL htx e64 e120 e97 e65
            have HTW := hid (show Tab (wr.alloc (.cells #[.int .u8 (c.toNat : Nat), .bool p, .int .i64 ((m : Int))] 103)) from HT.out.below (HB1.out.trans ((HBL.out.trans (HBW.out.mono hs4)).mono HB1.out.size)))
            go_wp2_with (first | (go_at_call 83; (with_reducible refine (HSZc.out _).mono ?_); rintro e w3 ⟨rfl, rfl⟩) | (go_at_call 84; (with_reducible refine (HBY.out _).mono ?_); rintro e w3 ⟨rfl, rfl⟩) | (go_at_call 87; (with_reducible refine (HUP.out _ HTW.out).mono ?_); rintro e w4 ⟨rfl, hb4⟩; have HB4 := hid (HBW.out.trans (hb4.mono HBW.out.size)); have HR4 := hid (HROW.out.on hb4); clear hb4) | (at_builtin; refine app_one rfl rfl (.tmp 107) (.tmp 111) rfl w1.heap.size _ _ tx rfl HR4.out rfl (Nat.le_trans hs4 HB4.out.size) (by omega) ?_; intro v9 w9 hr9 hg9 hv9; have HR9 := hid hr9; have HB9 := hid ((HBL.out.trans (HB4.out.mono hs4)).grown hg9 (Nat.le_trans hs4 HB4.out.size) (fun k hk => (HR4.out.lt k hk).2)); clear hr9 hg9 hv9))
            go_roundg (n - (i + 1))
            case measure => omega
            case rel => exact ⟨i + 1, oe, os ++ [tx], by go_num, by go_num, hlt, hle3, by rw [List.length_append]; simp only [List.length_cons, List.length_nil]; omega, HR9.out, HN.out, HB9.out, rfl⟩
    · obtain rfl : i = n := by omega
      have hnl : ¬ ((i : Int) < (l.length : Int)) := by rw [← HNL.out]; omega
      have HO := hid (show U = (os, true) by
        rw [HUN.out, List.drop_eq_nil_of_le (by rw [← HNL.out]; exact Nat.le_refl _)]
        rfl)
      clear hge hin
      go_wp2
      go_ret3
      exact ⟨_, by rw [HRS.out, HO.out]; rfl, by rw [HRS.out, HO.out]; exact HRO.out.mono HB1.out.size, HB1.out.trans (HBL.out.mono HB1.out.size)⟩
end Go.Proofs.YtihdndaibmgoiaaGreatDoor.Pz
