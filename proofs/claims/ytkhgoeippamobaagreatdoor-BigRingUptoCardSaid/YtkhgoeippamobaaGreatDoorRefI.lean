/-
  The reference: Number.
-/
import Derived.Test.YtkhgoeippamobaaGreatDoorRefH
namespace Go.Proofs.YtkhgoeippamobaaGreatDoor
open Go.RowKit
/-- a number that the reference read: too long ones may be cut -/
def PRef (w : World) (base : Nat) (v : Value) (z : Int) : Prop := ∃ z', OwnDNum w base v z' ∧ dlen 10 z'.natAbs ≤ 2002000 ∧ (z' = z ∨ (big600 ≤ z'.natAbs ∧ big600 ≤ z.natAbs ∧ decide (z' < 0) = decide (z < 0)))
/-- what 'Number' answers -/
def NumP (l : List UInt8) (w : World) (e : Ending) (w' : World) : Prop :=
  ∃ v, e = .returned (.tuple #[v, .bool (pOK l)]) ∧ Below w.heap.size w w' ∧ (pOK l = true → PRef w' w.heap.size v (pVal l)) ∧ (∃ g s n c, v = .agg #[.bool g, .slice s n c])
/-- the first byte, 0 for none -/
def b0 (S : List UInt8) : Nat := (S.headD 0).toNat
set_option maxRecDepth 100000 in
set_option maxHeartbeats 4000000 in
theorem number_fn (l : List UInt8) (hl : l.length ≤ 2000000) (w : World) :
    Calls Tryz.prog 63 #[.string ⟨l.toArray⟩] w (NumP l w) := by
  have k0 := Blk.new w #[.bool false, .slice none 0 0] 56
  have hb0 : Below w.heap.size w (w.alloc (.cells #[.bool false, .slice none 0 0] 56)) := (Below.refl _ _).alloc (Nat.le_refl _) _
  have hsz0 : (w.alloc (.cells #[.bool false, .slice none 0 0] 56)).heap.size = w.heap.size + 1 := by simp
  have hc := fun w => hid (strip_fn l (by omega) w)
  have hS : (strip l).length ≤ 2000000 := Nat.le_trans (strip_len l) hl
  go_enter Tryz.func63, Tryz.ntmps63
  go_upto_region 3 with (first | fail | (with_reducible refine (hc _).out.mono ?_); rintro e w' ⟨rfl, rfl⟩)
  generalize w.alloc (.cells #[.bool false, .slice none 0 0] 56) = W at *
  clear hc
  generalize hSS : strip l = S at *
  have hSS := hid hSS
  go_cut [21] from 10 to 21 (fun v wx => v = .bool (([45] : List UInt8).isPrefixOf S || ([43] : List UInt8).isPrefixOf S) ∧ W = wx)
  case first =>
    cases S with
    | nil =>
      go_wp2
      go_meet
      case rel => exact ⟨rfl, rfl⟩
    | cons x T =>
      have h1 : (⟨(x :: T).toArray⟩ : ByteArray).size = T.length + 1 := by rw [Lib.size_mk]; simp
      have hx : ∀ h, (⟨(x :: T).toArray⟩ : ByteArray)[0]'h = x := fun h => rfl
      have hne : (x :: T == ([] : List UInt8)) = false := rfl
      have hT : T.length ≤ 1999999 := by simpa using hS
      have hpre : (([45] : List UInt8).isPrefixOf (x :: T) || ([43] : List UInt8).isPrefixOf (x :: T)) = ((45 == x) || (43 == x)) := by simp [List.isPrefixOf]
      have HP := hid hpre
      clear hS hpre
      by_cases e1 : x = 45
      · subst e1
        go_wp2
        go_meet
        case rel => exact ⟨by rw [HP.out]; rfl, rfl⟩
      · have n1 : (((x.toNat : Nat) : Int) == 45) = false := by
          rw [beq_eq_false_iff_ne]
          intro h
          exact e1 (UInt8.toNat_inj.1 (show x.toNat = 45 by omega))
        have m1 : ((45 : UInt8) == x) = false := by rw [beq_eq_false_iff_ne]; exact fun h => e1 h.symm
        by_cases e2 : x = 43
        · subst e2
          go_wp2
          go_meet
          case rel => exact ⟨by rw [HP.out]; rfl, rfl⟩
        · have n2 : (((x.toNat : Nat) : Int) == 43) = false := by
            rw [beq_eq_false_iff_ne]
            intro h
            exact e2 (UInt8.toNat_inj.1 (show x.toNat = 43 by omega))
          have m2 : ((43 : UInt8) == x) = false := by rw [beq_eq_false_iff_ne]; exact fun h => e2 h.symm
          go_wp2
          go_meet
          case rel => exact ⟨by rw [HP.out, m1, m2]; rfl, rfl⟩
  case rest =>
    obtain ⟨rfl, rfl⟩ := hcut
    generalize hBB : (([45] : List UInt8).isPrefixOf S || ([43] : List UInt8).isPrefixOf S) = B
    have HB0 := hid hBB
    clear hBB
    go_upto_if 21 with fail
    go_cut [0, 4] from 22 to 26 (fun s0 s4 wx => s0 = .string ⟨(pRest S).toArray⟩ ∧ s4 = .bool (pNeg S) ∧ W = wx)
    case first =>
      obtain ⟨T, hT, hcase⟩ := sign_cases S
      have HT := hid hT
      clear hT
      rcases hcase with ⟨rfl, hn⟩ | ⟨rfl, hn, hm, hp⟩ | ⟨hST, hn, hm, hp⟩
      · have HN := hid hn
        have h1 : (⟨(45 :: T).toArray⟩ : ByteArray).size = T.length + 1 := by rw [Lib.size_mk]; simp
        have h2 : (⟨(45 :: T).toArray⟩ : ByteArray).extract 1 (T.length + 1) = ⟨T.toArray⟩ := by rw [Lib.extract_mk]; simp
        have hx : ∀ h, (⟨(45 :: T).toArray⟩ : ByteArray)[0]'h = 45 := fun h => rfl
        have hb : B = true := by rw [← HB0.out]; simp [List.isPrefixOf]
        have hT' : T.length ≤ 1999999 := by simpa using hS
        subst hb
        clear hn hS
        go_wp2
        go_meet
        case rel => exact ⟨by rw [HT.out], by rw [HN.out], rfl⟩
      · have HN := hid hn
        have h1 : (⟨(43 :: T).toArray⟩ : ByteArray).size = T.length + 1 := by rw [Lib.size_mk]; simp
        have h2 : (⟨(43 :: T).toArray⟩ : ByteArray).extract 1 (T.length + 1) = ⟨T.toArray⟩ := by rw [Lib.extract_mk]; simp
        have hx : ∀ h, (⟨(43 :: T).toArray⟩ : ByteArray)[0]'h = 43 := fun h => rfl
        have hb : B = true := by rw [← HB0.out]; simp [List.isPrefixOf]
        have hT' : T.length ≤ 1999999 := by simpa using hS
        subst hb
        clear hn hm hp hS
        go_wp2
        go_meet
        case rel => exact ⟨by rw [HT.out], by rw [HN.out], rfl⟩
      · have HN := hid hn
        have hST' := hid hST
        have hb : B = false := by rw [← HB0.out, hm, hp]; rfl
        subst hb
        clear hn hm hp hST
        go_wp2
        go_meet
        case rel => exact ⟨by rw [HT.out, ← hST'.out], by rw [HN.out], rfl⟩
    case rest =>
      obtain ⟨rfl, rfl, rfl⟩ := hcut
      have hT : (pRest S).length ≤ 2000000 := by
        refine Nat.le_trans ?_ hS
        unfold pRest
        split
        · rw [List.length_tail]; omega
        · exact Nat.le_refl _
      have hok : pOK l = rOK (pBase (pRest (strip l))) (pBody (pRest (strip l))) := rfl
      have hval : pVal l = sgnInt (pNeg (strip l)) (numOf (pBase (pRest (strip l))) (pBody (pRest (strip l)))) := rfl
      rw [hSS.out] at hok hval
      have HOK := hid hok
      have HVAL := hid hval
      clear hok hval hS hSS
      generalize pRest S = T at *
      generalize pNeg S = ng at *
      go_upto_region 7 with fail
      go_cut [34] from 27 to 34 (fun v wx => v = .bool (decide (1 < T.length) && ((48 : UInt8) == T.headD 0)) ∧ W = wx)
      case first =>
        cases T with
        | nil =>
          have h1 : (⟨([] : List UInt8).toArray⟩ : ByteArray).size = 0 := rfl
          go_wp2
          go_meet
          case rel => exact ⟨rfl, rfl⟩
        | cons x R =>
          have h1 : (⟨(x :: R).toArray⟩ : ByteArray).size = R.length + 1 := by rw [Lib.size_mk]; simp
          have hx : ∀ h, (⟨(x :: R).toArray⟩ : ByteArray)[0]'h = x := fun h => rfl
          have hR : R.length ≤ 1999999 := by simpa using hT
          have HL := hid (show decide (1 < (x :: R).length) = decide (1 < R.length + 1) by simp)
          clear hT
          by_cases hr : 0 < R.length
          · by_cases e1 : x = 48
            · subst e1
              have hr2 : 1 < R.length + 1 := by omega
              go_wp2
              go_meet
              case rel => exact ⟨by rw [HL.out, decide_eq_true (by omega)]; rfl, rfl⟩
            · have n1 : (((x.toNat : Nat) : Int) == 48) = false := by
                rw [beq_eq_false_iff_ne]
                intro h
                exact e1 (UInt8.toNat_inj.1 (show x.toNat = 48 by omega))
              have m1 : ((48 : UInt8) == x) = false := by rw [beq_eq_false_iff_ne]; exact fun h => e1 h.symm
              have hr2 : 1 < R.length + 1 := by omega
              go_wp2
              go_meet
              case rel => exact ⟨by rw [List.headD_cons, m1, Bool.and_false], rfl⟩
          · have hr2 : ¬ 1 < R.length + 1 := by omega
            go_wp2
            go_meet
            case rel => exact ⟨by rw [HL.out, decide_eq_false (by omega)]; rfl, rfl⟩
      case rest =>
        obtain ⟨rfl, rfl⟩ := hcut
        generalize hBB : (decide (1 < T.length) && ((48 : UInt8) == T.headD 0)) = B2
        have HB2 := hid hBB
        clear hBB
        go_upto_if 34 with fail
        go_cut [0, 5] from 35 to 46 (fun s0 s5 wx => s0 = .string ⟨(pBody T).toArray⟩ ∧ s5 = .int .i64 (pBase T) ∧ W = wx)
        case first =>
          have three : ∀ (x : UInt8) (R : List UInt8) (W : World), T = 48 :: x :: R → B2 = true := fun x R _ h => by rw [← HB2.out, h]; simp
          cases B2 with
          | false =>
            have hpre : ∀ p : UInt8, ([48, p] : List UInt8).isPrefixOf T = false := by
              intro p
              cases T with
              | nil => rfl
              | cons y T =>
                cases T with
                | nil => simp [List.isPrefixOf]
                | cons z R =>
                  have h := HB2.out
                  have h2 : ((48 : UInt8) == y) = false := by simpa using h
                  simp [List.isPrefixOf, h2]
            have HB := hid (show pBase T = 10 by unfold pBase; rw [hpre, hpre, hpre]; rfl)
            have HD := hid (show pBody T = T by unfold pBody; rw [hpre, hpre, hpre]; rfl)
            clear three hpre
            go_wp2
            go_meet
            case rel => exact ⟨by rw [HD.out], by rw [HB.out]; rfl, rfl⟩
          | true =>
            obtain ⟨x, R, hTT⟩ : ∃ x R, T = 48 :: x :: R := by
              have h := HB2.out
              cases T with
              | nil => simp at h
              | cons y T =>
                cases T with
                | nil => simp at h
                | cons z R =>
                  have h2 : y = 48 := by
                    have : (48 : UInt8) == y := by simpa using h
                    exact (by simpa using this : (48 : UInt8) = y).symm
                  subst h2
                  exact ⟨z, R, rfl⟩
            subst hTT
            clear three HB2
            have h1 : (⟨(48 :: x :: R).toArray⟩ : ByteArray).size = R.length + 2 := by rw [Lib.size_mk]; simp
            have h2 : (⟨(48 :: x :: R).toArray⟩ : ByteArray).extract 2 (R.length + 2) = ⟨R.toArray⟩ := by rw [Lib.extract_mk]; simp
            have hx : ∀ h, (⟨(48 :: x :: R).toArray⟩ : ByteArray)[1]'h = x := fun h => rfl
            have hR : R.length ≤ 2000000 := by simp at hT; omega
            clear hT
            have key : ∀ k : UInt8, x ≠ k → (((x.toNat : Nat) : Int) == ((k.toNat : Nat) : Int)) = false ∧ ((k == x) = false) := fun k hk => ⟨by
              rw [beq_eq_false_iff_ne]
              intro h
              exact hk (UInt8.toNat_inj.1 (by omega)), by rw [beq_eq_false_iff_ne]; exact fun h => hk h.symm⟩
            by_cases e1 : x = 120
            · subst e1
              have HB := hid (show pBase (48 :: 120 :: R) = 16 by simp [pBase, List.isPrefixOf])
              have HD := hid (show pBody (48 :: 120 :: R) = R by simp [pBody, List.isPrefixOf])
              clear key
              go_wp2
              go_meet
              case rel => exact ⟨by rw [HD.out], by rw [HB.out]; rfl, rfl⟩
            · obtain ⟨n1, m1⟩ := key 120 e1
              have n1 : (((x.toNat : Nat) : Int) == 120) = false := n1
              by_cases e2 : x = 111
              · subst e2
                have HB := hid (show pBase (48 :: 111 :: R) = 8 by simp [pBase, List.isPrefixOf])
                have HD := hid (show pBody (48 :: 111 :: R) = R by simp [pBody, List.isPrefixOf])
                clear key
                go_wp2
                go_meet
                case rel => exact ⟨by rw [HD.out], by rw [HB.out]; rfl, rfl⟩
              · obtain ⟨n2, m2⟩ := key 111 e2
                have n2 : (((x.toNat : Nat) : Int) == 111) = false := n2
                by_cases e3 : x = 98
                · subst e3
                  have HB := hid (show pBase (48 :: 98 :: R) = 2 by simp [pBase, List.isPrefixOf])
                  have HD := hid (show pBody (48 :: 98 :: R) = R by simp [pBody, List.isPrefixOf])
                  clear key
                  go_wp2
                  go_meet
                  case rel => exact ⟨by rw [HD.out], by rw [HB.out]; rfl, rfl⟩
                · obtain ⟨n3, m3⟩ := key 98 e3
                  have n3 : (((x.toNat : Nat) : Int) == 98) = false := n3
                  have HB := hid (show pBase (48 :: x :: R) = 10 by simp [pBase, List.isPrefixOf, m1, m2, m3])
                  have HD := hid (show pBody (48 :: x :: R) = 48 :: x :: R by simp [pBody, List.isPrefixOf, m1, m2, m3])
                  clear key e1 e2 e3 m1 m2 m3
                  go_wp2
                  go_meet
                  case rel => exact ⟨by rw [HD.out], by rw [HB.out]; rfl, rfl⟩
        case rest =>
          obtain ⟨rfl, rfl, rfl⟩ := hcut
          have hU : (pBody T).length ≤ 2000000 := by
            refine Nat.le_trans ?_ hT
            unfold pBody
            split
            · rw [List.length_drop]; omega
            · exact Nat.le_refl _
          have hb16 : 2 ≤ pBase T ∧ pBase T ≤ 16 := by
            unfold pBase
            repeat' split
            all_goals decide
          obtain ⟨hb2, hb16⟩ := hb16
          generalize pBody T = U at *
          generalize pBase T = b at *
          clear HB2
          by_cases hten : b = 10
          · subst hten
            have HC := hid (dec_fn U (by omega) ng W)
            go_wp2_with fail
            (with_reducible refine HC.out.mono ?_); rintro e w1 ⟨v, rfl, hb1, hv, g, s, n, c, rfl⟩
            obtain ⟨⟨r1, r2⟩, s1, s2⟩ := (k0.later hb1).two
            have HV2 := hid hv
            clear hv
            have hsz1 := hb1.size
            have hbF := ((hb0.trans (hb1.mono (by omega))).setCell (p := ⟨w.heap.size, 0, none⟩) (Nat.le_refl _) (.bool g)).setCell (p := ⟨w.heap.size, 1, none⟩) (Nat.le_refl _) (.slice s n c)
            go_wp2
            refine bodyPost_ret (v := .tuple #[.agg #[.bool g, .slice s n c], .bool (rOK 10 U)]) (by simp [results, Tryz.results63, go_sem, r1, r2]) rfl ⟨_, by rw [HOK.out], hbF, fun h => ?_, ⟨_, _, _, _, rfl⟩⟩
            have hok : rOK 10 U = true := by rw [← HOK.out]; exact h
            obtain ⟨sv, he, hown⟩ := HV2.out hok
            rw [HVAL.out]
            refine ⟨sgnInt ng (numOf 10 U), ⟨sv, he, ?_⟩, ?_, .inl rfl⟩
            · unfold OwnDec
              exact (own_set2 (show Own .i64 3 w1 W.heap.size sv _ _ from hown) _ _ (by omega)).mono (by omega)
            · rw [sgnInt_abs]
              have hall : ∀ c ∈ U, valOf c < 10 := by
                unfold rOK at hok
                intro c hc
                exact of_decide_eq_true (List.all_eq_true.1 (Bool.and_eq_true_iff.1 hok).2 c hc)
              have h1 := numOf_lt 10 (by decide) U hall
              have h2 := (dlen_le_iff 10 _ _ (by decide)).2 h1
              omega
          · have hne : ((b : Int) == 10) = false := by rw [beq_eq_false_iff_ne]; omega
            have HC := hid (digits_fn U (by omega) b hb2 (by omega) W)
            clear hten
            go_wp2_with fail
            (with_reducible refine HC.out.mono ?_); rintro e w1 ⟨v, n, rfl, hb1, hown, hdl, hnear⟩
            obtain ⟨a, cap, rfl⟩ := hown.dec.shape
            have HN := hid hnear
            clear hnear
            have HC2 := hid (num_fn hown.dec (by omega) ng)
            go_wp2_with fail
            (with_reducible refine HC2.out.mono ?_); rintro e w2 ⟨rfl, hb2'⟩
            obtain ⟨⟨r1, r2⟩, s1, s2⟩ := ((k0.later hb1).later hb2').two
            have hsz1 := hb1.size
            have hsz2 := hb2'.size
            have hbF := ((hb0.trans ((hb1.mono (by omega)).trans (hb2'.mono (by omega)))).setCell (p := ⟨w.heap.size, 0, none⟩) (Nat.le_refl _) (.bool (ng && decide (0 < n)))).setCell (p := ⟨w.heap.size, 1, none⟩) (Nat.le_refl _) (.slice a (dlen 10 n) cap)
            go_wp2
            refine bodyPost_ret (v := .tuple #[.agg #[.bool (ng && decide (0 < n)), .slice a (dlen 10 n) cap], .bool (rOK b U)]) (by simp [results, Tryz.results63, go_sem, r1, r2]) rfl ⟨_, by rw [HOK.out], hbF, fun h => ?_, ⟨_, _, _, _, rfl⟩⟩
            have hok : rOK b U = true := by rw [← HOK.out]; exact h
            have hnear := HN.out hok
            rw [HVAL.out]
            refine ⟨sgnInt ng n, ⟨_, by rw [sgnInt_neg], ?_⟩, by rw [sgnInt_abs]; omega, ?_⟩
            · unfold OwnDec
              rw [sgnInt_abs]
              exact (own_set2 (Own.keep hown hb2' (Nat.le_refl _)) _ _ (by omega)).mono (by omega)
            · rcases hnear with rfl | ⟨h1, h2⟩
              · exact .inl rfl
              · right
                have h3 := big600_pos
                rw [sgnInt_abs, sgnInt_abs, sgnInt_neg, sgnInt_neg, decide_eq_true (by omega), decide_eq_true (by omega)]
                exact ⟨h1, h2, rfl⟩
end Go.Proofs.YtkhgoeippamobaaGreatDoor
