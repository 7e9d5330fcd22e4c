/-
  FitsCard: the law's card and what it alone needs, merged from 2 texts. Conditions: the row's own.
-/
import Derived.Test.YtkhgoeippamobaaGreatDoorCards
import Derived.Test.YtkhgoeippamobaaGreatDoorTie
import Derived.Deep.DeepHandedRow
import Derived.ProofKit
import Derived.OpenShut
import Derived.Lay
import Derived.MakeChecks
import Derived.ChangeMaps5
import Derived.Test.YtkhgoeippamobaaGreatDoorK1
import Derived.Test.YtkhgoeippamobaaGreatDoorK2
import Derived.Test.YtkhgoeippamobaaGreatDoorK4
/-
  BigFits: the walk.
-/
namespace Go.Proofs.YtkhgoeippamobaaGreatDoor
open Go.RowKit
theorem and_sm {a b : List UInt8} {x y z : Int} (ha : Sm a x) (hb : Sm b y) (hz : z.natAbs < big600) (e : bitI (· &&& ·) x y = z) (w : World) :
    Calls Tryz.prog 31 #[.string ⟨a.toArray⟩, .string ⟨b.toArray⟩] w fun e w' => e = .returned (.tuple #[.string ⟨(txt z).toArray⟩, .int .i64 0]) ∧ Below w.heap.size w w' := by
  obtain ⟨a1, rfl, a2, a3⟩ := ha
  obtain ⟨b1, rfl, b2, b3⟩ := hb
  have h := and_fn a b a3 b3 w
  unfold andRes at h
  generalize bitI (· &&& ·) (pVal a) (pVal b) = R at *
  subst e
  rw [two_small a b R a1 b1 a2 b2 hz] at h
  exact h
theorem or_sm {a b : List UInt8} {x y z : Int} (ha : Sm a x) (hb : Sm b y) (hz : z.natAbs < big600) (e : bitI (· ||| ·) x y = z) (w : World) :
    Calls Tryz.prog 32 #[.string ⟨a.toArray⟩, .string ⟨b.toArray⟩] w fun e w' => e = .returned (.tuple #[.string ⟨(txt z).toArray⟩, .int .i64 0]) ∧ Below w.heap.size w w' := by
  obtain ⟨a1, rfl, a2, a3⟩ := ha
  obtain ⟨b1, rfl, b2, b3⟩ := hb
  have h := or_fn a b a3 b3 w
  unfold orRes at h
  generalize bitI (· ||| ·) (pVal a) (pVal b) = R at *
  subst e
  rw [two_small a b R a1 b1 a2 b2 hz] at h
  exact h
theorem xor_sm {a b : List UInt8} {x y z : Int} (ha : Sm a x) (hb : Sm b y) (hz : z.natAbs < big600) (e : bitI (· ^^^ ·) x y = z) (w : World) :
    Calls Tryz.prog 33 #[.string ⟨a.toArray⟩, .string ⟨b.toArray⟩] w fun e w' => e = .returned (.tuple #[.string ⟨(txt z).toArray⟩, .int .i64 0]) ∧ Below w.heap.size w w' := by
  obtain ⟨a1, rfl, a2, a3⟩ := ha
  obtain ⟨b1, rfl, b2, b3⟩ := hb
  have h := xor_fn a b a3 b3 w
  unfold xorRes at h
  generalize bitI (· ^^^ ·) (pVal a) (pVal b) = R at *
  subst e
  rw [two_small a b R a1 b1 a2 b2 hz] at h
  exact h
theorem neg_sm {a : List UInt8} {x z : Int} (ha : Sm a x) (hz : z.natAbs < big600) (e : -x = z) (w : World) :
    Calls Tryz.prog 35 #[.string ⟨a.toArray⟩] w fun e w' => e = .returned (.tuple #[.string ⟨(txt z).toArray⟩, .int .i64 0]) ∧ Below w.heap.size w w' := by
  subst e
  obtain ⟨a1, rfl, a2, a3⟩ := ha
  have h := neg_fn a a3 w
  rw [negRes, one_small a _ a1 a2 hz] at h
  exact h
theorem not_sm {a : List UInt8} {x z : Int} (ha : Sm a x) (hz : z.natAbs < big600) (e : -x - 1 = z) (w : World) :
    Calls Tryz.prog 34 #[.string ⟨a.toArray⟩] w fun e w' => e = .returned (.tuple #[.string ⟨(txt z).toArray⟩, .int .i64 0]) ∧ Below w.heap.size w w' := by
  subst e
  obtain ⟨a1, rfl, a2, a3⟩ := ha
  have h := not_fn a a3 w
  rw [notRes, one_small a _ a1 a2 hz] at h
  exact h
theorem Sm.one : Sm [49] 1 := ⟨by decide, by decide, by have := big600_two; show (1 : Nat) < big600; omega, by decide⟩
theorem right_two (a b : List UInt8) (w : World) (la : a.length ≤ 2000000) (lb : b.length ≤ 2000000) : Hid (Calls Tryz.prog 10 #[.slice (some ⟨w.heap.size, 0, none⟩) 2 2] (w.alloc (.cells #[.string ⟨a.toArray⟩, .string ⟨b.toArray⟩] 9)) fun e w' => e = .returned (.bool (rightB [a, b])) ∧ Below (w.alloc (.cells #[.string ⟨a.toArray⟩, .string ⟨b.toArray⟩] 9)).heap.size (w.alloc (.cells #[.string ⟨a.toArray⟩, .string ⟨b.toArray⟩] 9)) w') :=
  hid (right_fn (ls := [a, b]) (Strs.two (Blk.new w #[.string ⟨a.toArray⟩, .string ⟨b.toArray⟩] 9)) (by simp) (fun l hl' => by
    simp only [List.mem_cons, List.mem_nil_iff, or_false] at hl'
    rcases hl' with rfl | rfl <;> assumption))
set_option maxRecDepth 100000 in
set_option maxHeartbeats 4000000 in
theorem fits_in (a b : List UInt8) (x y : Int) (ha : Sm a x) (hb : Sm b y) (hx : x.natAbs < 2 ^ 240) (hy : y.natAbs < 2 ^ 240) (w : World)
    (hr : rightB [a, b] = true) (la : a.length ≤ 2000000) (lb : b.length ≤ 2000000) :
    Calls Tryz.prog 6 #[.string ⟨a.toArray⟩, .string ⟨b.toArray⟩] w fun e w' => e = .returned (.bool true) ∧ Below w.heap.size w w' := by
  have e1 : (2 : Nat) ^ 240 + 2 ^ 240 + 1 < 2 ^ 500 := by decide +kernel
  have e2 : (2 : Nat) ^ (240 + 32) + 2 ^ (240 + 32) + 2 ^ (240 + 32) < 2 ^ 500 := by decide +kernel
  have m1 := bitI_small _ bl_and x y 240 hx hy
  have m2 := bitI_small _ bl_or x y 240 hx hy
  have m3 := bitI_small _ bl_xor x y 240 hx hy
  have s1 := bit_sum_or x y
  have s2 := bit_sum_xor x y
  generalize hA : bitI (· &&& ·) x y = A at *
  generalize hO : bitI (· ||| ·) x y = O at *
  generalize hX : bitI (· ^^^ ·) x y = X at *
  have l1 : A.natAbs < big600 := lt_big _ (by omega)
  have l2 : O.natAbs < big600 := lt_big _ (by omega)
  have l3 : X.natAbs < big600 := lt_big _ (by omega)
  have l4 : (x + y).natAbs < big600 := lt_big _ (by omega)
  have l5 : (A + A).natAbs < big600 := lt_big _ (by omega)
  have l6 : (-x - 1).natAbs < big600 := lt_big _ (by omega)
  have l7 : (-x).natAbs < big600 := lt_big _ (by omega)
  have C1 := fun w => hid (and_sm ha hb l1 hA w)
  have C2 := fun w => hid (or_sm ha hb l2 hO w)
  have C3 := fun w => hid (xor_sm ha hb l3 hX w)
  have C4 := fun w => hid (add_sm ha hb l4 rfl w)
  have C5 := fun w => hid (add_sm (Sm.txt _ l2) (Sm.txt _ l1) l4 s1 w)
  have C6 := fun w => hid (add_sm (Sm.txt _ l1) (Sm.txt _ l1) l5 rfl w)
  have C7 := fun w => hid (add_sm (Sm.txt _ l3) (Sm.txt _ l5) l4 s2 w)
  have C8 := fun w => hid (not_sm ha l6 rfl w)
  have C9 := fun w => hid (neg_sm ha l7 rfl w)
  have C10 := fun w => hid (sub_sm (Sm.txt _ l7) Sm.one l6 rfl w)
  have AW := fun w => hid (awake_fn w)
  have hb0 : Below w.heap.size w (w.alloc (.cells #[.string ⟨a.toArray⟩, .string ⟨b.toArray⟩] 9)) := (Below.refl _ _).alloc (Nat.le_refl _) _
  have HRC := right_two a b w la lb
  rw [hr] at HRC
  have HRC := hid HRC.out
  clear ha hb hr l1 l2 l3 l4 l5 l6 l7 m1 m2 m3 e1 e2 s1 s2 hx hy hA hO hX la lb
  generalize txt A = t1 at *
  generalize txt O = t2 at *
  generalize txt X = t3 at *
  generalize txt (x + y) = t4 at *
  generalize txt (A + A) = t5 at *
  generalize txt (-x - 1) = t6 at *
  generalize txt (-x) = t7 at *
  go_enter Tryz.func6, Tryz.ntmps6
  go_wp2_with fail
  (with_reducible refine HRC.out.mono ?_); rintro e w0 ⟨rfl, g0⟩
  have hb := hb0.trans (g0.mono hb0.size)
  clear hb0 g0
  go_wp2_with fail
  (with_reducible refine (C1 _).out.mono ?_); rintro e w1 ⟨rfl, g1⟩
  have hb := hb.trans (g1.mono hb.size)
  clear g1
  go_wp2_with fail
  (with_reducible refine (C2 _).out.mono ?_); rintro e w2 ⟨rfl, g2⟩
  have hb := hb.trans (g2.mono hb.size)
  clear g2
  go_wp2_with fail
  (with_reducible refine (C3 _).out.mono ?_); rintro e w3 ⟨rfl, g3⟩
  have hb := hb.trans (g3.mono hb.size)
  clear g3
  go_wp2_with fail
  (with_reducible refine (C4 _).out.mono ?_); rintro e w4 ⟨rfl, g4⟩
  have hb := hb.trans (g4.mono hb.size)
  clear g4
  go_wp2_with fail
  (with_reducible refine (C5 _).out.mono ?_); rintro e w5 ⟨rfl, g5⟩
  have hb := hb.trans (g5.mono hb.size)
  clear g5
  go_wp2_with fail
  (with_reducible refine (C6 _).out.mono ?_); rintro e w6 ⟨rfl, g6⟩
  have hb := hb.trans (g6.mono hb.size)
  clear g6
  go_wp2_with fail
  (with_reducible refine (C7 _).out.mono ?_); rintro e w7 ⟨rfl, g7⟩
  have hb := hb.trans (g7.mono hb.size)
  clear g7
  go_wp2_with fail
  (with_reducible refine (C8 _).out.mono ?_); rintro e w8 ⟨rfl, g8⟩
  have hb := hb.trans (g8.mono hb.size)
  clear g8
  go_wp2_with fail
  (with_reducible refine (C9 _).out.mono ?_); rintro e w9 ⟨rfl, g9⟩
  have hb := hb.trans (g9.mono hb.size)
  clear g9
  go_wp2_with fail
  (with_reducible refine (C10 _).out.mono ?_); rintro e w10 ⟨rfl, g10⟩
  have hb := hb.trans (g10.mono hb.size)
  clear g10
  go_wp2_with fail
  (with_reducible refine (AW _).out.mono ?_); rintro e w11 ⟨rfl, g11⟩
  have hb := hb.trans (g11.mono hb.size)
  clear g11
  go_wp2
  go_ret
  exact ⟨rfl, hb⟩
set_option maxRecDepth 100000 in
set_option maxHeartbeats 4000000 in
theorem fits_fn (a b : List UInt8) (w : World) (la : a.length ≤ 2000000) (lb : b.length ≤ 2000000) :
    Calls Tryz.prog 6 #[.string ⟨a.toArray⟩, .string ⟨b.toArray⟩] w fun e w' => e = .returned (.bool true) ∧ Below w.heap.size w w' := by
  cases hr : rightB [a, b] with
  | true =>
    obtain ⟨a1, a2, a3⟩ := rightB_mem _ hr a (by simp)
    obtain ⟨b1, b2, b3⟩ := rightB_mem _ hr b (by simp)
    have e : (2 : Nat) ^ 240 < 2 ^ 500 := by decide +kernel
    exact fits_in a b _ _ ⟨a1, rfl, lt_big _ (by omega), by omega⟩ ⟨b1, rfl, lt_big _ (by omega), by omega⟩ a2 b2 w hr la lb
  | false =>
    have AW := fun w => hid (awake_fn w)
    have hb0 : Below w.heap.size w (w.alloc (.cells #[.string ⟨a.toArray⟩, .string ⟨b.toArray⟩] 9)) := (Below.refl _ _).alloc (Nat.le_refl _) _
    have HRC := right_two a b w la lb
    rw [hr] at HRC
    have HRC := hid HRC.out
    clear hr la lb
    go_enter Tryz.func6, Tryz.ntmps6
    go_wp2_with fail
    (with_reducible refine HRC.out.mono ?_); rintro e w0 ⟨rfl, g0⟩
    have hb := hb0.trans (g0.mono hb0.size)
    clear hb0 g0
    go_wp2_with fail
    (with_reducible refine (AW _).out.mono ?_); rintro e w1 ⟨rfl, g1⟩
    have hb := hb.trans (g1.mono hb.size)
    clear g1
    go_wp2
    go_ret
    exact ⟨rfl, hb⟩
end Go.Proofs.YtkhgoeippamobaaGreatDoor
/-
  BigFits: the row and its card (the second form: arguments of bulk at most 1048576). Condition: the listed package-level variables hold what the row lists (the card ties them to the text).
-/
namespace Go.Proofs.YtkhgoeippamobaaGreatDoor.bigFits
open Go.ChangeMaps Go.ChangeShapes Go.WideShapes Go.ChangeAt Go.RowKit
theorem own : ownKnob Tryz.prog.godebug = none := by kernel_rfl
theorem ok_true {P : Program} {W' : World} {f : Func} {t : TypeId} (hr : f.resultTypes = #[t]) (ht : P.underlying t = some .bool) :
    ∀ (j : Nat) (t' : TypeId) (r : Value), f.resultTypes[j]? = some t' → ((Value.bool true).resultList f.resultTypes.size)[j]? = some r → Value.okWide P W' .any 0 t' r := ok_one hr rfl (okWide_bool_mk ht true)
section
variable {H : Type} {enc : TypeId × Value → H}
set_option maxRecDepth 100000 in
/-- the row's last step: no place was read, no variable is asked, what lay below is as it was -/
theorem post_below {f : Func} {s : ChangeSpec} {W W' : World} {args : Array Value} {v : Value} {ds gs : List (DataW H)}
    (hW : DataW.Whole enc Tryz.prog f.params.toList s.vars false W args.toList ds gs [])
    (hres : ∀ (b : Nat) (sp : Nat → Bool) (hd : Bool), DataW.TrodAll enc Tryz.prog W' b sp hd f.resultTypes.toList (v.resultList f.resultTypes.size) (s.fn H (ds ++ gs)).results [])
    (hargs : ∀ sp : Nat → Bool, DataW.TrodAll enc Tryz.prog W' 0 sp true f.params.toList args.toList (s.fn H (ds ++ gs)).args [])
    (hvars : ∀ sp : Nat → Bool, DataW.TrodVars enc Tryz.prog W' sp s.vars (s.fn H (ds ++ gs)).vars []) (hb : Below W.heap.size W W')
    (hok : ∀ (j : Nat) (t : TypeId) (r : Value), f.resultTypes[j]? = some t → (v.resultList f.resultTypes.size)[j]? = some r → Value.okWide Tryz.prog W' .any 0 t r) :
    s.post enc Tryz.prog f false true false false W args v W' := by
  refine ⟨ds, gs, [], [], [], [], hW, hres _ _ _, hargs _, hvars _, World.keptBut_mono (fun p hp => ⟨hp, .inr (.inr hp)⟩) (hb.frame (· ∈ ([] : List MemPlace))), fun _ => ?_⟩
  refine ⟨hok, _, _, ([] ++ []) ++ [], ⟨[] ++ [], [], trodAll_append (hargs _) (hres _ _ _), hvars _, rfl, ?_, ?_⟩, ?_⟩
  · intro b off hp
    simp at hp
  · intro h
    cases h
  · intro p hp _
    simp at hp
end
theorem contract (H : Type) (enc : TypeId × Value → H) (W : World) (base : Nat) (args : Array Value) (ds gs : List (DataW H)) (before : List MemPlace)
    (hval : ∀ (j : Nat) t v, Tryz.f6.params[j]? = some t → args[j]? = some v → Value.okWide Tryz.prog W .any base t v)
    (hW : DataW.Whole enc Tryz.prog Tryz.f6.params.toList Rows.bigFitsSpec.vars false W args.toList ds gs before) (hk : Rows.uptoSmall H (ds ++ gs) = true) :
    Calls Tryz.prog 6 args W fun e W' => ∃ v, e = .returned v ∧ Rows.bigFitsSpec.post enc Tryz.prog Tryz.f6 false true false false W args v W' := by
  have hW' := hW
  obtain ⟨p, q, hA0, hV, rfl, hfz, hnd⟩ := hW
  have hA : DataW.TrodAll enc Tryz.prog W 0 (fun _ => true) true Tryz.f6.params.toList args.toList ds p := hA0
  rw [Tryz.params6] at hA hval
  obtain ⟨v0, vs0, d0, ds0, p0, q0, hargs, rfl, rfl, h0, r0⟩ := trodAll_cons hA
  obtain ⟨v1, vs1, d1, ds1, p1, q1, rfl, rfl, rfl, h1, r1⟩ := trodAll_cons r0
  obtain ⟨rfl, rfl, rfl⟩ := trodAll_nil r1
  obtain rfl : args = #[v0, v1] := by cases args; simp_all
  obtain ⟨rfl, rfl⟩ := trodVars_none hV
  obtain ⟨s0, rfl, rfl, rfl, m0⟩ := open_string Tryz.underlying9 (by with_reducible exact hval 0 9 v0 (by simp) (by simp)) h0
  obtain ⟨s1, rfl, rfl, rfl, m1⟩ := open_string Tryz.underlying9 (by with_reducible exact hval 1 9 v1 (by simp) (by simp)) h1
  clear hA0
  simp only [List.append_nil] at hW' hk
  have h := of_decide_eq_true hk
  simp only [Rows.uptoBulkAll, Rows.uptoBulk] at h
  have e0 : s0 = ⟨s0.data.toList.toArray⟩ := by cases s0; simp
  have e1 : s1 = ⟨s1.data.toList.toArray⟩ := by cases s1; simp
  have walk := fits_fn s0.data.toList s1.data.toList W (by omega) (by omega)
  rw [← e0, ← e1] at walk
  refine walk.mono fun e W' ⟨he, hg⟩ => ?_
  subst he
  exact ⟨_, rfl, post_below hW' (fun _ _ _ => trodAll_cons_mk (shut_bool Tryz.underlying4 _) trodAll_mk0) (fun _ => trodAll_cons_mk (shut_string Tryz.underlying9 m0) (trodAll_cons_mk (shut_string Tryz.underlying9 m1) trodAll_mk0)) (fun _ => rfl) hg (@ok_true Tryz.prog W' Tryz.f6 4 (by kernel_rfl) Tryz.underlying4)⟩
theorem reads (os : Os) {H : Type} (enc : TypeId × Value → H) : ∃ places, DataW.whole enc Tryz.prog ((World.laidAll Tryz.prog os Rows.bigFitsUptoRow.laid).forCall (fun _ _ => 0) ⟨#[], #[.string .empty, .string .empty], []⟩).memory Tryz.f6.params.toList Rows.bigFitsSpec.vars false (#[.string .empty, .string .empty] : Array Value).toList 8 = some ([.lit (.string []), .lit (.string [])], [], places) :=
  ⟨[], by kernel_rfl⟩
set_option maxRecDepth 100000 in
theorem lifted (os : Os) (started : os.Started) (H : Type) (enc : TypeId × Value → H) (F : Stop.Interp) :
    ReturnsInHanded {} Tryz.checked os 6 .any ((Rows.OpenSpec.upto Rows.bigFitsSpec).preRow enc Tryz.prog Tryz.f6 Rows.bigFitsUptoRow.domain false Rows.bigFitsUptoRow.laid) (((Rows.OpenSpec.upto Rows.bigFitsSpec).at F).post enc Tryz.prog Tryz.f6 false true false false) := by
  obtain ⟨places, hx⟩ := reads os enc
  have hl : laidMetH Tryz.prog Rows.bigFitsUptoRow.laid ((World.laidAll Tryz.prog os Rows.bigFitsUptoRow.laid).forCall (fun _ _ => 0) ⟨#[], #[.string .empty, .string .empty], []⟩).memory := by
    rw [MakeChecks.laidMetH_plain _ _ _ (by kernel_rfl)]
    exact laidMet_laidAll _ (by kernel_rfl) (by kernel_rfl)
  refine returnsInHanded_of_row (C := Tryz.checked) (s := (Rows.OpenSpec.upto Rows.bigFitsSpec)) own started (by kernel_rfl) Tryz.func6
    (witness_row_at (enc := enc) (C := Tryz.checked) false (World.laidAll Tryz.prog os Rows.bigFitsUptoRow.laid) #[.string .empty, .string .empty] (World.laidAll_os _ _ _) (by kernel_rfl) (by kernel_rfl) (by kernel_rfl)
      (OpenSpec.preRow_of_cond 8 hx (by kernel_rfl) (fun k hk => by cases hk; kernel_rfl) (by kernel_rfl) hl)) ?_
  intro W base args ds gs before hval hW _ hcond _ _ _ _
  exact contract H enc W base args ds gs before hval hW (hcond _ rfl)
theorem said : Rows.BigFitsUptoSaid :=
  OpenClaim.holds_of_cond 6 Tryz.f6 rfl rfl rfl rfl rfl rfl rfl ⟨rfl, rfl, rfl, rfl, rfl⟩ rfl rfl rfl rfl rfl (by kernel_rfl) Tryz.func6 (by kernel_rfl)
    (of_decide_eq_true (by kernel_rfl)) (by unfold Func.isWrapper; first | (rw [if_pos (by decide +kernel)]; kernel_rfl) | (rw [if_neg (by decide +kernel)]; exact ⟨rfl, rfl⟩))
    (fun os started H enc _ F => by rw [OpenClaim.pre_eq_preRow]; exact lifted os started H enc F)
theorem plain (f : FuncId) (fn : Func) (hf : Tryz.pinned.checked.prog.funcNamed "threadbare/threadbarelaw03.BigFits" = some f) (hfn : Tryz.pinned.checked.prog.funcs[f]? = some fn) :
    false = Tryz.pinned.checked.prog.looks [] ∧ ∀ (j : Nat) t, fn.params[j]? = some t → Tryz.pinned.checked.prog.wantsStandIn t = false := by
  obtain rfl : f = 6 := Option.some.inj ((show Tryz.prog.funcNamed "threadbare/threadbarelaw03.BigFits" = some 6 by kernel_rfl).symm.trans hf) |>.symm
  obtain rfl : fn = Tryz.f6 := (Option.some.inj (Tryz.func6.symm.trans hfn)).symm
  refine ⟨by kernel_rfl, fun j t ht => ?_⟩
  rw [Tryz.params6] at ht
  have ht := Array.mem_of_getElem? ht
  simp at ht
  subst ht
  exact (show Tryz.prog.wantsStandIn 9 = false by kernel_rfl)
theorem card : Rows.BigFitsUptoCardSaid :=
  Claim7.holds_tied_plain_at .later [] _ _ _ _ said (fun _ h => by cases h) (by kernel_rfl) (fun _ h => by cases h) bigFitsUpto_row_tie rfl ⟨rfl, rfl⟩ (by kernel_rfl) rfl plain (by kernel_rfl)
end Go.Proofs.YtkhgoeippamobaaGreatDoor.bigFits
