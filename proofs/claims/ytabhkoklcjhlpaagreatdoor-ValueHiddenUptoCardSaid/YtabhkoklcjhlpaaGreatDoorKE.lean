/-
  Part KE of the proofs of this seat: contracts of functions and plain facts, merged from 6 texts.
-/
import Derived.Test.YtabhkoklcjhlpaaGreatDoorK0
import Derived.Test.YtabhkoklcjhlpaaGreatDoorK1
import Derived.Test.YtabhkoklcjhlpaaGreatDoorK2
import Derived.Test.YtabhkoklcjhlpaaGreatDoorK3
import Derived.Test.YtabhkoklcjhlpaaGreatDoorK4
import Derived.Test.YtabhkoklcjhlpaaGreatDoorK5
import Derived.Test.YtabhkoklcjhlpaaGreatDoorK6
import Derived.Test.YtabhkoklcjhlpaaGreatDoorK7
import Derived.Test.YtabhkoklcjhlpaaGreatDoorK8
import Derived.Test.YtabhkoklcjhlpaaGreatDoorK9
import Derived.Test.YtabhkoklcjhlpaaGreatDoorKA
import Derived.Test.YtabhkoklcjhlpaaGreatDoorKB
import Derived.Test.YtabhkoklcjhlpaaGreatDoorKC
import Derived.Test.YtabhkoklcjhlpaaGreatDoorKD
/-
  value: List and Pairs again: the row that is handed out is not the face's.
-/
namespace Go.Proofs.YtabhkoklcjhlpaaGreatDoor.Pz
open Go.RowKit
/-- the block of a face's row -/
def faceOwn : Value → Option Nat
  | .iface _ u => u.ownBlock
  | _ => none
set_option maxRecDepth 100000 in
set_option maxHeartbeats 1000000 in
theorem listV2_other {vb sb : Nat} {w : World} {fv : Value} {t : Str} {told : Bool} {cnt : Nat} {f : Fc} (h : ValAt vb sb w fv t told cnt f) (hml : ML w) (ht : t.length ≤ 100000)
    (hta : ∀ w, (Instr.typeAssert fv 86 77 true).run Tryz.prog w = .ok (.tuple #[.slice none 0 0, .bool false]) w) (hA : listAns f t = if (splitE t).2.2 = 0 then ((splitE t).1, 0, .list (splitE t).1) else ([], (splitE t).2.2, f)) :
    Calls Tryz.prog 21 #[.pointer (some ⟨vb, 0, none⟩)] w fun e w' => ∃ u fv' told', e = .returned (.tuple #[u, .int .i64 (listAns f t).2.1]) ∧ RowS w.heap.size w' u (listAns f t).1 ∧ Only [vb, sb] w w' ∧ ValAt vb sb w' fv' t told' cnt (listAns f t).2.2 ∧ (told = true → told' = true) ∧ (∀ g, faceOwn fv' = some g → u.ownBlock ≠ some g) := by
  rw [hA]
  have c1 : w.cell? ⟨vb, 1, none⟩ = some fv := by rw [Lib.cell_of_heap h.val]; rfl
  have hT := text_fn h hml
  have hnot := h.only hml
  have hlen : ((splitE t).1).length ≤ 1000000 := by
    have := splitE_out t
    omega
  have hS := fun w => split_fn t (by omega) w
  unfold SplitQ at hS
  obtain ⟨l, hl⟩ : ∃ l, l = (splitE t).1 := ⟨_, rfl⟩
  obtain ⟨at0, hat⟩ : ∃ x, x = (splitE t).2.1 := ⟨_, rfl⟩
  obtain ⟨er, her⟩ : ∃ x, x = (splitE t).2.2 := ⟨_, rfl⟩
  rw [← hl, ← hat, ← her] at hS
  rw [← hl, ← her]
  rw [← hl] at hlen
  clear hA hl hat her
  have HT := hid hT
  have HS := hid hS
  have HM := hid hml
  have HN := hid hnot
  clear hT hS hml h hnot
  by_cases he : er = 0
  · subst he
    rw [if_pos rfl]
    dsimp only
    go_enter Tryz.func21, Tryz.ntmps21
    go_wp2_with fail
    (with_reducible refine HT.out.mono ?_); rintro e w1 ⟨rfl, ho1, hv1⟩
    have HO1 := hid ho1
    have HV1 := hid hv1
    clear ho1 hv1
    go_wp2_with fail
    (with_reducible refine (HS.out _).mono ?_); rintro e w2 ⟨hb2, v, rfl, hr2⟩
    have hk : FaceIs w2 (.iface 77 v) (.list l) := ⟨v, rfl, hr2.mono (Nat.zero_le _)⟩
    have hm1 : ML w1 := HM.out.only HO1.out (by simpa using HN.out.2)
    have hm2 : ML w2 := hm1.below hb2
    have HV2 := hid (HV1.out.on hb2)
    have hK := hid (keep_fn HV2.out hm2 hk)
    obtain ⟨a, cp, e2⟩ := hr2.shape
    obtain ⟨n, hn⟩ : ∃ n, n = l.length := ⟨_, rfl⟩
    rw [← hn] at e2
    subst e2
    have HO2 := hid ((HO1.out.more (C := [vb, sb]) (by simp)).trans (Only.of hb2 _))
    have HR2 := hid hr2
    clear hb2 hr2 hk hm1 hm2 hn
    go_wp2_with fail
    (with_reducible refine hK.out.mono ?_); rintro e w3 ⟨rfl, ho3, hv3⟩
    have hr3 : RowS w1.heap.size w3 _ l := ownsRow_heap2 HR2.out fun g cur hg hc => ho3.cells hc (by
      have x1 := kinds_ne hc HV2.out.val (by decide)
      have x2 := kinds_ne hc HV2.out.shr (by decide)
      simp [x1, x2])
    have hC := hid (clone_fn hr3.strs hlen)
    have HO3 := hid (HO2.out.trans ho3)
    have HZ3 := hid ho3.size
    have HV3 := hid hv3
    clear ho3 hv3 hr3
    go_wp2_with fail
    (with_reducible refine hC.out.mono ?_); rintro e w4 ⟨u, rfl, hr4, hb4⟩
    obtain ⟨a4, c4, e4⟩ := hr4.shape
    obtain ⟨n4, hn4⟩ : ∃ n, n = l.length := ⟨_, rfl⟩
    rw [← hn4] at e4
    subst e4
    have HSEP := hid (show ∀ g, (Value.slice a n cp).ownBlock = some g → (Value.slice a4 n4 c4).ownBlock ≠ some g from fun g h1 h2 => by
      have x1 := (HR2.out.lt g h1).1
      have x2 := (hr4.lt g h2).2
      have x3 := HZ3.out
      omega)
    have HR4 := hid (hr4.mono (HO3.out.size))
    have HO4 := hid (HO3.out.trans (Only.of hb4 _))
    have HV4 := hid (HV3.out.on hb4)
    clear hr4 hb4 hn4
    go_wp2
    go_ret2
    exact ⟨_, _, true, rfl, HR4.out, HO4.out, HV4.out, fun _ => rfl, fun g h1 => HSEP.out g h1⟩
  · rw [if_neg he]
    dsimp only
    have hne : (er != 0) = true := by rw [bne_iff_ne]; exact he
    go_enter Tryz.func21, Tryz.ntmps21
    go_wp2_with fail
    (with_reducible refine HT.out.mono ?_); rintro e w1 ⟨rfl, ho1, hv1⟩
    have HO1 := hid ho1
    have HV1 := hid hv1
    clear ho1 hv1
    go_wp2_with fail
    (with_reducible refine (HS.out _).mono ?_); rintro e w2 ⟨hb2, v, rfl, hr2⟩
    have HO2 := hid ((HO1.out.more (C := [vb, sb]) (by simp)).trans (Only.of hb2 _))
    have HV2 := hid (HV1.out.on hb2)
    obtain ⟨a, cp, e2⟩ := hr2.shape
    obtain ⟨n, hn⟩ : ∃ n, n = l.length := ⟨_, rfl⟩
    rw [← hn] at e2
    subst e2
    clear hr2 hb2 hn
    go_wp2
    go_ret2
    exact ⟨_, _, true, rfl, RowS.nil _ _, HO2.out, HV2.out, fun _ => rfl, fun g _ h2 => by simp [Value.ownBlock] at h2⟩
set_option maxRecDepth 100000 in
theorem listV2_fn {vb sb : Nat} {w : World} {fv : Value} {t : Str} {told : Bool} {cnt : Nat} {f : Fc} (h : ValAt vb sb w fv t told cnt f) (hml : ML w) (ht : t.length ≤ 100000) (hsm : f.small) :
    Calls Tryz.prog 21 #[.pointer (some ⟨vb, 0, none⟩)] w fun e w' => ∃ u fv' told', e = .returned (.tuple #[u, .int .i64 (listAns f t).2.1]) ∧ RowS w.heap.size w' u (listAns f t).1 ∧ Only [vb, sb] w w' ∧ ValAt vb sb w' fv' t told' cnt (listAns f t).2.2 ∧ (told = true → told' = true) ∧ (∀ g, faceOwn fv' = some g → u.ownBlock ≠ some g) := by
  have hf := h.face
  cases f with
  | text =>
    obtain rfl : fv = .nilIface := hf
    exact listV2_other h hml ht Tryz.as0E rfl
  | num c =>
    obtain rfl : fv = .iface 82 (.string ⟨c.toArray⟩) := hf
    exact listV2_other h hml ht (Tryz.asNE _) rfl
  | list l =>
    obtain ⟨u, rfl, hr⟩ := hf
    have c1 : w.cell? ⟨vb, 1, none⟩ = some (.iface 77 u) := by rw [Lib.cell_of_heap h.val]; rfl
    have hC := hid (cloneE_fn hr.strs hsm)
    obtain ⟨a, cp, rfl⟩ := hr.shape
    have H := hid h
    have HRR := hid (fun g hg => (hr.lt g hg).1)
    obtain ⟨n, hn⟩ : ∃ n, n = l.length := ⟨_, rfl⟩
    rw [← hn] at c1 hC H HRR
    have hta := Tryz.asEE a n cp
    clear h hr hn
    show Calls _ _ _ _ fun e w' => ∃ u fv' told', e = .returned (.tuple #[u, .int .i64 0]) ∧ RowS w.heap.size w' u l ∧ Only [vb, sb] w w' ∧ ValAt vb sb w' fv' t told' cnt (.list l) ∧ (told = true → told' = true) ∧ (∀ g, faceOwn fv' = some g → u.ownBlock ≠ some g)
    go_enter Tryz.func21, Tryz.ntmps21
    go_wp2_with fail
    (with_reducible refine hC.out.mono ?_); rintro e w4 ⟨u, rfl, hr4, hb4⟩
    obtain ⟨a4, c4, e4⟩ := hr4.shape
    obtain ⟨n4, hn4⟩ : ∃ n, n = l.length := ⟨_, rfl⟩
    rw [← hn4] at e4
    subst e4
    have HSEP := hid (show ∀ g, (Value.slice a n cp).ownBlock = some g → (Value.slice a4 n4 c4).ownBlock ≠ some g from fun g h1 h2 => by
      have x1 := HRR.out g h1
      have x2 := (hr4.lt g h2).2
      omega)
    have HR4 := hid hr4
    have HO4 := hid (Only.of hb4 [vb, sb])
    have HV4 := hid (H.out.on hb4)
    clear hr4 hb4 hn4
    go_wp2
    go_ret2
    exact ⟨_, _, told, rfl, HR4.out, HO4.out, HV4.out, id, fun g h1 => HSEP.out g h1⟩
  | dict l =>
    obtain ⟨u, rfl, hr⟩ := hf
    obtain ⟨a, cp, rfl⟩ := hr.shape
    exact listV2_other h hml ht (Tryz.asDE _ _ _) rfl
set_option maxRecDepth 100000 in
set_option maxHeartbeats 1000000 in
theorem pairsV2_other {vb sb : Nat} {w : World} {fv : Value} {t : Str} {told : Bool} {cnt : Nat} {f : Fc} (h : ValAt vb sb w fv t told cnt f) (hml : ML w) (ht : t.length ≤ 100000)
    (hta : ∀ w, (Instr.typeAssert fv 86 95 true).run Tryz.prog w = .ok (.tuple #[.slice none 0 0, .bool false]) w) (hA : pairsAns f t = if (pairsE t).2 = 0 then ((pairsE t).1, 0, .dict (pairsE t).1) else ([], (pairsE t).2, f)) :
    Calls Tryz.prog 34 #[.pointer (some ⟨vb, 0, none⟩)] w fun e w' => ∃ u fv' told', e = .returned (.tuple #[u, .int .i64 (pairsAns f t).2.1]) ∧ RowS w.heap.size w' u (pairsAns f t).1 ∧ Only [vb, sb] w w' ∧ ValAt vb sb w' fv' t told' cnt (pairsAns f t).2.2 ∧ (told = true → told' = true) ∧ (∀ g, faceOwn fv' = some g → u.ownBlock ≠ some g) := by
  rw [hA]
  have c1 : w.cell? ⟨vb, 1, none⟩ = some fv := by rw [Lib.cell_of_heap h.val]; rfl
  have hT := text_fn h hml
  have hnot := h.only hml
  have hlen : ((pairsE t).1).length ≤ 1000000 := by
    have := pairsE_len t
    omega
  have hS := fun w => dictPairs_fn t (by omega) w
  obtain ⟨l, hl⟩ : ∃ l, l = (pairsE t).1 := ⟨_, rfl⟩
  obtain ⟨er, her⟩ : ∃ x, x = (pairsE t).2 := ⟨_, rfl⟩
  rw [← hl, ← her] at hS
  rw [← hl, ← her]
  rw [← hl] at hlen
  clear hA hl her
  have HT := hid hT
  have HS := hid hS
  have HM := hid hml
  have HN := hid hnot
  clear hT hS hml h hnot
  by_cases he : er = 0
  · subst he
    rw [if_pos rfl]
    dsimp only
    go_enter Tryz.func34, Tryz.ntmps34
    go_wp2_with fail
    (with_reducible refine HT.out.mono ?_); rintro e w1 ⟨rfl, ho1, hv1⟩
    have HO1 := hid ho1
    have HV1 := hid hv1
    clear ho1 hv1
    go_wp2_with fail
    (with_reducible refine (HS.out _).mono ?_); rintro e w2 ⟨hb2, v, rfl, hr2⟩
    have hk : FaceIs w2 (.iface 95 v) (.dict l) := ⟨v, rfl, hr2.mono (Nat.zero_le _)⟩
    have hm1 : ML w1 := HM.out.only HO1.out (by simpa using HN.out.2)
    have hm2 : ML w2 := hm1.below hb2
    have HV2 := hid (HV1.out.on hb2)
    have hK := hid (keep_fn HV2.out hm2 hk)
    obtain ⟨a, cp, e2⟩ := hr2.shape
    obtain ⟨n, hn⟩ : ∃ n, n = l.length := ⟨_, rfl⟩
    rw [← hn] at e2
    subst e2
    have HO2 := hid ((HO1.out.more (C := [vb, sb]) (by simp)).trans (Only.of hb2 _))
    have HR2 := hid hr2
    clear hb2 hr2 hk hm1 hm2 hn
    go_wp2_with fail
    (with_reducible refine hK.out.mono ?_); rintro e w3 ⟨rfl, ho3, hv3⟩
    have hr3 : RowS w1.heap.size w3 _ l := ownsRow_heap2 HR2.out fun g cur hg hc => ho3.cells hc (by
      have x1 := kinds_ne hc HV2.out.val (by decide)
      have x2 := kinds_ne hc HV2.out.shr (by decide)
      simp [x1, x2])
    have hC := hid (clone_fn hr3.strs hlen)
    have HO3 := hid (HO2.out.trans ho3)
    have HZ3 := hid ho3.size
    have HV3 := hid hv3
    clear ho3 hv3 hr3
    go_wp2_with fail
    (with_reducible refine hC.out.mono ?_); rintro e w4 ⟨u, rfl, hr4, hb4⟩
    obtain ⟨a4, c4, e4⟩ := hr4.shape
    obtain ⟨n4, hn4⟩ : ∃ n, n = l.length := ⟨_, rfl⟩
    rw [← hn4] at e4
    subst e4
    have HSEP := hid (show ∀ g, (Value.slice a n cp).ownBlock = some g → (Value.slice a4 n4 c4).ownBlock ≠ some g from fun g h1 h2 => by
      have x1 := (HR2.out.lt g h1).1
      have x2 := (hr4.lt g h2).2
      have x3 := HZ3.out
      omega)
    have HR4 := hid (hr4.mono (HO3.out.size))
    have HO4 := hid (HO3.out.trans (Only.of hb4 _))
    have HV4 := hid (HV3.out.on hb4)
    clear hr4 hb4 hn4
    go_wp2
    go_ret2
    exact ⟨_, _, true, rfl, HR4.out, HO4.out, HV4.out, fun _ => rfl, fun g h1 => HSEP.out g h1⟩
  · rw [if_neg he]
    dsimp only
    have hne : (er != 0) = true := by rw [bne_iff_ne]; exact he
    go_enter Tryz.func34, Tryz.ntmps34
    go_wp2_with fail
    (with_reducible refine HT.out.mono ?_); rintro e w1 ⟨rfl, ho1, hv1⟩
    have HO1 := hid ho1
    have HV1 := hid hv1
    clear ho1 hv1
    go_wp2_with fail
    (with_reducible refine (HS.out _).mono ?_); rintro e w2 ⟨hb2, v, rfl, hr2⟩
    have HO2 := hid ((HO1.out.more (C := [vb, sb]) (by simp)).trans (Only.of hb2 _))
    have HV2 := hid (HV1.out.on hb2)
    obtain ⟨a, cp, e2⟩ := hr2.shape
    obtain ⟨n, hn⟩ : ∃ n, n = l.length := ⟨_, rfl⟩
    rw [← hn] at e2
    subst e2
    clear hr2 hb2 hn
    go_wp2
    go_ret2
    exact ⟨_, _, true, rfl, RowS.nil _ _, HO2.out, HV2.out, fun _ => rfl, fun g _ h2 => by simp [Value.ownBlock] at h2⟩
set_option maxRecDepth 100000 in
theorem pairsV2_fn {vb sb : Nat} {w : World} {fv : Value} {t : Str} {told : Bool} {cnt : Nat} {f : Fc} (h : ValAt vb sb w fv t told cnt f) (hml : ML w) (ht : t.length ≤ 100000) (hsm : f.small) :
    Calls Tryz.prog 34 #[.pointer (some ⟨vb, 0, none⟩)] w fun e w' => ∃ u fv' told', e = .returned (.tuple #[u, .int .i64 (pairsAns f t).2.1]) ∧ RowS w.heap.size w' u (pairsAns f t).1 ∧ Only [vb, sb] w w' ∧ ValAt vb sb w' fv' t told' cnt (pairsAns f t).2.2 ∧ (told = true → told' = true) ∧ (∀ g, faceOwn fv' = some g → u.ownBlock ≠ some g) := by
  have hf := h.face
  cases f with
  | text =>
    obtain rfl : fv = .nilIface := hf
    exact pairsV2_other h hml ht Tryz.as0D rfl
  | num c =>
    obtain rfl : fv = .iface 82 (.string ⟨c.toArray⟩) := hf
    exact pairsV2_other h hml ht (Tryz.asND _) rfl
  | list l =>
    obtain ⟨u, rfl, hr⟩ := hf
    obtain ⟨a, cp, rfl⟩ := hr.shape
    exact pairsV2_other h hml ht (Tryz.asED _ _ _) rfl
  | dict l =>
    obtain ⟨u, rfl, hr⟩ := hf
    have c1 : w.cell? ⟨vb, 1, none⟩ = some (.iface 95 u) := by rw [Lib.cell_of_heap h.val]; rfl
    have hC := hid (cloneP_fn hr.strs hsm)
    obtain ⟨a, cp, rfl⟩ := hr.shape
    have H := hid h
    have HRR := hid (fun g hg => (hr.lt g hg).1)
    obtain ⟨n, hn⟩ : ∃ n, n = l.length := ⟨_, rfl⟩
    rw [← hn] at c1 hC H HRR
    have hta := Tryz.asDD a n cp
    clear h hr hn
    show Calls _ _ _ _ fun e w' => ∃ u fv' told', e = .returned (.tuple #[u, .int .i64 0]) ∧ RowS w.heap.size w' u l ∧ Only [vb, sb] w w' ∧ ValAt vb sb w' fv' t told' cnt (.dict l) ∧ (told = true → told' = true) ∧ (∀ g, faceOwn fv' = some g → u.ownBlock ≠ some g)
    go_enter Tryz.func34, Tryz.ntmps34
    go_wp2_with fail
    (with_reducible refine hC.out.mono ?_); rintro e w4 ⟨u, rfl, hr4, hb4⟩
    obtain ⟨a4, c4, e4⟩ := hr4.shape
    obtain ⟨n4, hn4⟩ : ∃ n, n = l.length := ⟨_, rfl⟩
    rw [← hn4] at e4
    subst e4
    have HSEP := hid (show ∀ g, (Value.slice a n cp).ownBlock = some g → (Value.slice a4 n4 c4).ownBlock ≠ some g from fun g h1 h2 => by
      have x1 := HRR.out g h1
      have x2 := (hr4.lt g h2).2
      omega)
    have HR4 := hid hr4
    have HO4 := hid (Only.of hb4 [vb, sb])
    have HV4 := hid (H.out.on hb4)
    clear hr4 hb4 hn4
    go_wp2
    go_ret2
    exact ⟨_, _, told, rfl, HR4.out, HO4.out, HV4.out, id, fun g h1 => HSEP.out g h1⟩
/-- a text of a row that is not the face's is written -/
theorem ValAt.wrote {vb sb : Nat} {w : World} {fv : Value} {t : Str} {told : Bool} {cnt : Nat} {f : Fc} (h : ValAt vb sb w fv t told cnt f) {w' : World} {g : Nat} (ho : Only [g] w w') {cs : Array Value} (hg : w.heap[g]? = some (.cells cs 9 (0, 0))) (hne : faceOwn fv ≠ some g) : ValAt vb sb w' fv t told cnt f := by
  have n1 : vb ≠ g := kinds_ne h.val hg (by decide)
  have n2 : sb ≠ g := kinds_ne h.shr hg (by decide)
  refine ⟨ho.cells h.shr (by simp [n2]), ho.cells h.val (by simp [n1]), ?_, h.un⟩
  cases f with
  | text => exact h.face
  | num c => exact h.face
  | list l =>
    obtain ⟨u, rfl, hr⟩ := h.face
    exact ⟨u, rfl, ownsRow_heap2 hr fun k cur hk hc => ho.cells hc fun e => hne (by simp only [List.mem_singleton] at e; rw [← e]; exact hk)⟩
  | dict l =>
    obtain ⟨u, rfl, hr⟩ := h.face
    exact ⟨u, rfl, ownsRow_heap2 hr fun k cur hk hc => ho.cells hc fun e => hne (by simp only [List.mem_singleton] at e; rw [← e]; exact hk)⟩
theorem Only.fresh {A : List Nat} {w w' : World} (h : Only A w w') {a : Addr} (ha : w.heap.size ≤ a.block) (v : Value) : Only A w (w'.setCell a v) :=
  ⟨h.os, h.tape, h.output, by simpa [World.setCell] using h.size, fun k hk hA => (Below.heap_setCell _ _ _ _ (by show k ≠ a.block; omega)).trans (h.block k hk hA)⟩
end Go.Proofs.YtabhkoklcjhlpaaGreatDoor.Pz
/-
  value: put, enter; the store: Copy, Append, Forget.
-/
namespace Go.Proofs.YtabhkoklcjhlpaaGreatDoor.Pz
open Go.RowKit
set_option maxRecDepth 100000 in
set_option maxHeartbeats 1000000 in
theorem put_fn {vb sb : Nat} {w : World} {fv fv' : Value} {t : Str} {told : Bool} {cnt : Nat} {f f' : Fc} (h : ValAt vb sb w fv t told cnt f) (hml : ML w) (h1 : 1 ≤ cnt) (hc : cnt ≤ 1000000) (t' : Str) (hf : FaceIs w fv' f') :
    Calls Tryz.prog 98 #[.pointer (some ⟨vb, 0, none⟩), .string ⟨t'.toArray⟩, fv'] w fun e w' => e = .returned (.tuple #[]) ∧ Only [vb, sb] w w' ∧ ∃ sb', ValAt vb sb' w' fv' t' true 1 f' ∧ Left sb sb' cnt t w w' := by
  have HT := hid (text_fn h hml)
  have HO := fun (w1 : World) (h2 : ValAt vb sb w1 fv t true cnt f) (h3 : ML w1) => hid (own_fn h2 h3 h1 hc)
  have HNOT := hid (h.only hml)
  have HM := hid hml
  have HF := hid hf
  have H := hid h
  have hfv : fv' = .nilIface ∨ ∃ T u, fv' = .iface T u := by
    rcases hf.nil_or with h1 | ⟨_, _, _, h1, _⟩ | ⟨_, _, h1⟩ | ⟨_, _, _, h1, _⟩
    · exact .inl h1
    · exact .inr ⟨_, _, h1⟩
    · exact .inr ⟨_, _, h1⟩
    · exact .inr ⟨_, _, h1⟩
  clear h hml hf
  have fin : ∀ (w1 w2 : World) (sb' : Nat), Only [sb] w w1 → Only [vb, sb] w1 w2 → ValAt vb sb' w2 fv t true 1 f → Left sb sb' cnt t w1 w2 →
      w2.cell? ⟨vb, 0, none⟩ = some (.pointer (some ⟨sb', 0, none⟩)) ∧ w2.frozen? ⟨sb', 0, none⟩ = false ∧ (w2.setCell ⟨sb', 0, none⟩ (.string ⟨t'.toArray⟩)).frozen? ⟨vb, 1, none⟩ = false ∧ (∃ x, w2.cell? ⟨sb', 0, none⟩ = some x) ∧ (w2.setCell ⟨sb', 0, none⟩ (.string ⟨t'.toArray⟩)).cell? ⟨vb, 1, none⟩ = some fv ∧
      Only [vb, sb] w ((w2.setCell ⟨sb', 0, none⟩ (.string ⟨t'.toArray⟩)).setCell ⟨vb, 1, none⟩ fv') ∧ ValAt vb sb' ((w2.setCell ⟨sb', 0, none⟩ (.string ⟨t'.toArray⟩)).setCell ⟨vb, 1, none⟩ fv') fv' t' true 1 f' ∧ Left sb sb' cnt t w ((w2.setCell ⟨sb', 0, none⟩ (.string ⟨t'.toArray⟩)).setCell ⟨vb, 1, none⟩ fv') := by
    intro w1 w2 sb' ho1 ho2 hv2 hl
    have hne := hv2.ne
    have hne0 := H.out.ne
    have hvl := H.out.vlt
    have s3 : (w2.setCell ⟨sb', 0, none⟩ (.string ⟨t'.toArray⟩)).heap[sb']? = some (.cells #[.string ⟨t'.toArray⟩, .bool true, .int .i64 1] 94 (0, 0)) := by simp [World.setCell, Array.getElem?_modify, hv2.shr]
    have v3 : (w2.setCell ⟨sb', 0, none⟩ (.string ⟨t'.toArray⟩)).heap[vb]? = some (.cells #[.pointer (some ⟨sb', 0, none⟩), fv] 88 (0, 0)) := (Below.heap_setCell _ _ _ _ (by show vb ≠ sb'; exact hne)).trans hv2.val
    have s4 : ((w2.setCell ⟨sb', 0, none⟩ (.string ⟨t'.toArray⟩)).setCell ⟨vb, 1, none⟩ fv').heap[sb']? = some (.cells #[.string ⟨t'.toArray⟩, .bool true, .int .i64 1] 94 (0, 0)) := (Below.heap_setCell _ _ _ _ (by show sb' ≠ vb; exact Ne.symm hne)).trans s3
    have v4 : ((w2.setCell ⟨sb', 0, none⟩ (.string ⟨t'.toArray⟩)).setCell ⟨vb, 1, none⟩ fv').heap[vb]? = some (.cells #[.pointer (some ⟨sb', 0, none⟩), fv'] 88 (0, 0)) := by
      rw [World.setCell, Array.getElem?_modify, if_pos rfl, v3]
      rfl
    have ho3 : Only [vb, sb] w (w2.setCell ⟨sb', 0, none⟩ (.string ⟨t'.toArray⟩)) := by
      have h12 := (ho1.more (C := [vb, sb]) (by simp)).trans ho2
      rcases hl with ⟨_, h2⟩ | ⟨_, h2, _⟩
      · rw [h2]
        exact h12.trans (Only.set (by simp) _)
      · exact h12.fresh (Nat.le_trans ho1.size h2) _
    have ho4 : Only [vb, sb] w ((w2.setCell ⟨sb', 0, none⟩ (.string ⟨t'.toArray⟩)).setCell ⟨vb, 1, none⟩ fv') := ho3.trans (Only.set (by simp) _)
    have hface : FaceIs ((w2.setCell ⟨sb', 0, none⟩ (.string ⟨t'.toArray⟩)).setCell ⟨vb, 1, none⟩ fv') fv' f' := FaceIs.keep HF.out fun k cur hc => ho4.cells hc (by
      have x1 := kinds_ne hc H.out.val (by decide)
      have x2 := kinds_ne hc H.out.shr (by decide)
      simp [x1, x2])
    refine ⟨by rw [Lib.cell_of_heap hv2.val]; rfl, Lib.frozen_of_heap hv2.shr 0, Lib.frozen_of_heap v3 1, ⟨_, by rw [Lib.cell_of_heap hv2.shr]; rfl⟩, by rw [Lib.cell_of_heap v3]; rfl, ho4, ⟨s4, v4, hface, fun h => by cases h⟩, ?_⟩
    rcases hl with ⟨g1, g2⟩ | ⟨g1, g2, g3⟩
    · exact .inl ⟨g1, g2⟩
    · refine .inr ⟨g1, Nat.le_trans ho1.size g2, ?_⟩
      have z := ho1.size
      rw [Below.heap_setCell _ _ _ _ (by show sb ≠ vb; exact Ne.symm hne0), Below.heap_setCell _ _ _ _ (by show sb ≠ sb'; omega)]
      exact g3
  have FIN := hid fin
  clear fin
  rcases hfv with rfl | ⟨T, u, rfl⟩
  all_goals
    go_enter Tryz.func98, Tryz.ntmps98
    go_wp2_with fail
    (with_reducible refine HT.out.mono ?_); rintro e w1 ⟨rfl, ho1, hv1⟩
    have HO1 := hid ho1
    have HOW := HO w1 hv1 (HM.out.only ho1 (by simpa using HNOT.out.2))
    clear ho1 hv1 HO
    go_wp2_with fail
    (with_reducible refine HOW.out.mono ?_); rintro e w2 ⟨rfl, ho2, sb', hv2, hl⟩
    obtain ⟨k1, k2, k3, ⟨x, k4⟩, k5, k6, k7, k8⟩ := FIN.out w1 w2 sb' HO1.out ho2 hv2 hl
    have K6 := hid k6
    have K7 := hid k7
    have K8 := hid k8
    clear ho2 hv2 hl k6 k7 k8
    go_wp2
    go_end0
    exact ⟨rfl, K6.out, sb', K7.out, K8.out⟩
def enterErr (l : List Str) : Int := if 10000 < l.length then 4 else if (joinRes l).2 = 0 then 0 else 3
theorem enterErr_ok {l : List Str} (h : enterErr l = 0) : joinOk l := by
  unfold enterErr at h
  split at h
  · cases h
  · split at h
    · rename_i h2
      exact joinOk_of h2
    · cases h
/-- what 'enter' leaves -/
def EnterQ (vb sb cnt : Nat) (w : World) (fv' : Value) (t : Str) (l : List Str) (f' : Fc) (w' : World) : Prop :=
  if enterErr l = 0 then Only [vb, sb] w w' ∧ ∃ sb', ValAt vb sb' w' fv' (quotedL l) true 1 f' ∧ Left sb sb' cnt t w w' else Below w.heap.size w w'
theorem EnterQ.bad {vb sb cnt : Nat} {w w' : World} {fv' : Value} {t : Str} {l : List Str} {f' : Fc} (h : enterErr l ≠ 0) (hb : Below w.heap.size w w') : EnterQ vb sb cnt w fv' t l f' w' := by
  unfold EnterQ
  rw [if_neg h]
  exact hb
set_option maxRecDepth 100000 in
set_option maxHeartbeats 1000000 in
theorem enter_fn {vb sb B : Nat} {w : World} {fv fv' lv : Value} {t : Str} {told : Bool} {cnt : Nat} {f f' : Fc} {l : List Str} (h : ValAt vb sb w fv t told cnt f) (hml : ML w) (h1 : 1 ≤ cnt) (hc : cnt ≤ 1000000) (hl : RowS B w lv l) (hll : l.length ≤ 1000000) (hf : FaceIs w fv' f') :
    Calls Tryz.prog 99 #[.pointer (some ⟨vb, 0, none⟩), lv, fv'] w fun e w' => e = .returned (.int .i64 (enterErr l)) ∧ EnterQ vb sb cnt w fv' t l f' w' := by
  have HJ := joinA_fn l lv w hml hl.strs (by omega)
  have HP := fun (w1 : World) (hb : Below w.heap.size w w1) => hid (put_fn (h.on hb) (hml.below hb) h1 hc (quotedL l) (FaceIs.keep hf fun k cur hc => (hb.block k (Array.getElem?_eq_some_iff.1 hc).1).trans hc))
  have hfv : fv' = .nilIface ∨ ∃ T u, fv' = .iface T u := by
    rcases hf.nil_or with h1 | ⟨_, _, _, h1, _⟩ | ⟨_, _, h1⟩ | ⟨_, _, _, h1, _⟩
    · exact .inl h1
    · exact .inr ⟨_, _, h1⟩
    · exact .inr ⟨_, _, h1⟩
    · exact .inr ⟨_, _, h1⟩
  obtain ⟨a, c, rfl⟩ := hl.shape
  obtain ⟨n, hn⟩ : ∃ n, n = l.length := ⟨_, rfl⟩
  have HN := hid hn
  by_cases hbig : 10000 < l.length
  · have he : enterErr l = 4 := if_pos hbig
    have HBAD := hid (show ∀ w', Below w.heap.size w w' → EnterQ vb sb cnt w fv' t l f' w' from fun w' hb => EnterQ.bad (by rw [he]; decide) hb)
    rw [he]
    rw [← hn] at HJ hbig ⊢
    generalize joinRes l = r at HJ
    obtain ⟨q, er⟩ := r
    dsimp only at HJ
    have HJ := hid HJ
    have hb2 : (n : Int) > 10000 := by omega
    clear hn hl hf h hml he HP
    rcases hfv with rfl | ⟨T, u, rfl⟩
    all_goals
      go_enter Tryz.func99, Tryz.ntmps99
      go_wp2_with fail
      (with_reducible refine HJ.out.mono ?_); rintro e w1 ⟨rfl, hb⟩
      have HB := hid hb
      clear hb
      go_wp2
      go_ret
      exact ⟨rfl, HBAD.out _ HB.out⟩
  · by_cases hj : (joinRes l).2 = 0
    · have he : enterErr l = 0 := by unfold enterErr; rw [if_neg hbig, if_pos hj]
      have hq : joinRes l = (quotedL l, 0) := joinRes_of_ok (joinOk_of hj)
      have HEQ := hid (show ∀ w', (Only [vb, sb] w w' ∧ ∃ sb', ValAt vb sb' w' fv' (quotedL l) true 1 f' ∧ Left sb sb' cnt t w w') → EnterQ vb sb cnt w fv' t l f' w' from fun w' h9 => by unfold EnterQ; rw [if_pos he]; exact h9)
      rw [he]
      rw [hq] at HJ
      dsimp only at HJ
      obtain ⟨Q, hQ⟩ : ∃ Q, Q = quotedL l := ⟨_, rfl⟩
      rw [← hQ] at HJ HP HEQ
      rw [← hn] at HJ hbig ⊢
      have HJ := hid HJ
      have hb2 : ¬ ((n : Int) > 10000) := by omega
      clear hn hl hf h hml he hq hQ hj
      rcases hfv with rfl | ⟨T, u, rfl⟩
      all_goals
        go_enter Tryz.func99, Tryz.ntmps99
        go_wp2_with fail
        (with_reducible refine HJ.out.mono ?_); rintro e w1 ⟨rfl, hb⟩
        have HPP := HP w1 hb
        have HB := hid hb
        clear hb HP
        go_wp2_with fail
        (with_reducible refine HPP.out.mono ?_); rintro e w2 ⟨rfl, ho, sb', hv, hlf⟩
        have HO := hid ((Only.of HB.out _).trans ho)
        have HV := hid hv
        have HL := hid (show Left sb sb' cnt t w w2 from by
          rcases hlf with h | ⟨g1, g2, g3⟩
          · exact .inl h
          · exact .inr ⟨g1, Nat.le_trans HB.out.size g2, g3⟩)
        clear ho hv hlf
        go_wp2
        go_ret
        exact ⟨rfl, HEQ.out _ ⟨HO.out, sb', HV.out, HL.out⟩⟩
    · have he : enterErr l = 3 := by unfold enterErr; rw [if_neg hbig, if_neg hj]
      have HBAD := hid (show ∀ w', Below w.heap.size w w' → EnterQ vb sb cnt w fv' t l f' w' from fun w' hb => EnterQ.bad (by rw [he]; decide) hb)
      rw [he]
      rw [← hn] at HJ hbig ⊢
      generalize joinRes l = r at HJ hj
      obtain ⟨q, er⟩ := r
      dsimp only at HJ hj
      have HJ := hid HJ
      have hb2 : ¬ ((n : Int) > 10000) := by omega
      have hne : (er != 0) = true := by rw [bne_iff_ne]; exact hj
      clear hn hl hf h hml he HP hj
      rcases hfv with rfl | ⟨T, u, rfl⟩
      all_goals
        go_enter Tryz.func99, Tryz.ntmps99
        go_wp2_with fail
        (with_reducible refine HJ.out.mono ?_); rintro e w1 ⟨rfl, hb⟩
        have HB := hid hb
        clear hb
        go_wp2
        go_ret
        exact ⟨rfl, HBAD.out _ HB.out⟩
end Go.Proofs.YtabhkoklcjhlpaaGreatDoor.Pz
/-
  The store: Copy, Append, Put.
-/
namespace Go.Proofs.YtabhkoklcjhlpaaGreatDoor.Pz
open Go.RowKit
def copyA (A : ShA) (k : Int) : (Int × Int) × ShA := match pickA A k with
  | none => ((0, 5), A)
  | some p => (((A.length : Int), 0), A ++ [p])
def appendA (A : ShA) (k : Int) (s : Str) : Int × ShA := match pickA A k with
  | none => (5, A)
  | some p => if p.1.length + s.length ≤ 65536 then (0, A.set k.toNat (p.1 ++ s, .text)) else (3, A)
/-- what a changed list makes of a value; where it fails, what was asked for stays -/
def enterA (A : ShA) (k : Int) (p : Str × Fc) (l : List Str) (g : List Str → Fc) : Int × ShA :=
  if enterErr l = 0 then (0, A.set k.toNat (quotedL l, g l)) else (enterErr l, A.set k.toNat p)
def putA (A : ShA) (k j : Int) (s : Str) : Int × ShA := match pickA A k with
  | none => (5, A)
  | some p =>
    if (listAns p.2 p.1).2.1 ≠ 0 then ((listAns p.2 p.1).2.1, A.set k.toNat (p.1, (listAns p.2 p.1).2.2))
    else if 0 ≤ j ∧ j < ((listAns p.2 p.1).1.length : Int) then enterA A k (p.1, (listAns p.2 p.1).2.2) ((listAns p.2 p.1).1.set j.toNat s) .list
    else (7, A.set k.toNat (p.1, (listAns p.2 p.1).2.2))
section
variable {B st : Nat} {w : World} {v : Value} {S : List SV}
theorem StoreIs.cnt (_h : StoreIs B st w v S) {x : SV} (hx : x ∈ S) (hn : S.length ≤ 100000) : 1 ≤ (S.map SV.sb).count x.sb ∧ (S.map SV.sb).count x.sb ≤ 1000000 := by
  have h1 : 0 < (S.map SV.sb).count x.sb := List.count_pos_iff.2 (List.mem_map.2 ⟨x, hx, rfl⟩)
  have h2 : (S.map SV.sb).count x.sb ≤ (S.map SV.sb).length := List.count_le_length
  rw [List.length_map] at h2
  omega
set_option maxRecDepth 100000 in
set_option maxHeartbeats 1000000 in
theorem copyA_fn (h : StoreIs B st w v S) (k : Int) (hn : S.length ≤ 100000) :
    Calls Tryz.prog 66 #[.pointer (some ⟨st, 0, none⟩), .int .i64 k] w fun e w' => e = .returned (.tuple #[.int .i64 (copyA (shape S) k).1.1, .int .i64 (copyA (shape S) k).1.2]) ∧ StepA B st w v S w' (copyA (shape S) k).2 := by
  unfold copyA
  rw [pickA_shape]
  have hg := gotAns_map S k
  cases hp : pickV S k with
  | none =>
    rw [hp] at hg
    have hgo := got_fn h.sta k
    rw [hg] at hgo
    have HG := hid hgo
    have H := hid h
    clear h hg hgo hp
    dsimp only [Option.map]
    go_enter Tryz.func66, Tryz.ntmps66
    go_wp2_with fail
    (with_reducible refine HG.out.mono ?_); rintro e w1 ⟨rfl, hw⟩
    subst hw
    have HS := hid (Step.refl H.out)
    unfold gotTup
    dsimp only [Option.map]
    have hun : undef = .tuple #[] := rfl
    go_wp2
    go_ret2
    exact ⟨rfl, _, HS.out, rfl⟩
  | some x =>
    rw [hp] at hg
    obtain ⟨i, rfl, hi⟩ := pickV_some hp
    have hxm : x ∈ S := List.mem_of_getElem? hi
    obtain ⟨fv, told, hv⟩ := h.val x hxm
    have hgo := got_fn h.sta (i : Int)
    rw [hg] at hgo
    have HG := hid hgo
    have HC := hid (copied_fn hv (h.cnt hxm hn).2)
    have HV := hid hv
    have HX := hid hxm
    have H := hid h
    have hlen : (S.map SV.vb).length = S.length := by simp
    have hsl := shape_len S
    have hsa := shape_app S
    have HSA := hid hsa
    rw [hsl]
    clear h hg hgo hp hv hxm hi hsl hsa
    dsimp only [Option.map]
    go_enter Tryz.func66, Tryz.ntmps66
    go_wp2_with fail
    (with_reducible refine HG.out.mono ?_); rintro e w1 ⟨rfl, hw⟩
    subst hw
    unfold gotTup
    dsimp only [Option.map]
    go_wp2_with fail
    (with_reducible refine HC.out.mono ?_); rintro e w2 ⟨vb2, rfl, h1, ho2, hs2, hv2⟩
    have hst2 : StAt B st w2 v (S.map SV.vb) := H.out.sta.other ho2 fun k hk => by
      simp only [List.mem_singleton] at hk
      subst hk
      exact H.out.sta.ne HV.out.shr (by decide) (by decide)
    have HA := hid (addG_fn hst2 vb2 (Nat.le_trans H.out.low.2.1 ho2.size) (by omega))
    rw [hlen] at HA
    have HO2 := hid ho2
    have HS2 := hid hs2
    have HV2 := hid hv2
    clear ho2 hs2 hv2 hst2 hlen
    go_wp2_with fail
    (with_reducible refine HA.out.mono ?_); rintro e w3 ⟨rfl, v', hst, ho, hat⟩
    have HR := hid (H.out.copied HX.out HV.out HO2.out HS2.out HV2.out h1 hst ho hat)
    clear hst ho hat
    go_wp2
    go_ret2
    exact ⟨rfl, _, HR.out, HSA.out _⟩
/-- 'put' of a store's value -/
theorem StoreIs.left (h : StoreIs B st w v S) {i : Nat} {x : SV} (hi : S[i]? = some x) {fv fv' : Value} {told : Bool} {sb' : Nat} {t' : Str} {f' : Fc} {w' : World} (hv : ValAt x.vb x.sb w fv x.t told ((S.map SV.sb).count x.sb) x.f)
    (ho : Only [x.vb, x.sb] w w') (hv' : ValAt x.vb sb' w' fv' t' true 1 f') (hl : Left x.sb sb' ((S.map SV.sb).count x.sb) x.t w w') (hf : Fit f' t') (hs : f'.small) (hlen : t'.length ≤ 65536) : StepA B st w v S w' ((shape S).set i (t', f')) :=
  ⟨_, h.putted hi hv ho hv' hl hf hs hlen, shape_set _ _ _⟩
set_option maxRecDepth 100000 in
set_option maxHeartbeats 1000000 in
theorem appendA_fn (h : StoreIs B st w v S) (hml : ML w) (k : Int) (s : Str) (hn : S.length ≤ 100000) (hsl : s.length ≤ 1000000) :
    Calls Tryz.prog 70 #[.pointer (some ⟨st, 0, none⟩), .int .i64 k, .string ⟨s.toArray⟩] w fun e w' => e = .returned (.int .i64 (appendA (shape S) k s).1) ∧ StepA B st w v S w' (appendA (shape S) k s).2 := by
  unfold appendA
  rw [pickA_shape]
  have hg := gotAns_map S k
  cases hp : pickV S k with
  | none =>
    rw [hp] at hg
    have hgo := got_fn h.sta k
    rw [hg] at hgo
    have HG := hid hgo
    have H := hid h
    clear h hg hgo hp hml
    dsimp only [Option.map]
    go_enter Tryz.func70, Tryz.ntmps70
    go_wp2_with fail
    (with_reducible refine HG.out.mono ?_); rintro e w1 ⟨rfl, hw⟩
    subst hw
    have HS := hid (Step.refl H.out)
    unfold gotTup
    dsimp only [Option.map]
    have hun : undef = .tuple #[] := rfl
    go_wp2
    go_ret
    exact ⟨rfl, _, HS.out, rfl⟩
  | some x =>
    rw [hp] at hg
    obtain ⟨i, rfl, hi⟩ := pickV_some hp
    have hxm : x ∈ S := List.mem_of_getElem? hi
    obtain ⟨fv, told, hv⟩ := h.val x hxm
    obtain ⟨hft, hsm, hlen⟩ := h.fit x hxm
    have hgo := got_fn h.sta (i : Int)
    rw [hg] at hgo
    have HG := hid hgo
    have HT := hid (text_fn hv hml)
    have HV := hid hv
    have HI := hid hi
    have H := hid h
    have HM := hid hml
    have HNOT := hid (hv.only hml)
    have HCN := hid (h.cnt hxm hn)
    have HXM := hid hxm
    have HFT := hid (And.intro hft hsm)
    have hsz : (⟨s.toArray⟩ : ByteArray).size = s.length := Lib.size_mk _
    have hxz : (⟨x.t.toArray⟩ : ByteArray).size = x.t.length := Lib.size_mk _
    have happ : (⟨x.t.toArray⟩ : ByteArray) ++ ⟨s.toArray⟩ = ⟨(x.t ++ s).toArray⟩ := by rw [ByteArray.ext_iff]; simp
    have HAP := hid happ
    have hself := hid (set_self hi)
    clear h hg hgo hp hv hxm hi hml hft hsm happ
    dsimp only [Option.map]
    by_cases hle : x.t.length + s.length ≤ 65536
    · rw [if_pos hle]
      have hgt : ¬ (((x.t.length : Nat) : Int) + ((s.length : Nat) : Int) > 65536) := by omega
      dsimp only
      go_enter Tryz.func70, Tryz.ntmps70
      go_wp2_with fail
      (with_reducible refine HG.out.mono ?_); rintro e w1 ⟨rfl, hw⟩
      subst hw
      unfold gotTup
      dsimp only [Option.map]
      go_wp2_with fail
      (with_reducible refine HT.out.mono ?_); rintro e w2 ⟨rfl, ho2, hv2⟩
      have hm2 : ML w2 := HM.out.only ho2 (by simpa using HNOT.out.2)
      have HT2 := hid (text_fn hv2 hm2)
      have HO2 := hid ho2
      have HV2 := hid hv2
      have HM2 := hid hm2
      clear ho2 hv2 hm2
      go_wp2_with fail
      (with_reducible refine HT2.out.mono ?_); rintro e w3 ⟨rfl, ho3, hv3⟩
      have hm3 : ML w3 := HM2.out.only ho3 (by simpa using HNOT.out.2)
      have HP := hid (put_fn (fv' := .nilIface) (f' := .text) hv3 hm3 HCN.out.1 HCN.out.2 (x.t ++ s) rfl)
      have HO3 := hid ((HO2.out.trans ho3).more (C := [x.vb, x.sb]) (by simp))
      have HV3 := hid hv3
      have happ := HAP.out
      clear ho3 hv3 hm3
      go_wp2_with fail
      (with_reducible refine HP.out.mono ?_); rintro e w4 ⟨rfl, ho4, sb', hv4, hl4⟩
      have hh3 := H.out.asked HI.out HV.out HO3.out HV3.out (fun _ => rfl) HFT.out.1 HFT.out.2
      rw [show S.set i { x with f := x.f } = S from hself.out] at hh3
      have hstep := hh3.left HI.out HV3.out ho4 hv4 hl4 trivial trivial (by rw [List.length_append]; exact hle)
      have HR := hid (show StepA B st w1 v S w4 ((shape S).set i (x.t ++ s, .text)) from by
        obtain ⟨S', ⟨v', a1, a2, a3⟩, a4⟩ := hstep
        exact ⟨S', ⟨v', a1, (HO3.out.more (foot_val HXM.out)).trans a2, fun k hk => (a3 k hk).imp id fun e => Nat.le_trans HO3.out.size e⟩, a4⟩)
      clear hh3 hstep ho4 hv4 hl4
      go_wp2
      go_ret
      exact ⟨rfl, HR.out⟩
    · rw [if_neg hle]
      have hgt : ((x.t.length : Nat) : Int) + ((s.length : Nat) : Int) > 65536 := by omega
      dsimp only
      go_enter Tryz.func70, Tryz.ntmps70
      go_wp2_with fail
      (with_reducible refine HG.out.mono ?_); rintro e w1 ⟨rfl, hw⟩
      subst hw
      unfold gotTup
      dsimp only [Option.map]
      go_wp2_with fail
      (with_reducible refine HT.out.mono ?_); rintro e w2 ⟨rfl, ho2, hv2⟩
      have hs := H.out.askedStep HI.out HV.out (ho2.more (C := [x.vb, x.sb]) (by simp)) hv2 (fun _ => rfl) HFT.out.1 HFT.out.2
      rw [show S.set i { x with f := x.f } = S from hself.out] at hs
      have HR := hid hs
      clear ho2 hv2 hs
      go_wp2
      go_ret
      exact ⟨rfl, _, HR.out, rfl⟩
end
end Go.Proofs.YtabhkoklcjhlpaaGreatDoor.Pz
/-
  The store: Put.
-/
namespace Go.Proofs.YtabhkoklcjhlpaaGreatDoor.Pz
open Go.RowKit
section
variable {B st : Nat} {w : World} {v : Value} {S : List SV}
theorem StepA.behind {i : Nat} {x : SV} (hi : S[i]? = some x) {f2 : Fc} {w3 w4 : World} {A : ShA} (ho : Only [x.vb, x.sb] w w3) (h : StepA B st w3 v (S.set i { x with f := f2 }) w4 A) : StepA B st w v S w4 A := by
  obtain ⟨S', ⟨v', a1, a2, a3⟩, a4⟩ := h
  rw [foot_set hi] at a2 a3
  exact ⟨S', ⟨v', a1, (ho.more (foot_val (List.mem_of_getElem? hi))).trans a2, fun k hk => (a3 k hk).imp id fun e => Nat.le_trans ho.size e⟩, a4⟩
theorem map_sb_set {i : Nat} {x : SV} (hi : S[i]? = some x) (f2 : Fc) : (S.set i { x with f := f2 }).map SV.sb = S.map SV.sb := by
  rw [List.map_set]
  exact set_self (by rw [List.getElem?_map, hi]; rfl)
/-- behind what a value was asked for: its text is changed, or it is as it was -/
theorem StoreIs.entered (h : StoreIs B st w v S) {i : Nat} {x : SV} (hi : S[i]? = some x) {fv fv2 fv' : Value} {told told2 : Bool} {f2 : Fc} {w3 w4 : World} {l : List Str} {g : List Str → Fc}
    (hv : ValAt x.vb x.sb w fv x.t told ((S.map SV.sb).count x.sb) x.f) (ho : Only [x.vb, x.sb] w w3) (hv3 : ValAt x.vb x.sb w3 fv2 x.t told2 ((S.map SV.sb).count x.sb) f2) (ht : told = true → told2 = true) (hf : Fit f2 x.t) (hs : f2.small)
    (hg : enterErr l = 0 → Fit (g l) (quotedL l) ∧ (g l).small)
    (hr : EnterQ x.vb x.sb ((S.map SV.sb).count x.sb) w3 fv' x.t l (g l) w4) :
    StepA B st w v S w4 (enterA (shape S) i (x.t, f2) l g).2 := by
  have hh := h.asked hi hv ho hv3 ht hf hs
  have hi3 : (S.set i { x with f := f2 })[i]? = some { x with f := f2 } := List.getElem?_set_self (List.getElem?_eq_some_iff.1 hi).1
  refine StepA.behind (f2 := f2) hi ho ?_
  unfold EnterQ at hr
  unfold enterA
  by_cases he : enterErr l = 0
  · rw [if_pos he] at hr ⊢
    obtain ⟨ho4, sb', hv4, hl4⟩ := hr
    obtain ⟨g1, g2⟩ := hg he
    have := hh.left (x := { x with f := f2 }) hi3 (by rw [map_sb_set hi]; exact hv3) ho4 hv4 (by rw [map_sb_set hi]; exact hl4) g1 g2 (enterErr_ok he).2.2
    rw [set_f hi, List.set_set] at this
    exact this
  · rw [if_neg he] at hr ⊢
    exact ⟨_, Step.same hh hr, set_f hi _⟩
set_option maxRecDepth 100000 in
set_option maxHeartbeats 2000000 in
theorem putA_fn (h : StoreIs B st w v S) (hml : ML w) (k j : Int) (s : Str) (hn : S.length ≤ 100000) (_ : s.length ≤ 1000000) :
    Calls Tryz.prog 72 #[.pointer (some ⟨st, 0, none⟩), .int .i64 k, .int .i64 j, .string ⟨s.toArray⟩] w fun e w' => e = .returned (.int .i64 (putA (shape S) k j s).1) ∧ StepA B st w v S w' (putA (shape S) k j s).2 := by
  unfold putA
  rw [pickA_shape]
  have hg := gotAns_map S k
  cases hp : pickV S k with
  | none =>
    rw [hp] at hg
    have hgo := got_fn h.sta k
    rw [hg] at hgo
    have HG := hid hgo
    have H := hid h
    clear h hg hgo hp hml
    dsimp only [Option.map]
    go_enter Tryz.func72, Tryz.ntmps72
    go_wp2_with fail
    (with_reducible refine HG.out.mono ?_); rintro e w1 ⟨rfl, hw⟩
    subst hw
    have HS := hid (Step.refl H.out)
    unfold gotTup
    dsimp only [Option.map]
    have hun : undef = .tuple #[] := rfl
    go_wp2
    go_ret
    exact ⟨rfl, _, HS.out, rfl⟩
  | some x =>
    rw [hp] at hg
    obtain ⟨i, rfl, hi⟩ := pickV_some hp
    have hxm : x ∈ S := List.mem_of_getElem? hi
    obtain ⟨fv, told, hv⟩ := h.val x hxm
    obtain ⟨hft, hsm, hlen⟩ := h.fit x hxm
    have hfit := listAns_fit hft hsm (by omega)
    have hll := (splitE_out x.t).2.1
    rw [← hfit.1] at hll
    have hgo := got_fn h.sta (i : Int)
    rw [hg] at hgo
    have HG := hid hgo
    have hL := listV2_fn hv hml (by omega) hsm
    have HV := hid hv
    have HI := hid hi
    have H := hid h
    have HM := hid hml
    have HCN := hid (h.cnt hxm hn)
    have HB0 := hid h.low
    have hset := fun f2 => set_f hi f2
    have HSF := hid hset
    dsimp only [Option.map]
    generalize listAns x.f x.t = r at hL hfit hll ⊢
    obtain ⟨l, er, f2⟩ := r
    dsimp only at hL hfit hll ⊢
    have hL := hid hL
    have HF2 := hid (And.intro hfit.2.2.2.1 hfit.2.2.2.2)
    clear h hg hgo hp hv hxm hi hml hft hsm hlen hset hfit
    by_cases he : er = 0
    · subst he
      rw [if_neg (by simp)]
      by_cases hj : 0 ≤ j ∧ j < (l.length : Int)
      · rw [if_pos hj]
        obtain ⟨m, rfl⟩ := Int.eq_ofNat_of_zero_le hj.1
        have hm : m < l.length := by omega
        rw [Int.toNat_natCast]
        obtain ⟨n, hn0⟩ : ∃ n, n = l.length := ⟨_, rfl⟩
        have HN0 := hid hn0
        have h1 : ¬ ((m : Int) < 0) := by omega
        have h2 : ¬ ((m : Int) ≥ (n : Int)) := by omega
        have hmn : m < n := by omega
        obtain ⟨l', hl'⟩ : ∃ l', l' = l.set m s := ⟨_, rfl⟩
        have HLS := hid hl'
        have HLEN := hid (show l'.length = l.length by rw [hl', List.length_set])
        rw [← hl']
        clear hj hn0 hl'
        go_enter Tryz.func72, Tryz.ntmps72
        go_wp2_with fail
        (with_reducible refine HG.out.mono ?_); rintro e w1 ⟨rfl, hw⟩
        subst hw
        unfold gotTup
        dsimp only [Option.map]
        go_wp2_with fail
        (with_reducible refine hL.out.mono ?_); rintro e w2 ⟨u, fv2, told2, rfl, hr2, ho2, hv2, htt, hsep⟩
        obtain ⟨a, c, rfl⟩ := hr2.shape
        obtain ⟨g, rfl, _, hc2⟩ := hr2.at hm
        obtain ⟨s1, s2, s3⟩ := hr2.stored m s
        obtain ⟨hgl, cur, hgc⟩ := ownsRow_lt hr2 g rfl
        have hgw := ownsRow_base hr2 g rfl
        rw [← HN0.out] at s1 ⊢
        obtain ⟨w3, hw3⟩ : ∃ w3, w3 = w2.setCell ⟨g, m, none⟩ (.string ⟨s.toArray⟩) := ⟨_, rfl⟩
        rw [← hw3] at s1 s2
        have ho3 : Only [g] w2 w3 := by rw [hw3]; exact Only.set (by simp) _
        have hv3 := hv2.wrote ho3 hgc (fun e => hsep g e rfl)
        have ho23 : Only [x.vb, x.sb] w1 w3 := by rw [hw3]; exact ho2.fresh (by show w1.heap.size ≤ g; exact hgw) _
        have hm3 : ML w3 := HM.out.only ho23 (by simpa using HV.out.only HM.out)
        rw [← HLS.out] at s1
        have hE := hid (enter_fn hv3 hm3 HCN.out.1 HCN.out.2 (l := l') (fv' := .iface 77 (.slice (some ⟨g, 0, none⟩) n c)) (f' := .list l') s1 (by rw [HLEN.out]; omega) ⟨_, rfl, s1.mono (Nat.zero_le _)⟩)
        have HO23 := hid ho23
        have HV3 := hid hv3
        have HTT := hid htt
        have HW3 := hid hw3
        clear hr2 ho2 hv2 htt hsep s1 s2 hgc hw3 ho3 hv3 ho23 hm3 hgl
        go_wp2_with fail
        rw [← HW3.out]
        (with_reducible refine hE.out.mono ?_); rintro e w4 ⟨rfl, hr⟩
        have HR := hid (H.out.entered HI.out HV.out HO23.out HV3.out HTT.out HF2.out.1 HF2.out.2 (g := Fc.list) (fun he => ⟨quoted_fit (enterErr_ok he), by show l'.length ≤ 1000000; rw [HLEN.out]; omega⟩) hr)
        have HEE := hid (show (enterA (shape S) i (x.t, f2) l' .list).1 = enterErr l' by
          unfold enterA
          split
          · rename_i h; exact h.symm
          · rfl)
        clear hr
        go_wp2
        go_ret
        rw [HEE.out]
        exact ⟨rfl, HR.out⟩
      · rw [if_neg hj]
        obtain ⟨n, hn0⟩ : ∃ n, n = l.length := ⟨_, rfl⟩
        by_cases h1 : j < 0
        · clear hj
          go_enter Tryz.func72, Tryz.ntmps72
          go_wp2_with fail
          (with_reducible refine HG.out.mono ?_); rintro e w1 ⟨rfl, hw⟩
          subst hw
          unfold gotTup
          dsimp only [Option.map]
          go_wp2_with fail
          (with_reducible refine hL.out.mono ?_); rintro e w2 ⟨u, fv2, told2, rfl, hr2, ho2, hv2, htt, hsep⟩
          obtain ⟨a, c, rfl⟩ := hr2.shape
          have HR := hid (H.out.askedStep HI.out HV.out ho2 hv2 htt HF2.out.1 HF2.out.2)
          have hun : undef = .tuple #[] := rfl
          rw [← hn0]
          clear hr2 ho2 hv2 htt hsep hn0
          go_wp2
          go_ret
          exact ⟨rfl, _, HR.out, HSF.out _⟩
        · have h2 : j ≥ (n : Int) := by omega
          clear hj
          go_enter Tryz.func72, Tryz.ntmps72
          go_wp2_with fail
          (with_reducible refine HG.out.mono ?_); rintro e w1 ⟨rfl, hw⟩
          subst hw
          unfold gotTup
          dsimp only [Option.map]
          go_wp2_with fail
          (with_reducible refine hL.out.mono ?_); rintro e w2 ⟨u, fv2, told2, rfl, hr2, ho2, hv2, htt, hsep⟩
          obtain ⟨a, c, rfl⟩ := hr2.shape
          have HR := hid (H.out.askedStep HI.out HV.out ho2 hv2 htt HF2.out.1 HF2.out.2)
          rw [← hn0]
          clear hr2 ho2 hv2 htt hsep hn0
          go_wp2
          go_ret
          exact ⟨rfl, _, HR.out, HSF.out _⟩
    · rw [if_pos he]
      have hne : (er != 0) = true := by rw [bne_iff_ne]; exact he
      go_enter Tryz.func72, Tryz.ntmps72
      go_wp2_with fail
      (with_reducible refine HG.out.mono ?_); rintro e w1 ⟨rfl, hw⟩
      subst hw
      unfold gotTup
      dsimp only [Option.map]
      go_wp2_with fail
      (with_reducible refine hL.out.mono ?_); rintro e w2 ⟨u, fv2, told2, rfl, hr2, ho2, hv2, htt, hsep⟩
      obtain ⟨a, c, rfl⟩ := hr2.shape
      have HR := hid (H.out.askedStep HI.out HV.out ho2 hv2 htt HF2.out.1 HF2.out.2)
      generalize l.length = n
      clear hr2 ho2 hv2 htt hsep
      go_wp2
      go_ret
      exact ⟨rfl, _, HR.out, HSF.out _⟩
end
end Go.Proofs.YtabhkoklcjhlpaaGreatDoor.Pz
/-
  The store: Enter.
-/
namespace Go.Proofs.YtabhkoklcjhlpaaGreatDoor.Pz
open Go.RowKit
/-- a key is set -/
def dictSet (l : List Str) (key s : Str) : List Str := flatP ((setK (bookOf [] [] l).1 key).zip (setV (bookOf [] [] l).1 (bookOf [] [] l).2 key s))
theorem dictSet_flat {Ks Vs : List Str} (hl : Vs.length = Ks.length) (hn : Ks.Nodup) (key s : Str) : dictSet (flatP (Ks.zip Vs)) key s = flatP ((setK Ks key).zip (setV Ks Vs key s)) := by
  unfold dictSet
  rw [bookOf_flat Ks Vs hl [] [] (by simpa using hn)]
  rfl
theorem dictSet_dict {l : List Str} (hd : DictL l) (key s : Str) : DictL (dictSet l key s) ∧ (dictSet l key s).length ≤ l.length + 2 := by
  obtain ⟨Ks, Vs, hl, hn, rfl⟩ := hd
  rw [dictSet_flat hl hn, flat_len hl, flat_len (setV_len hl key s)]
  have := setK_len Ks key
  exact ⟨⟨_, _, setV_len hl key s, setK_nodup hn key, rfl⟩, by omega⟩
def enterKeyA (A : ShA) (k : Int) (key s : Str) : Int × ShA := match pickA A k with
  | none => (5, A)
  | some p =>
    if (pairsAns p.2 p.1).2.1 ≠ 0 then ((pairsAns p.2 p.1).2.1, A.set k.toNat (p.1, (pairsAns p.2 p.1).2.2))
    else enterA A k (p.1, (pairsAns p.2 p.1).2.2) (dictSet (pairsAns p.2 p.1).1 key s) .dict
theorem app_two {w : World} {N : Nat} (hN : w.heap.size = N) {ops : Array Oper} {rest : List Oper} {o : Oper} {a : Act} {Q : Exit → Act → World → Prop} (hgd : o.guard = none) (s x : Operand)
    (ho : o.op = .call { callee := .builtin .append, args := #[s, x], argTypes := #[22, 22] }) (B : Nat) (v : Value) (l : List Str) (q r : Str)
    (hs : a.eval s = v) (hown : RowS B w v l) (hx : a.eval x = .slice (some ⟨N, 0, none⟩) 2 2) (hB : B ≤ w.heap.size) (hl : l.length ≤ 10000000)
    (h : ∀ v' w', RowS B w' v' (l ++ [q, r]) → w.grownBy w' v.ownBlock → (∀ g, v'.ownBlock = some g → v.ownBlock = some g ∨ w.heap.size ≤ g) → wpList Tryz.prog ops Q rest (a.put o.dst v') w') :
    wpList Tryz.prog ops Q (o :: rest) a (w.alloc (.cells #[.string ⟨q.toArray⟩, .string ⟨r.toArray⟩] 9)) := by
  obtain ⟨i0, hi, hz0, hz1, hz2⟩ := info_parts Tryz.infoS
  subst hN
  have hown' : (w.alloc (.cells #[.string ⟨q.toArray⟩, .string ⟨r.toArray⟩] 9)).ownsRow B 9 1 v l.length (strCells l) := World.ownsRow.alloc hown _
  refine wpList_append_own_at _ hgd s x 22 ho B 9 i0 (.string ⟨#[]⟩) 1 16 Tryz.underlying22 hi hz0 hz1 hz2 rfl (by decide) v l.length (strCells l) hs hown' ⟨w.heap.size, 0, none⟩ 2 2 [.string ⟨q.toArray⟩, .string ⟨r.toArray⟩] hx rfl (World.news_of_block (heap_alloc_new _ _)) (strCells_one [q, r]) ?_ ?_ ?_ ?_
  · unfold maxLen; omega
  · omega
  · simp; omega
  · intro v' w' hrow hg _ hat
    refine h v' w' ?_ ?_ ?_
    · show w'.ownsRow B 9 1 v' (l ++ [q, r]).length (strCells (l ++ [q, r]))
      rw [strCells_app, List.length_append]
      exact hrow
    · refine ⟨hg.os, hg.tape, hg.output, ?_, fun k hk hr => ?_⟩
      · have := hg.size; simp at this; omega
      · rw [hg.block k (by simp; omega) hr]
        exact Below.heap_alloc _ _ _ (by omega)
    · intro g hgv
      rcases hat with h2 | h2
      · exact .inl (by rw [← h2]; exact hgv)
      · rw [h2] at hgv
        have := Option.some.inj hgv
        (try simp at this)
        exact .inr (by omega)
theorem flat_last (Ks Vs : List Str) (hl : Vs.length = Ks.length) (k s : Str) : (flatP (Ks.zip Vs) ++ [k, []]).set (2 * Ks.length + 1) s = flatP (Ks.zip Vs) ++ [k, s] := by
  have h := flat_len hl
  rw [List.set_append_right _ _ (by omega), h]
  rw [show 2 * Ks.length + 1 - 2 * Ks.length = 1 by omega]
  rfl
theorem ValAt.faceLt {vb sb : Nat} {w : World} {fv : Value} {t : Str} {told : Bool} {cnt : Nat} {f : Fc} (h : ValAt vb sb w fv t told cnt f) {g : Nat} (hg : faceOwn fv = some g) : g < w.heap.size := by
  rcases h.face.nil_or with rfl | ⟨_, _, _, rfl, hr⟩ | ⟨_, _, rfl⟩ | ⟨_, _, _, rfl, hr⟩
  · cases hg
  · exact (hr.lt g hg).1
  · cases hg
  · exact (hr.lt g hg).1
/-- a row that is not the face's has grown -/
theorem ValAt.grown {vb sb : Nat} {w w' : World} {fv u : Value} {t : Str} {told : Bool} {cnt : Nat} {f : Fc} (h : ValAt vb sb w fv t told cnt f) (hg : w.grownBy w' u.ownBlock) (hu : ∀ g, u.ownBlock = some g → ∃ cs : Array Value, w.heap[g]? = some (.cells cs 9 (0, 0))) (hne : ∀ g, faceOwn fv = some g → u.ownBlock ≠ some g) : ValAt vb sb w' fv t told cnt f := by
  have n1 : u.ownBlock ≠ some vb := fun e => by
    obtain ⟨cs, hc⟩ := hu vb e
    exact kinds_ne h.val hc (by decide) rfl
  have n2 : u.ownBlock ≠ some sb := fun e => by
    obtain ⟨cs, hc⟩ := hu sb e
    exact kinds_ne h.shr hc (by decide) rfl
  have key : ∀ k, k < w.heap.size → u.ownBlock ≠ some k → w'.heap[k]? = w.heap[k]? := fun k hk hn => hg.block k hk fun e => hn e.symm
  refine ⟨(key sb h.vlt.2 n2).trans h.shr, (key vb h.vlt.1 n1).trans h.val, ?_, h.un⟩
  cases f with
  | text => exact h.face
  | num c => exact h.face
  | list l =>
    obtain ⟨x, rfl, hr⟩ := h.face
    exact ⟨x, rfl, ownsRow_heap2 hr fun k cur hk hc => (key k (Array.getElem?_eq_some_iff.1 hc).1 (hne k hk)).trans hc⟩
  | dict l =>
    obtain ⟨x, rfl, hr⟩ := h.face
    exact ⟨x, rfl, ownsRow_heap2 hr fun k cur hk hc => (key k (Array.getElem?_eq_some_iff.1 hc).1 (hne k hk)).trans hc⟩
section
variable {B st : Nat} {w : World} {v : Value} {S : List SV}
/-- what 'at' is behind j keys -/
def atI (Ks : List Str) (key : Str) (j : Nat) : Int := match idx Ks key with
  | some m => if m < j then ((2 * m : Nat) : Int) else -1
  | none => -1
set_option maxRecDepth 100000 in
set_option maxHeartbeats 4000000 in
theorem enterKeyA_fn (h : StoreIs B st w v S) (hml : ML w) (k : Int) (key s : Str) (hn : S.length ≤ 100000) (_ : s.length ≤ 1000000) :
    Calls Tryz.prog 74 #[.pointer (some ⟨st, 0, none⟩), .int .i64 k, .string ⟨key.toArray⟩, .string ⟨s.toArray⟩] w fun e w' => e = .returned (.int .i64 (enterKeyA (shape S) k key s).1) ∧ StepA B st w v S w' (enterKeyA (shape S) k key s).2 := by
  unfold enterKeyA
  rw [pickA_shape]
  have hg := gotAns_map S k
  cases hp : pickV S k with
  | none =>
    rw [hp] at hg
    have hgo := got_fn h.sta k
    rw [hg] at hgo
    have HG := hid hgo
    have H := hid h
    clear h hg hgo hp hml
    dsimp only [Option.map]
    go_enter Tryz.func74, Tryz.ntmps74
    go_wp2_with fail
    (with_reducible refine HG.out.mono ?_); rintro e w1 ⟨rfl, hw⟩
    subst hw
    have HS := hid (Step.refl H.out)
    unfold gotTup
    dsimp only [Option.map]
    have hun : undef = .tuple #[] := rfl
    go_wp2
    go_ret
    exact ⟨rfl, _, HS.out, rfl⟩
  | some x =>
    rw [hp] at hg
    obtain ⟨i, rfl, hi⟩ := pickV_some hp
    have hxm : x ∈ S := List.mem_of_getElem? hi
    obtain ⟨fv, told, hv⟩ := h.val x hxm
    obtain ⟨hft, hsm, hlen⟩ := h.fit x hxm
    have hfit := pairsAns_fit hft hsm (by omega)
    have hll : (pairsAns x.f x.t).1.length ≤ 200000 := by
      rw [hfit.1]
      have := pairsE_len x.t
      omega
    have hdl : DictL (pairsAns x.f x.t).1 := by rw [hfit.1]; exact pairsE_dict _
    have hgo := got_fn h.sta (i : Int)
    rw [hg] at hgo
    have HG := hid hgo
    have hL := pairsV2_fn hv hml (by omega) hsm
    have HV := hid hv
    have HI := hid hi
    have H := hid h
    have HM := hid hml
    have HCN := hid (h.cnt hxm hn)
    have hset := fun f2 => set_f hi f2
    have HSF := hid hset
    dsimp only [Option.map]
    generalize pairsAns x.f x.t = r at hL hfit hll hdl ⊢
    obtain ⟨l, er, f2⟩ := r
    dsimp only at hL hfit hll hdl ⊢
    have hL := hid hL
    have HF2 := hid (And.intro hfit.2.2.2.1 hfit.2.2.2.2)
    clear h hg hgo hp hv hxm hi hml hft hsm hlen hset hfit
    by_cases he : er = 0
    · subst he
      rw [if_neg (by simp)]
      obtain ⟨l', hl'⟩ : ∃ l', l' = dictSet l key s := ⟨_, rfl⟩
      have hds := dictSet_dict hdl key s
      rw [← hl'] at hds ⊢
      obtain ⟨Ks, Vs, hkv, hnd, rfl⟩ := hdl
      rw [dictSet_flat hkv hnd] at hl'
      have HL' := hid hl'
      have HDS := hid hds
      obtain ⟨n, hn0⟩ : ∃ n, n = Ks.length := ⟨_, rfl⟩
      have hfl : (flatP (Ks.zip Vs)).length = 2 * n := by rw [hn0]; exact flat_len hkv
      have HN0 := hid hn0
      have HFL := hid hfl
      have HKV := hid hkv
      have HND := hid hnd
      rw [hfl] at hll
      have hl'b : l'.length ≤ 1000000 := by have := hds.2; rw [hfl] at this; omega
      have HLB := hid hl'b
      clear hl' hds hkv hnd hn0 hfl hl'b
      -- the end: the text is entered
      have fin : ∀ (w3 : World) (u : Value) (fv2 : Value) (told2 : Bool) (hr : RowS w.heap.size w3 u l') (ho : Only [x.vb, x.sb] w w3) (hv3 : ValAt x.vb x.sb w3 fv2 x.t told2 ((S.map SV.sb).count x.sb) f2) (htt : told = true → told2 = true),
          Calls Tryz.prog 99 #[.pointer (some ⟨x.vb, 0, none⟩), u, .iface 95 u] w3 fun e w' => e = .returned (.int .i64 (enterA (shape S) i (x.t, f2) l' .dict).1) ∧ StepA B st w v S w' (enterA (shape S) i (x.t, f2) l' .dict).2 := by
        intro w3 u fv2 told2 hr ho hv3 htt
        have hm3 : ML w3 := HM.out.only ho (by simpa using HV.out.only HM.out)
        refine (enter_fn hv3 hm3 HCN.out.1 HCN.out.2 (l := l') (fv' := .iface 95 u) (f' := .dict l') hr HLB.out ⟨_, rfl, hr.mono (Nat.zero_le _)⟩).mono ?_
        rintro e w4 ⟨rfl, hq⟩
        refine ⟨?_, H.out.entered HI.out HV.out ho hv3 htt HF2.out.1 HF2.out.2 (g := Fc.dict) (fun he => ⟨pairsE_quoted HDS.out.1 (enterErr_ok he).1, HLB.out⟩) hq⟩
        unfold enterA
        split
        · rename_i h; rw [h]
        · rfl
      have FIN := hid fin
      clear fin
      obtain ⟨R, hR⟩ : ∃ R, R = enterA (shape S) i (x.t, f2) l' .dict := ⟨_, rfl⟩
      rw [← hR] at FIN ⊢
      clear hR
      go_enter Tryz.func74, Tryz.ntmps74
      go_wp2_with fail
      (with_reducible refine HG.out.mono ?_); rintro e w1 ⟨rfl, hw⟩
      subst hw
      unfold gotTup
      dsimp only [Option.map]
      go_wp2_with fail
      (with_reducible refine hL.out.mono ?_); rintro e w2 ⟨u, fv2, told2, rfl, hr2, ho2, hv2, htt, hsep⟩
      obtain ⟨a, c, rfl⟩ := hr2.shape
      rw [HFL.out] at hr2 hsep ⊢
      have HR2 := hid hr2
      have HO2 := hid ho2
      have HV2 := hid hv2
      have HTT := hid htt
      have HSEP := hid hsep
      clear hr2 ho2 hv2 htt hsep
      go_wp2
      go_loopg [12, 13] (n + 1) (fun k av iv wr => ∃ (j : Nat), av = .int .i64 (atI Ks key j) ∧ iv = .int .i64 ((2 * j : Nat) : Int) ∧ j ≤ n ∧ wr = w2 ∧ k = n + 1 - j)
      case atStart => exact ⟨0, by unfold atI; cases idx Ks key <;> simp, rfl, Nat.zero_le _, rfl, rfl⟩
      case round =>
        obtain ⟨j, rfl, rfl, hj, hw, rfl⟩ := hrel
        replace hw := hw.symm
        subst hw
        by_cases hjn : j < n
        · have hjk : j < Ks.length := by rw [← HN0.out]; exact hjn
          obtain ⟨g, rfl, hx1, hc⟩ := HR2.out.at (i := 2 * j) (by rw [HFL.out]; omega)
          clear hx1
          have hk := flat_key Ks Vs HKV.out j
          rw [List.getElem?_eq_getElem (by rw [HFL.out]; omega), List.getElem?_eq_getElem hjk] at hk
          rw [Option.some.inj hk] at hc
          obtain ⟨y, hy⟩ : ∃ y, y = Ks[j] := ⟨_, rfl⟩
          rw [← hy] at hc
          have HY := hid hy
          have h2 : 2 * j < 2 * n := by omega
          clear hk hy
          by_cases heq : y = key
          · have HAT := hid (show atI Ks key (j + 1) = ((2 * j : Nat) : Int) by
              have : idx Ks key = some j := by
                refine idx_first (by rw [List.getElem?_eq_getElem hjk, ← HY.out, heq]) fun m hm => ?_
                have hmk : m < Ks.length := by omega
                rw [List.getElem?_eq_getElem hmk]
                intro e
                have e2 : Ks[m] = Ks[j] := by rw [← HY.out, heq]; exact Option.some.inj e
                have := (List.getElem_inj HND.out).1 e2
                omega
              unfold atI
              rw [this]
              dsimp only
              rw [if_pos (by omega)])
            have hyk : (y == key) = true := beq_iff_eq.2 heq
            clear heq
            go_wp2
            go_roundg (n + 1 - (j + 1))
            case measure => omega
            case rel => exact ⟨j + 1, by rw [HAT.out], by go_num, by omega, rfl, rfl⟩
          · have HAT := hid (show atI Ks key (j + 1) = atI Ks key j by
              unfold atI
              cases hix : idx Ks key with
              | none => rfl
              | some m =>
                have h1 := idx_some hix
                dsimp only
                by_cases hmj : m = j
                · subst hmj
                  rw [List.getElem?_eq_getElem hjk] at h1
                  exact absurd (by rw [HY.out]; exact Option.some.inj h1) heq
                · by_cases hlt : m < j
                  · rw [if_pos hlt, if_pos (by omega)]
                  · rw [if_neg hlt, if_neg (by omega)])
            have hyk : (y == key) = false := by rw [beq_eq_false_iff_ne]; exact heq
            clear heq
            go_wp2
            go_roundg (n + 1 - (j + 1))
            case measure => omega
            case rel => exact ⟨j + 1, by rw [HAT.out], by go_num, by omega, rfl, rfl⟩
        · have hjn2 : j = n := by omega
          have h2 : ¬ (2 * j < 2 * n) := by omega
          cases hix : idx Ks key with
          | some m =>
            have hmk := idx_lt _ _ _ hix
            rw [← HN0.out] at hmk
            have hat : atI Ks key j = ((2 * m : Nat) : Int) := by
              unfold atI
              rw [hix]
              dsimp only
              rw [if_pos (by omega)]
            rw [hat]
            have HLL := hid (show l' = (flatP (Ks.zip Vs)).set (2 * m + 1) s by
              rw [HL'.out, flat_set Ks Vs HKV.out]
              unfold setK setV
              rw [hix])
            obtain ⟨g, rfl, hx1, hc⟩ := HR2.out.at (i := 2 * m + 1) (by rw [HFL.out]; omega)
            clear hx1
            obtain ⟨s1, s2, s3⟩ := HR2.out.stored (2 * m + 1) s
            obtain ⟨hgl, cur, hgc⟩ := ownsRow_lt HR2.out g rfl
            have hgw := ownsRow_base HR2.out g rfl
            rw [← HLL.out] at s1
            have ho3 : Only [g] w2 (w2.setCell ⟨g, 2 * m + 1, none⟩ (.string ⟨s.toArray⟩)) := Only.set (by simp) _
            have hE := hid (FIN.out (w2.setCell ⟨g, 2 * m + 1, none⟩ (.string ⟨s.toArray⟩)) _ fv2 told2 s1 (HO2.out.fresh hgw _) (HV2.out.wrote ho3 hgc (fun e => HSEP.out g e rfl)) HTT.out)
            have hm0 : ¬ (((2 * m : Nat) : Int) < 0) := by omega
            have hm1 : 2 * m + 1 < 2 * n := by omega
            clear hix hat s1 s2 ho3 hgc hgl hjn2 h2
            go_wp2_with fail
            (with_reducible refine hE.out.mono ?_); rintro e w4 ⟨rfl, hr⟩
            have HR := hid hr
            clear hr
            go_wp2
            go_ret
            exact ⟨rfl, HR.out⟩
          | none =>
            have hat : atI Ks key j = -1 := by
              unfold atI
              rw [hix]
            rw [hat]
            have hll2 : (flatP (Ks.zip Vs)).length ≤ 10000000 := by rw [HFL.out]; omega
            have HLL := hid (show l' = (flatP (Ks.zip Vs) ++ [key, []]).set (2 * n + 1) s by
              rw [HN0.out, flat_last Ks Vs HKV.out, HL'.out]
              unfold setK setV
              rw [hix]
              exact flat_snoc Ks Vs HKV.out key s)
            have hws := HO2.out.size
            clear hix hat hjn2 h2
            go_wp2_with (at_builtin; go_loud (refine app_two (w := w2) rfl rfl (.tmp 48) (.tmp 50) rfl w1.heap.size (.slice a (2 * n) c) (flatP (Ks.zip Vs)) key [] rfl HR2.out rfl hws hll2 ?_))
            intro v5 w5 hr5 hg5 hv5
            obtain ⟨a5, c5, e5⟩ := hr5.shape
            have hl9 : (flatP (Ks.zip Vs) ++ [key, []]).length = 2 * n + 2 := by rw [List.length_append, HFL.out]; rfl
            rw [hl9] at e5
            subst e5
            clear hl9
            obtain ⟨g, rfl, hx1, hc⟩ := hr5.at (i := 2 * n + 1) (by rw [List.length_append, HFL.out]; show 2 * n + 1 < 2 * n + 2; omega)
            clear hx1
            obtain ⟨s1, s2, s3⟩ := hr5.stored (2 * n + 1) s
            obtain ⟨hgl, cur, hgc⟩ := ownsRow_lt hr5 g rfl
            have hgw := ownsRow_base hr5 g rfl
            rw [← HLL.out] at s1
            have hub : ∀ q, (Value.slice a (2 * n) c).ownBlock = some q → w1.heap.size ≤ q := fun q hq => (HR2.out.lt q hq).2
            have ho5 : Only [x.vb, x.sb] w1 w5 := ⟨hg5.os.trans HO2.out.os, hg5.tape.trans HO2.out.tape, hg5.output.trans HO2.out.output, Nat.le_trans hws hg5.size, fun q hq hA => (hg5.block q (by omega) fun e => by have := hub q e.symm; omega).trans (HO2.out.block q hq hA)⟩
            have hv5' := HV2.out.grown hg5 (fun q hq => (ownsRow_lt HR2.out q hq).2) HSEP.out
            have hfg : faceOwn fv2 ≠ some g := fun e => by
              rcases hv5 g rfl with h9 | h9
              · exact HSEP.out g e h9
              · have := HV2.out.faceLt e
                omega
            have ho6 : Only [g] w5 (w5.setCell ⟨g, 2 * n + 1, none⟩ (.string ⟨s.toArray⟩)) := Only.set (by simp) _
            have hE := hid (FIN.out (w5.setCell ⟨g, 2 * n + 1, none⟩ (.string ⟨s.toArray⟩)) _ fv2 told2 s1 (ho5.fresh hgw _) (hv5'.wrote ho6 hgc hfg) HTT.out)
            have hm1 : 2 * n + 1 < 2 * n + 2 := by omega
            clear s1 s2 ho5 ho6 hgc hgl hv5' hfg hub hr5 hg5 hv5
            go_wp2_with fail
            (with_reducible refine hE.out.mono ?_); rintro e w6 ⟨rfl, hr⟩
            have HR := hid hr
            clear hr
            go_wp2
            go_ret
            exact ⟨rfl, HR.out⟩
    · rw [if_pos he]
      have hne : (er != 0) = true := by rw [bne_iff_ne]; exact he
      go_enter Tryz.func74, Tryz.ntmps74
      go_wp2_with fail
      (with_reducible refine HG.out.mono ?_); rintro e w1 ⟨rfl, hw⟩
      subst hw
      unfold gotTup
      dsimp only [Option.map]
      go_wp2_with fail
      (with_reducible refine hL.out.mono ?_); rintro e w2 ⟨u, fv2, told2, rfl, hr2, ho2, hv2, htt, hsep⟩
      obtain ⟨a, c, rfl⟩ := hr2.shape
      have HR := hid (H.out.askedStep HI.out HV.out ho2 hv2 htt HF2.out.1 HF2.out.2)
      generalize l.length = n
      clear hr2 ho2 hv2 htt hsep
      go_wp2
      go_ret
      exact ⟨rfl, _, HR.out, HSF.out _⟩
end
end Go.Proofs.YtabhkoklcjhlpaaGreatDoor.Pz
/-
  The store: Forget.
-/
namespace Go.Proofs.YtabhkoklcjhlpaaGreatDoor.Pz
open Go.RowKit
def forgetA (A : ShA) : ShA := A.map fun p => (p.1, .text)
def bareSV (x : SV) : SV := { x with f := .text }
def dropN (S : List SV) (i : Nat) : List SV := (S.take i).map bareSV ++ S.drop i
theorem dropN_len (S : List SV) (i : Nat) : (dropN S i).length = S.length := by
  unfold dropN
  rw [List.length_append, List.length_map, List.length_take, List.length_drop]
  omega
theorem dropN_at (S : List SV) (i : Nat) : (dropN S i)[i]? = S[i]? := by
  unfold dropN
  by_cases h : i ≤ S.length
  · have hl : ((S.take i).map bareSV).length = i := by rw [List.length_map, List.length_take]; omega
    rw [List.getElem?_append_right (by omega), hl, List.getElem?_drop, Nat.sub_self, Nat.add_zero]
  · rw [List.getElem?_eq_none (by rw [List.length_append, List.length_map, List.length_take, List.length_drop]; omega), List.getElem?_eq_none (by omega)]
theorem dropN_succ (S : List SV) (i : Nat) {x : SV} (h : S[i]? = some x) : dropN S (i + 1) = (dropN S i).set i (bareSV x) := by
  have hi := (List.getElem?_eq_some_iff.1 h).1
  have hx := (List.getElem?_eq_some_iff.1 h).2
  have hl : ((S.take i).map bareSV).length = i := by rw [List.length_map, List.length_take]; omega
  unfold dropN
  rw [List.set_append_right _ _ (by omega), hl, Nat.sub_self, List.drop_eq_getElem_cons hi, List.set_cons_zero, List.take_succ_eq_append_getElem hi, List.map_append, List.append_assoc, hx]
  rfl
theorem dropN_all (S : List SV) : shape (dropN S S.length) = forgetA (shape S) := by
  unfold dropN forgetA shape
  rw [List.take_length, List.drop_length, List.append_nil, List.map_map, List.map_map]
  rfl
section
variable {B st : Nat} {w : World} {v : Value} {S : List SV}
set_option maxRecDepth 100000 in
set_option maxHeartbeats 1000000 in
theorem forgetA_fn (h : StoreIs B st w v S) (hml : ML w) (hn : S.length ≤ 100000) :
    Calls Tryz.prog 37 #[.pointer (some ⟨st, 0, none⟩)] w fun e w' => e = .returned (.tuple #[]) ∧ StepA B st w v S w' (forgetA (shape S)) := by
  obtain ⟨a, c, rfl⟩ := h.sta.shape
  rw [List.length_map] at h ⊢
  obtain ⟨n, hn0⟩ : ∃ n, n = S.length := ⟨_, rfl⟩
  have c0 : w.cell? ⟨st, 0, none⟩ = some (.slice a n c) := by rw [Lib.cell_of_heap h.sta.blk, hn0]; rfl
  rw [← hn0] at h hn ⊢
  have H := hid h
  have HM := hid hml
  have HN := hid hn0
  clear h hml hn0
  go_enter Tryz.func37, Tryz.ntmps37
  go_wp2
  go_loopg [11] n (fun k iv wr => ∃ (i : Nat), iv = .int .i64 (i : Nat) ∧ i ≤ n ∧ StoreIs B st wr (.slice a n c) (dropN S i) ∧ Only (foot st (.slice a n c) S) w wr ∧ foot st (.slice a n c) (dropN S i) = foot st (.slice a n c) S ∧ ML wr ∧ k = n - i)
  case atStart => exact ⟨0, rfl, Nat.zero_le _, H.out, Only.refl _ _, rfl, HM.out, by simp⟩
  case round =>
    obtain ⟨i, rfl, hi, hst, ho, hft, hml, rfl⟩ := hrel
    rcases Nat.lt_or_ge i n with hlt | hge
    · have hlt' : i < S.length := by rw [← HN.out]; exact hlt
      obtain ⟨x, hx⟩ : ∃ x, S[i]? = some x := ⟨_, List.getElem?_eq_getElem hlt'⟩
      have hxi : (dropN S i)[i]? = some x := by rw [dropN_at]; exact hx
      have hxm : x ∈ dropN S i := List.mem_of_getElem? hxi
      obtain ⟨fv, told, hv⟩ := hst.val x hxm
      obtain ⟨hfit, hsm, hlen⟩ := hst.fit x hxm
      obtain ⟨g, c', hs1, hc1⟩ := hst.sta.at (i := i) (by rw [List.length_map, dropN_len]; exact hlt')
      have hpi : ((dropN S i).map SV.vb)[i]'(by rw [List.length_map, dropN_len]; exact hlt') = x.vb := by
        rw [List.getElem_map]
        have := (List.getElem?_eq_some_iff.1 hxi).2
        rw [this]
      rw [hpi] at hc1
      simp only [Value.slice.injEq] at hs1
      obtain ⟨ha, hx1, hx2⟩ := hs1
      clear hx1 hx2
      subst ha
      have HD := hid (drop_fn hv hml)
      have HST := hid hst
      have HO := hid ho
      have HFT := hid hft
      have HX := hid (And.intro hx hxi)
      have HV := hid hv
      have HML := hid hml
      have hi0 : i = 0 → wr.cell? ⟨g, 0, none⟩ = some (.pointer (some ⟨x.vb, 0, none⟩)) := by
        intro h0
        subst h0
        exact hc1
      clear hst ho hft hx hxi hv hml hfit hsm hlen hpi hxm
      go_wp2_with fail
      (with_reducible refine HD.out.mono ?_); rintro e w2 ⟨rfl, ho2, hv2⟩
      have hst2 := HST.out.asked HX.out.2 HV.out ho2 hv2 (fun _ => rfl) (f' := .text) trivial trivial
      have hdn := dropN_succ S i HX.out.1
      have hst3 : StoreIs B st w2 (.slice (some ⟨g, 0, none⟩) n c) (dropN S (i + 1)) := by rw [hdn]; exact hst2
      have hft3 : foot st (.slice (some ⟨g, 0, none⟩) n c) (dropN S (i + 1)) = foot st (.slice (some ⟨g, 0, none⟩) n c) S := by
        rw [hdn, show bareSV x = { x with f := .text } from rfl, foot_set HX.out.2, HFT.out]
      have ho3 : Only (foot st (.slice (some ⟨g, 0, none⟩) n c) S) w w2 := HO.out.trans (ho2.more (by rw [← HFT.out]; exact foot_val (List.mem_of_getElem? HX.out.2)))
      have HS3 := hid hst3
      have HF3 := hid hft3
      have HO3 := hid ho3
      have HM3 := hid (HML.out.only ho2 (by simpa using HV.out.only HML.out))
      clear ho2 hv2 hst2 hdn hst3 hft3 ho3
      go_wp2
      go_roundg (n - (i + 1))
      case measure => omega
      case rel => exact ⟨i + 1, by go_num, by omega, HS3.out, HO3.out, HF3.out, HM3.out, rfl⟩
    · obtain rfl : i = n := by omega
      have HST := hid hst
      have HO := hid ho
      have HFT := hid hft
      clear hst ho hft
      go_wp2
      go_end0
      refine ⟨rfl, dropN S i, ⟨_, HST.out, HO.out, fun k hk => .inl (by rwa [HFT.out] at hk)⟩, ?_⟩
      rw [HN.out]
      exact dropN_all S
end
end Go.Proofs.YtabhkoklcjhlpaaGreatDoor.Pz
