/-
  Part K5 of the proofs of this seat: contracts of functions and plain facts, merged from 9 texts.
-/
import Derived.Test.YtabhkoklcjhlpaaGreatDoorK0
import Derived.Test.YtabhkoklcjhlpaaGreatDoorK1
import Derived.Test.YtabhkoklcjhlpaaGreatDoorK2
import Derived.Test.YtabhkoklcjhlpaaGreatDoorK3
import Derived.Test.YtabhkoklcjhlpaaGreatDoorK4
/-
  value: a value in memory; New, Face, Text of what is told, keep.
-/
namespace Go.Proofs.YtabhkoklcjhlpaaGreatDoor.Pz
open Go.RowKit
inductive Fc where
  | text
  | list (l : List Str)
  | num (c : Str)
  | dict (l : List Str)
def Fc.n : Fc → Int
  | .text => 0
  | .list _ => 1
  | .num _ => 2
  | .dict _ => 3
def FaceIs (w : World) (fv : Value) : Fc → Prop
  | .text => fv = .nilIface
  | .list l => ∃ u, fv = .iface 77 u ∧ RowS 0 w u l
  | .num c => fv = .iface 82 (.string ⟨c.toArray⟩)
  | .dict l => ∃ u, fv = .iface 95 u ∧ RowS 0 w u l
def joinOk (l : List Str) : Prop := l.length ≤ 10000 ∧ (∀ s ∈ l, s.length ≤ 65536) ∧ (quotedL l).length ≤ 65536
def Fc.told : Fc → Str
  | .text => []
  | .list l => quotedL l
  | .num c => c
  | .dict l => quotedL l
def Fc.ok : Fc → Prop
  | .text => False
  | .list l => joinOk l
  | .num _ => True
  | .dict l => joinOk l
/-- a value: its block, the block of what it shares, its text, whether that was made, how many share it, its face -/
structure ValAt (vb sb : Nat) (w : World) (fv : Value) (t : Str) (told : Bool) (cnt : Nat) (f : Fc) : Prop where
  shr : w.heap[sb]? = some (.cells #[.string ⟨(if told then t else []).toArray⟩, .bool told, .int .i64 (cnt : Nat)] 94 (0, 0))
  val : w.heap[vb]? = some (.cells #[.pointer (some ⟨sb, 0, none⟩), fv] 88 (0, 0))
  face : FaceIs w fv f
  un : told = false → t = f.told ∧ f.ok
/-- only some blocks of those that there were are written -/
structure Only (A : List Nat) (w w' : World) : Prop where
  os : w'.os = w.os
  tape : w'.tape = w.tape
  output : w'.output = w.output
  size : w.heap.size ≤ w'.heap.size
  block : ∀ k, k < w.heap.size → k ∉ A → w'.heap[k]? = w.heap[k]?
theorem Only.of {w w' : World} (h : Below w.heap.size w w') (A : List Nat) : Only A w w' := ⟨h.os, h.tape, h.output, h.size, fun k hk _ => h.block k hk⟩
theorem Only.refl (A : List Nat) (w : World) : Only A w w := .of (Below.refl _ _) A
theorem Only.trans {A : List Nat} {w1 w2 w3 : World} (h : Only A w1 w2) (k : Only A w2 w3) : Only A w1 w3 :=
  ⟨k.os.trans h.os, k.tape.trans h.tape, k.output.trans h.output, Nat.le_trans h.size k.size, fun b hb hA => (k.block b (Nat.lt_of_lt_of_le hb h.size) hA).trans (h.block b hb hA)⟩
theorem Only.low {A : List Nat} {w w' : World} (h : Only A w w') {B : Nat} (hB : B ≤ w.heap.size) (hA : ∀ k ∈ A, B ≤ k) : Below B w w' :=
  ⟨h.os, h.tape, h.output, h.size, fun k hk => h.block k (Nat.lt_of_lt_of_le hk hB) fun e => by have := hA k e; omega⟩
theorem Only.cells {A : List Nat} {w w' : World} (h : Only A w w') {k : Nat} {o : Obj} (hk : w.heap[k]? = some o) (hA : k ∉ A) : w'.heap[k]? = some o := (h.block k (Array.getElem?_eq_some_iff.1 hk).1 hA).trans hk
theorem Only.set {A : List Nat} {w : World} {a : Addr} (ha : a.block ∈ A) (v : Value) : Only A w (w.setCell a v) :=
  ⟨rfl, rfl, rfl, by simp [World.setCell], fun k _ hk => Below.heap_setCell _ _ _ _ fun e => hk (by rw [e]; exact ha)⟩
/-- blocks of two kinds -/
theorem kinds_ne {w : World} {k j : Nat} {a b : Array Value} {t u : TypeId} {x y : Nat × Nat} (hk : w.heap[k]? = some (.cells a t x)) (hj : w.heap[j]? = some (.cells b u y)) (h : t ≠ u) : k ≠ j := by
  rintro rfl
  rw [hk] at hj
  simp only [Option.some.injEq, Obj.cells.injEq] at hj
  exact h hj.2.1
section
variable {vb sb : Nat} {w w' : World} {fv : Value} {t : Str} {told : Bool} {cnt : Nat} {f : Fc}
theorem FaceIs.keep (h : FaceIs w fv f) (hk : ∀ (k : Nat) (cur : Array Value), w.heap[k]? = some (Obj.cells cur 9 (0, 0)) → w'.heap[k]? = some (Obj.cells cur 9 (0, 0))) : FaceIs w' fv f := by
  cases f with
  | text => exact h
  | num c => exact h
  | list l => exact ⟨h.choose, h.choose_spec.1, ownsRow_heap2 h.choose_spec.2 fun g cur _ hc => hk g cur hc⟩
  | dict l => exact ⟨h.choose, h.choose_spec.1, ownsRow_heap2 h.choose_spec.2 fun g cur _ hc => hk g cur hc⟩
theorem ValAt.ne (h : ValAt vb sb w fv t told cnt f) : vb ≠ sb := kinds_ne h.val h.shr (by decide)
theorem ValAt.on (h : ValAt vb sb w fv t told cnt f) (hb : Below w.heap.size w w') : ValAt vb sb w' fv t told cnt f :=
  ⟨(hb.block sb (Array.getElem?_eq_some_iff.1 h.shr).1).trans h.shr, (hb.block vb (Array.getElem?_eq_some_iff.1 h.val).1).trans h.val, FaceIs.keep h.face fun k _ hc => (hb.block k (Array.getElem?_eq_some_iff.1 hc).1).trans hc, h.un⟩
/-- another value's blocks are written -/
theorem ValAt.other {A : List Nat} (h : ValAt vb sb w fv t told cnt f) (ho : Only A w w') (hv : vb ∉ A) (hs : sb ∉ A) (hA : ∀ k ∈ A, ∀ cur : Array Value, w.heap[k]? ≠ some (Obj.cells cur 9 (0, 0))) : ValAt vb sb w' fv t told cnt f :=
  ⟨ho.cells h.shr hs, ho.cells h.val hv, FaceIs.keep h.face fun k cur hc => ho.cells hc fun e => hA k e cur hc, h.un⟩
theorem ML.only {A : List Nat} (h : ML w) (ho : Only A w w') (hA : ∀ k ∈ A, k ≠ 0) : ML w' := by
  obtain ⟨m, hm⟩ := h
  refine ⟨m, ?_⟩
  have hlt : 0 < w.heap.size := by
    unfold World.cell? at hm
    rcases Nat.lt_or_ge 0 w.heap.size with h | h
    · exact h
    · rw [Array.getElem?_eq_none h] at hm; cases hm
  have hb := ho.block 0 hlt fun e => hA _ e rfl
  unfold World.cell? at hm ⊢
  rw [hb]
  exact hm
theorem FaceIs.nil_or (h : FaceIs w fv f) : fv = .nilIface ∨ (∃ l u, f = .list l ∧ fv = .iface 77 u ∧ RowS 0 w u l) ∨ (∃ c, f = .num c ∧ fv = .iface 82 (.string ⟨c.toArray⟩)) ∨ (∃ l u, f = .dict l ∧ fv = .iface 95 u ∧ RowS 0 w u l) := by
  cases f with
  | text => exact .inl h
  | num c => exact .inr (.inr (.inl ⟨c, rfl, h⟩))
  | list l => exact .inr (.inl ⟨l, h.choose, rfl, h.choose_spec.1, h.choose_spec.2⟩)
  | dict l => exact .inr (.inr (.inr ⟨l, h.choose, rfl, h.choose_spec.1, h.choose_spec.2⟩))
end
theorem new_fn (t : Str) (w : World) : Calls Tryz.prog 27 #[.string ⟨t.toArray⟩] w fun e w' => ∃ vb sb, e = .returned (.pointer (some ⟨vb, 0, none⟩)) ∧ w.heap.size ≤ vb ∧ w.heap.size ≤ sb ∧ ValAt vb sb w' .nilIface t true 1 .text ∧ Below w.heap.size w w' := by
  have h0 : ValAt (w.heap.size + 1) w.heap.size ((w.alloc (.cells #[.string ⟨t.toArray⟩, .bool true, .int .i64 1] 94)).alloc (.cells #[.pointer (some ⟨w.heap.size, 0, none⟩), .nilIface] 88)) .nilIface t true 1 .text := by
    refine ⟨?_, ?_, rfl, fun h => by cases h⟩
    · rw [Below.heap_alloc _ _ _ (by simp)]
      exact heap_alloc_new _ _
    · simpa using heap_alloc_new (w.alloc (.cells #[.string ⟨t.toArray⟩, .bool true, .int .i64 1] 94)) (.cells #[.pointer (some ⟨w.heap.size, 0, none⟩), .nilIface] 88)
  have hb : Below w.heap.size w ((w.alloc (.cells #[.string ⟨t.toArray⟩, .bool true, .int .i64 1] 94)).alloc (.cells #[.pointer (some ⟨w.heap.size, 0, none⟩), .nilIface] 88)) := ((Below.refl _ _).alloc (Nat.le_refl _) _).alloc (by simp) _
  have H0 := hid h0
  have HB := hid hb
  clear h0 hb
  go_enter Tryz.func27, Tryz.ntmps27
  go_wp2
  go_ret
  exact ⟨_, _, rfl, by omega, Nat.le_refl _, H0.out, HB.out⟩
theorem Tryz.as0E (w : World) : (Instr.typeAssert .nilIface 86 77 true).run Tryz.prog w = .ok (.tuple #[.slice none 0 0, .bool false]) w := by kernel_rfl
theorem Tryz.as0N (w : World) : (Instr.typeAssert .nilIface 86 82 true).run Tryz.prog w = .ok (.tuple #[.string ⟨#[]⟩, .bool false]) w := by kernel_rfl
theorem Tryz.as0D (w : World) : (Instr.typeAssert .nilIface 86 95 true).run Tryz.prog w = .ok (.tuple #[.slice none 0 0, .bool false]) w := by kernel_rfl
theorem Tryz.asEE (a : Option Addr) (n c : Nat) (w : World) : (Instr.typeAssert (.iface 77 (.slice a n c)) 86 77 true).run Tryz.prog w = .ok (.tuple #[.slice a n c, .bool true]) w := by kernel_rfl
theorem Tryz.asEN (a : Option Addr) (n c : Nat) (w : World) : (Instr.typeAssert (.iface 77 (.slice a n c)) 86 82 true).run Tryz.prog w = .ok (.tuple #[.string ⟨#[]⟩, .bool false]) w := by kernel_rfl
theorem Tryz.asED (a : Option Addr) (n c : Nat) (w : World) : (Instr.typeAssert (.iface 77 (.slice a n c)) 86 95 true).run Tryz.prog w = .ok (.tuple #[.slice none 0 0, .bool false]) w := by kernel_rfl
theorem Tryz.asNE (s : ByteArray) (w : World) : (Instr.typeAssert (.iface 82 (.string s)) 86 77 true).run Tryz.prog w = .ok (.tuple #[.slice none 0 0, .bool false]) w := by kernel_rfl
theorem Tryz.asNN (s : ByteArray) (w : World) : (Instr.typeAssert (.iface 82 (.string s)) 86 82 true).run Tryz.prog w = .ok (.tuple #[.string s, .bool true]) w := by kernel_rfl
theorem Tryz.asND (s : ByteArray) (w : World) : (Instr.typeAssert (.iface 82 (.string s)) 86 95 true).run Tryz.prog w = .ok (.tuple #[.slice none 0 0, .bool false]) w := by kernel_rfl
theorem Tryz.asDE (a : Option Addr) (n c : Nat) (w : World) : (Instr.typeAssert (.iface 95 (.slice a n c)) 86 77 true).run Tryz.prog w = .ok (.tuple #[.slice none 0 0, .bool false]) w := by kernel_rfl
theorem Tryz.asDN (a : Option Addr) (n c : Nat) (w : World) : (Instr.typeAssert (.iface 95 (.slice a n c)) 86 82 true).run Tryz.prog w = .ok (.tuple #[.string ⟨#[]⟩, .bool false]) w := by kernel_rfl
theorem Tryz.asDD (a : Option Addr) (n c : Nat) (w : World) : (Instr.typeAssert (.iface 95 (.slice a n c)) 86 95 true).run Tryz.prog w = .ok (.tuple #[.slice a n c, .bool true]) w := by kernel_rfl
set_option maxRecDepth 100000 in
theorem face_fn {vb sb : Nat} {w : World} {fv : Value} {t : Str} {told : Bool} {cnt : Nat} {f : Fc} (h : ValAt vb sb w fv t told cnt f) : Calls Tryz.prog 24 #[.pointer (some ⟨vb, 0, none⟩)] w fun e w' => e = .returned (.int .i64 f.n) ∧ w' = w := by
  have c1 : w.cell? ⟨vb, 1, none⟩ = some fv := by rw [Lib.cell_of_heap h.val]; rfl
  have hf := h.face
  clear h
  cases f with
  | text =>
    obtain rfl : fv = .nilIface := hf
    have e1 := @Tryz.as0E
    have e2 := @Tryz.as0N
    have e3 := @Tryz.as0D
    go_enter Tryz.func24, Tryz.ntmps24
    go_wp2
    go_ret
    exact ⟨rfl, rfl⟩
  | num c =>
    obtain rfl : fv = .iface 82 (.string ⟨c.toArray⟩) := hf
    have e1 := @Tryz.asNE
    have e2 := @Tryz.asNN
    have e3 := @Tryz.asND
    go_enter Tryz.func24, Tryz.ntmps24
    go_wp2
    go_ret
    exact ⟨rfl, rfl⟩
  | list l =>
    obtain ⟨u, rfl, hr⟩ := hf
    obtain ⟨a, c, rfl⟩ := hr.shape
    clear hr
    have e1 := @Tryz.asEE
    have e2 := @Tryz.asEN
    have e3 := @Tryz.asED
    go_enter Tryz.func24, Tryz.ntmps24
    go_wp2
    go_ret
    exact ⟨rfl, rfl⟩
  | dict l =>
    obtain ⟨u, rfl, hr⟩ := hf
    obtain ⟨a, c, rfl⟩ := hr.shape
    clear hr
    have e1 := @Tryz.asDE
    have e2 := @Tryz.asDN
    have e3 := @Tryz.asDD
    go_enter Tryz.func24, Tryz.ntmps24
    go_wp2
    go_ret
    exact ⟨rfl, rfl⟩
end Go.Proofs.YtabhkoklcjhlpaaGreatDoor.Pz
/-
  value: Text, keep.
-/
namespace Go.Proofs.YtabhkoklcjhlpaaGreatDoor.Pz
open Go.RowKit
theorem RowS.strs {B : Nat} {w : World} {v : Value} {l : List Str} (h : RowS B w v l) : StrsAt w v l := by
  obtain ⟨a, c, rfl⟩ := h.shape
  have hcap : l.length ≤ c := by
    rcases h.2 with ⟨e, h0⟩ | ⟨g, cap, cur, e, _, _, hc, _⟩
    · omega
    · simp only [Value.slice.injEq] at e
      omega
  refine ⟨a, c, rfl, hcap, fun i hi => ?_⟩
  obtain ⟨g, rfl, _, hc⟩ := h.at hi
  exact ⟨⟨g, 0, none⟩, rfl, (h.lt g rfl).1, by rw [add_none, Nat.zero_add]; exact hc⟩
theorem Tryz.meE (a : Option Addr) (n c : Nat) (w : World) : (method 359 77 (.slice a n c) "threadbare/value.text").run Tryz.prog w = .ok (218, .slice a n c) w := by kernel_rfl
theorem Tryz.meN (s : ByteArray) (w : World) : (method 359 82 (.string s) "threadbare/value.text").run Tryz.prog w = .ok (219, .string s) w := by kernel_rfl
theorem Tryz.meD (a : Option Addr) (n c : Nat) (w : World) : (method 359 95 (.slice a n c) "threadbare/value.text").run Tryz.prog w = .ok (220, .slice a n c) w := by kernel_rfl
set_option maxRecDepth 100000 in
theorem eltext_fn {B : Nat} {l : List Str} {v : Value} {w : World} (hr : RowS B w v l) (hok : joinOk l) (hm : ML w) : Calls Tryz.prog 218 #[v] w fun e w' => e = .returned (.tuple #[.string ⟨(quotedL l).toArray⟩, .int .i64 0]) ∧ Below w.heap.size w w' := by
  have hj := hid (join_fn l v w hm hr.strs hok.1 hok.2.1 hok.2.2)
  obtain ⟨a, c, rfl⟩ := hr.shape
  clear hr hok
  go_enter Tryz.func218, Tryz.ntmps218
  go_wp2_with fail
  (with_reducible refine hj.out.mono ?_); rintro e w1 ⟨rfl, hb⟩
  have HB := hid hb
  clear hb
  go_wp2
  go_ret2
  exact ⟨rfl, HB.out⟩
set_option maxRecDepth 100000 in
theorem patext_fn {B : Nat} {l : List Str} {v : Value} {w : World} (hr : RowS B w v l) (hok : joinOk l) (hm : ML w) : Calls Tryz.prog 220 #[v] w fun e w' => e = .returned (.tuple #[.string ⟨(quotedL l).toArray⟩, .int .i64 0]) ∧ Below w.heap.size w w' := by
  have hj := hid (join_fn l v w hm hr.strs hok.1 hok.2.1 hok.2.2)
  obtain ⟨a, c, rfl⟩ := hr.shape
  clear hr hok
  go_enter Tryz.func220, Tryz.ntmps220
  go_wp2_with fail
  (with_reducible refine hj.out.mono ?_); rintro e w1 ⟨rfl, hb⟩
  have HB := hid hb
  clear hb
  go_wp2
  go_ret2
  exact ⟨rfl, HB.out⟩
theorem nutext_fn (t : Str) (w : World) : Calls Tryz.prog 219 #[.string ⟨t.toArray⟩] w fun e w' => e = .returned (.tuple #[.string ⟨t.toArray⟩, .int .i64 0]) ∧ Below w.heap.size w w' := by
  go_enter Tryz.func219, Tryz.ntmps219
  go_wp2
  go_ret2
  exact ⟨rfl, Below.refl _ _⟩
theorem ValAt.told_now {vb sb : Nat} {w w' : World} {fv : Value} {t t' : Str} {told : Bool} {cnt : Nat} {f : Fc} (h : ValAt vb sb w fv t' told cnt f) (ho : Only [sb] w w')
    (hs : w'.heap[sb]? = some (.cells #[.string ⟨t.toArray⟩, .bool true, .int .i64 (cnt : Nat)] 94 (0, 0))) : ValAt vb sb w' fv t true cnt f :=
  ⟨hs, ho.cells h.val (by simpa using h.ne), FaceIs.keep h.face fun k cur hc => ho.cells hc (by simpa using kinds_ne hc h.shr (by decide)), fun h => by cases h⟩
set_option maxRecDepth 100000 in
set_option maxHeartbeats 1000000 in
theorem text_fn {vb sb : Nat} {w : World} {fv : Value} {t : Str} {told : Bool} {cnt : Nat} {f : Fc} (h : ValAt vb sb w fv t told cnt f) (hml : ML w) :
    Calls Tryz.prog 22 #[.pointer (some ⟨vb, 0, none⟩)] w fun e w' => e = .returned (.string ⟨t.toArray⟩) ∧ Only [sb] w w' ∧ ValAt vb sb w' fv t true cnt f := by
  have c0 : w.cell? ⟨vb, 0, none⟩ = some (.pointer (some ⟨sb, 0, none⟩)) := by rw [Lib.cell_of_heap h.val]; rfl
  have c1 : w.cell? ⟨vb, 1, none⟩ = some fv := by rw [Lib.cell_of_heap h.val]; rfl
  have b1 : w.cell? ⟨sb, 1, none⟩ = some (.bool told) := by rw [Lib.cell_of_heap h.shr]; rfl
  have hf := h.face
  have hne := h.ne
  have hvl : vb < w.heap.size := (Array.getElem?_eq_some_iff.1 h.val).1
  have hmx : Tryz.prog.follows .mixedOrders = true := by kernel_rfl
  have hmd : ML w.drew ∧ Below w.heap.size w w.drew := ⟨hml.below (Below.refl _ _).drew, (Below.refl _ _).drew⟩
  cases told with
  | true =>
    have b0 : w.cell? ⟨sb, 0, none⟩ = some (.string ⟨t.toArray⟩) := by rw [Lib.cell_of_heap h.shr]; rfl
    have H := hid h
    clear h hf
    go_enter Tryz.func22, Tryz.ntmps22
    go_wp2
    go_ret
    exact ⟨rfl, Only.refl _ _, H.out⟩
  | false =>
  have hu := h.un rfl
  have HV := hid h
  clear h hml
  cases f with
  | text => exact absurd hu.2 id
  | list l =>
    obtain ⟨u, rfl, hr⟩ := hf
    obtain ⟨a, c, rfl⟩ := hr.shape
    obtain ⟨rfl, hok⟩ := hu
    have hc2 : ∀ W, ML W ∧ Below w.heap.size w W → Calls Tryz.prog 218 #[.slice a l.length c] W (fun e W' => e = .returned (.tuple #[.string ⟨((Fc.list l).told).toArray⟩, .int .i64 0]) ∧ Below W.heap.size W W') := fun W hW => eltext_fn (hr.on hW.2) hok hW.1
    generalize (Fc.list l).told = t at *
    generalize l.length = n at *
    clear hok hr
    have hme := @Tryz.meE
    have HC := hid (hc2)
    clear hc2
    go_enter Tryz.func22, Tryz.ntmps22
    go_wp2
    refine U_begin (late := fun _ => false) (S := fun u : World => u.cell? ⟨vb, 0, none⟩ = some (.pointer (some ⟨sb, 0, none⟩)) ∧ u.cell? ⟨vb, 1, none⟩ = some (.iface 77 (.slice a n c))) hmx ?_
    have S0 : Hid ((fun u : World => u.cell? ⟨vb, 0, none⟩ = some (.pointer (some ⟨sb, 0, none⟩)) ∧ u.cell? ⟨vb, 1, none⟩ = some (.iface 77 (.slice a n c))) w.drew) := hid ⟨c0, c1⟩
    refine U_take2 8 (i := 0) (v := .pointer (some ⟨vb, 0, none⟩)) rfl (by kernel_rfl) (by kernel_rfl) (by kernel_rfl) (by kernel_rfl) (by kernel_rfl) (fun _ _ _ h => h) (.inl ⟨rfl, fun u hu => (by go_simp)⟩) S0.out ?_
    refine U_take2 8 (i := 1) (v := .pointer (some ⟨vb, 0, none⟩)) rfl (by kernel_rfl) (by kernel_rfl) (by kernel_rfl) (by kernel_rfl) (by kernel_rfl) (fun _ _ _ h => h) (.inl ⟨rfl, fun u hu => (by go_simp)⟩) S0.out ?_
    refine U_take2 8 (i := 2) (v := .pointer (some ⟨vb, 0, none⟩)) rfl (by kernel_rfl) (by kernel_rfl) (by kernel_rfl) (by kernel_rfl) (by kernel_rfl) (fun _ _ _ h => h) (.inl ⟨rfl, fun u hu => (by go_simp)⟩) S0.out ?_
    refine U_take2 8 (i := 3) (v := .pointer (some ⟨sb, 0, none⟩)) rfl (by kernel_rfl) (by kernel_rfl) (by kernel_rfl) (by kernel_rfl) (by kernel_rfl) (fun _ _ _ h => h) (.inl ⟨rfl, fun u hu => (by obtain ⟨h1, h2⟩ := hu; go_simp)⟩) S0.out ?_
    refine U_take2 8 (i := 4) (v := .pointer (some ⟨vb, 0, none⟩)) rfl (by kernel_rfl) (by kernel_rfl) (by kernel_rfl) (by kernel_rfl) (by kernel_rfl) (fun _ _ _ h => h) (.inl ⟨rfl, fun u hu => (by go_simp)⟩) S0.out ?_
    refine U_take2 8 (i := 5) (v := .pointer (some ⟨vb, 0, none⟩)) rfl (by kernel_rfl) (by kernel_rfl) (by kernel_rfl) (by kernel_rfl) (by kernel_rfl) (fun _ _ _ h => h) (.inl ⟨rfl, fun u hu => (by go_simp)⟩) S0.out ?_
    refine U_take2 8 (i := 6) (v := .pointer (some ⟨vb, 1, none⟩)) rfl (by kernel_rfl) (by kernel_rfl) (by kernel_rfl) (by kernel_rfl) (by kernel_rfl) (fun _ _ _ h => h) (.inl ⟨rfl, fun u hu => (by go_simp)⟩) S0.out ?_
    refine U_take2 8 (i := 7) (v := .iface 77 (.slice a n c)) rfl (by kernel_rfl) (by kernel_rfl) (by kernel_rfl) (by kernel_rfl) (by kernel_rfl) (fun _ _ _ h => h) (.inl ⟨rfl, fun u hu => (by obtain ⟨h1, h2⟩ := hu; go_simp)⟩) S0.out ?_
    refine U_step (j := 8) (by kernel_rfl) rfl (fun K hK => ?_)
    go_simp
    (with_reducible refine (HC.out _ hmd).mono ?_); rintro e w1 ⟨rfl, hw1⟩
    have hb1 : Below w.heap.size w w1 := (Below.refl _ _).drew.trans hw1
    have k0 : w1.cell? ⟨vb, 0, none⟩ = some (.pointer (some ⟨sb, 0, none⟩)) := (hb1.cell (p := ⟨vb, 0, none⟩) (by exact hvl)).trans c0
    have k1 : w1.cell? ⟨vb, 1, none⟩ = some (.iface 77 (.slice a n c)) := (hb1.cell (p := ⟨vb, 1, none⟩) (by exact hvl)).trans c1
    have S1 : Hid ((fun u : World => u.cell? ⟨vb, 0, none⟩ = some (.pointer (some ⟨sb, 0, none⟩)) ∧ u.cell? ⟨vb, 1, none⟩ = some (.iface 77 (.slice a n c))) w1) := hid ⟨k0, k1⟩
    refine hK.out _ _ (.inr S1.out) ?_
    clear hK K S0
    refine U_take2 8 (i := 9) (v := .tuple #[.string ⟨t.toArray⟩, .int .i64 0]) rfl (by kernel_rfl) (by kernel_rfl) (by kernel_rfl) (by kernel_rfl) (by kernel_rfl) (fun _ _ _ h => h) (.inl ⟨rfl, fun u hu => (by go_simp)⟩) S1.out ?_
    refine U_take2 8 (i := 10) (v := .string ⟨t.toArray⟩) rfl (by kernel_rfl) (by kernel_rfl) (by kernel_rfl) (by kernel_rfl) (by kernel_rfl) (fun _ _ _ h => h) (.inl ⟨rfl, fun u hu => (by go_simp)⟩) S1.out ?_
    refine U_take2 8 (i := 11) (v := .int .i64 0) rfl (by kernel_rfl) (by kernel_rfl) (by kernel_rfl) (by kernel_rfl) (by kernel_rfl) (fun _ _ _ h => h) (.inl ⟨rfl, fun u hu => (by go_simp)⟩) S1.out ?_
    refine U_take2 8 (i := 12) (v := .pointer (some ⟨sb, 0, none⟩)) rfl (by kernel_rfl) (by kernel_rfl) (by kernel_rfl) (by kernel_rfl) (by kernel_rfl) (fun _ _ _ h => h) (.inl ⟨rfl, fun u hu => (by go_simp)⟩) S1.out ?_
    refine U_take2 8 (i := 13) (v := .pointer (some ⟨sb, 0, none⟩)) rfl (by kernel_rfl) (by kernel_rfl) (by kernel_rfl) (by kernel_rfl) (by kernel_rfl) (fun _ _ _ h => h) (.inl ⟨rfl, fun u hu => (by go_simp)⟩) S1.out ?_
    have hs1 : w1.heap[sb]? = some (.cells #[.string ⟨#[]⟩, .bool false, .int .i64 (cnt : Nat)] 94 (0, 0)) := (hb1.block sb (Array.getElem?_eq_some_iff.1 HV.out.shr).1).trans HV.out.shr
    have q0 : w1.cell? ⟨sb, 0, none⟩ = some (.string ⟨#[]⟩) := by rw [Lib.cell_of_heap hs1]; rfl
    have q1 : w1.frozen? ⟨sb, 0, none⟩ = false := Lib.frozen_of_heap hs1 0
    obtain ⟨w2, hw2⟩ : ∃ w2, w2 = w1.setCell ⟨sb, 0, none⟩ (.string ⟨t.toArray⟩) := ⟨_, rfl⟩
    have hs2 : w2.heap[sb]? = some (.cells #[.string ⟨t.toArray⟩, .bool false, .int .i64 (cnt : Nat)] 94 (0, 0)) := by rw [hw2]; simp [World.setCell, Array.getElem?_modify, hs1]
    have hv2 : ∀ j, w2.cell? ⟨vb, j, none⟩ = w1.cell? ⟨vb, j, none⟩ := fun j => by
      unfold World.cell?
      rw [hw2, Below.heap_setCell _ _ _ _ (by show vb ≠ sb; exact hne)]
    have S2 : Hid ((fun u : World => u.cell? ⟨vb, 0, none⟩ = some (.pointer (some ⟨sb, 0, none⟩)) ∧ u.cell? ⟨vb, 1, none⟩ = some (.iface 77 (.slice a n c))) w2) := hid ⟨(hv2 0).trans k0, (hv2 1).trans k1⟩
    refine U_step (j := 14) (by kernel_rfl) rfl (fun K hK => ?_)
    go_simp
    rw [← hw2]
    refine hK.out _ _ (.inr S2.out) ?_
    clear hK K
    refine U_done (by kernel_rfl) ?_ _
    have d0 := S2.out.1
    have d1 : w2.cell? ⟨sb, 1, none⟩ = some (.bool false) := by rw [Lib.cell_of_heap hs2]; rfl
    have d2 : w2.frozen? ⟨sb, 1, none⟩ = false := Lib.frozen_of_heap hs2 1
    have hs3 : (w2.setCell ⟨sb, 1, none⟩ (.bool true)).heap[sb]? = some (.cells #[.string ⟨t.toArray⟩, .bool true, .int .i64 (cnt : Nat)] 94 (0, 0)) := by simp [World.setCell, Array.getElem?_modify, hs2]
    have d3 : (w2.setCell ⟨sb, 1, none⟩ (.bool true)).cell? ⟨sb, 0, none⟩ = some (.string ⟨t.toArray⟩) := by rw [Lib.cell_of_heap hs3]; rfl
    have d4 : (w2.setCell ⟨sb, 1, none⟩ (.bool true)).cell? ⟨vb, 0, none⟩ = some (.pointer (some ⟨sb, 0, none⟩)) := by
      rw [← d0]
      unfold World.cell?
      rw [Below.heap_setCell _ _ _ _ (by show vb ≠ sb; exact hne)]
    have ho : Only [sb] w (w2.setCell ⟨sb, 1, none⟩ (.bool true)) := by
      rw [hw2]
      exact (Only.of hb1 _).trans ((Only.set (by simp) _).trans (Only.set (by simp) _))
    have HE := hid (HV.out.told_now ho hs3)
    have HO := hid ho
    clear hw1 hb1 k0 k1 S1 hs1 q0 q1 hw2 hs2 hv2 S2 hs3 ho
    go_wp2
    go_ret
    exact ⟨rfl, HO.out, HE.out⟩
  | num c =>
    obtain rfl : fv = .iface 82 (.string ⟨c.toArray⟩) := hf
    obtain ⟨ht, hok⟩ := hu
    replace ht : t = c := ht
    subst ht
    have hc2 : ∀ W, ML W ∧ Below w.heap.size w W → Calls Tryz.prog 219 #[.string ⟨t.toArray⟩] W (fun e W' => e = .returned (.tuple #[.string ⟨t.toArray⟩, .int .i64 0]) ∧ Below W.heap.size W W') := fun W _ => nutext_fn t W
    clear hok
    have hme := @Tryz.meN
    have HC := hid (hc2)
    clear hc2
    go_enter Tryz.func22, Tryz.ntmps22
    go_wp2
    refine U_begin (late := fun _ => false) (S := fun u : World => u.cell? ⟨vb, 0, none⟩ = some (.pointer (some ⟨sb, 0, none⟩)) ∧ u.cell? ⟨vb, 1, none⟩ = some (.iface 82 (.string ⟨t.toArray⟩))) hmx ?_
    have S0 : Hid ((fun u : World => u.cell? ⟨vb, 0, none⟩ = some (.pointer (some ⟨sb, 0, none⟩)) ∧ u.cell? ⟨vb, 1, none⟩ = some (.iface 82 (.string ⟨t.toArray⟩))) w.drew) := hid ⟨c0, c1⟩
    refine U_take2 8 (i := 0) (v := .pointer (some ⟨vb, 0, none⟩)) rfl (by kernel_rfl) (by kernel_rfl) (by kernel_rfl) (by kernel_rfl) (by kernel_rfl) (fun _ _ _ h => h) (.inl ⟨rfl, fun u hu => (by go_simp)⟩) S0.out ?_
    refine U_take2 8 (i := 1) (v := .pointer (some ⟨vb, 0, none⟩)) rfl (by kernel_rfl) (by kernel_rfl) (by kernel_rfl) (by kernel_rfl) (by kernel_rfl) (fun _ _ _ h => h) (.inl ⟨rfl, fun u hu => (by go_simp)⟩) S0.out ?_
    refine U_take2 8 (i := 2) (v := .pointer (some ⟨vb, 0, none⟩)) rfl (by kernel_rfl) (by kernel_rfl) (by kernel_rfl) (by kernel_rfl) (by kernel_rfl) (fun _ _ _ h => h) (.inl ⟨rfl, fun u hu => (by go_simp)⟩) S0.out ?_
    refine U_take2 8 (i := 3) (v := .pointer (some ⟨sb, 0, none⟩)) rfl (by kernel_rfl) (by kernel_rfl) (by kernel_rfl) (by kernel_rfl) (by kernel_rfl) (fun _ _ _ h => h) (.inl ⟨rfl, fun u hu => (by obtain ⟨h1, h2⟩ := hu; go_simp)⟩) S0.out ?_
    refine U_take2 8 (i := 4) (v := .pointer (some ⟨vb, 0, none⟩)) rfl (by kernel_rfl) (by kernel_rfl) (by kernel_rfl) (by kernel_rfl) (by kernel_rfl) (fun _ _ _ h => h) (.inl ⟨rfl, fun u hu => (by go_simp)⟩) S0.out ?_
    refine U_take2 8 (i := 5) (v := .pointer (some ⟨vb, 0, none⟩)) rfl (by kernel_rfl) (by kernel_rfl) (by kernel_rfl) (by kernel_rfl) (by kernel_rfl) (fun _ _ _ h => h) (.inl ⟨rfl, fun u hu => (by go_simp)⟩) S0.out ?_
    refine U_take2 8 (i := 6) (v := .pointer (some ⟨vb, 1, none⟩)) rfl (by kernel_rfl) (by kernel_rfl) (by kernel_rfl) (by kernel_rfl) (by kernel_rfl) (fun _ _ _ h => h) (.inl ⟨rfl, fun u hu => (by go_simp)⟩) S0.out ?_
    refine U_take2 8 (i := 7) (v := .iface 82 (.string ⟨t.toArray⟩)) rfl (by kernel_rfl) (by kernel_rfl) (by kernel_rfl) (by kernel_rfl) (by kernel_rfl) (fun _ _ _ h => h) (.inl ⟨rfl, fun u hu => (by obtain ⟨h1, h2⟩ := hu; go_simp)⟩) S0.out ?_
    refine U_step (j := 8) (by kernel_rfl) rfl (fun K hK => ?_)
    go_simp
    (with_reducible refine (HC.out _ hmd).mono ?_); rintro e w1 ⟨rfl, hw1⟩
    have hb1 : Below w.heap.size w w1 := (Below.refl _ _).drew.trans hw1
    have k0 : w1.cell? ⟨vb, 0, none⟩ = some (.pointer (some ⟨sb, 0, none⟩)) := (hb1.cell (p := ⟨vb, 0, none⟩) (by exact hvl)).trans c0
    have k1 : w1.cell? ⟨vb, 1, none⟩ = some (.iface 82 (.string ⟨t.toArray⟩)) := (hb1.cell (p := ⟨vb, 1, none⟩) (by exact hvl)).trans c1
    have S1 : Hid ((fun u : World => u.cell? ⟨vb, 0, none⟩ = some (.pointer (some ⟨sb, 0, none⟩)) ∧ u.cell? ⟨vb, 1, none⟩ = some (.iface 82 (.string ⟨t.toArray⟩))) w1) := hid ⟨k0, k1⟩
    refine hK.out _ _ (.inr S1.out) ?_
    clear hK K S0
    refine U_take2 8 (i := 9) (v := .tuple #[.string ⟨t.toArray⟩, .int .i64 0]) rfl (by kernel_rfl) (by kernel_rfl) (by kernel_rfl) (by kernel_rfl) (by kernel_rfl) (fun _ _ _ h => h) (.inl ⟨rfl, fun u hu => (by go_simp)⟩) S1.out ?_
    refine U_take2 8 (i := 10) (v := .string ⟨t.toArray⟩) rfl (by kernel_rfl) (by kernel_rfl) (by kernel_rfl) (by kernel_rfl) (by kernel_rfl) (fun _ _ _ h => h) (.inl ⟨rfl, fun u hu => (by go_simp)⟩) S1.out ?_
    refine U_take2 8 (i := 11) (v := .int .i64 0) rfl (by kernel_rfl) (by kernel_rfl) (by kernel_rfl) (by kernel_rfl) (by kernel_rfl) (fun _ _ _ h => h) (.inl ⟨rfl, fun u hu => (by go_simp)⟩) S1.out ?_
    refine U_take2 8 (i := 12) (v := .pointer (some ⟨sb, 0, none⟩)) rfl (by kernel_rfl) (by kernel_rfl) (by kernel_rfl) (by kernel_rfl) (by kernel_rfl) (fun _ _ _ h => h) (.inl ⟨rfl, fun u hu => (by go_simp)⟩) S1.out ?_
    refine U_take2 8 (i := 13) (v := .pointer (some ⟨sb, 0, none⟩)) rfl (by kernel_rfl) (by kernel_rfl) (by kernel_rfl) (by kernel_rfl) (by kernel_rfl) (fun _ _ _ h => h) (.inl ⟨rfl, fun u hu => (by go_simp)⟩) S1.out ?_
    have hs1 : w1.heap[sb]? = some (.cells #[.string ⟨#[]⟩, .bool false, .int .i64 (cnt : Nat)] 94 (0, 0)) := (hb1.block sb (Array.getElem?_eq_some_iff.1 HV.out.shr).1).trans HV.out.shr
    have q0 : w1.cell? ⟨sb, 0, none⟩ = some (.string ⟨#[]⟩) := by rw [Lib.cell_of_heap hs1]; rfl
    have q1 : w1.frozen? ⟨sb, 0, none⟩ = false := Lib.frozen_of_heap hs1 0
    obtain ⟨w2, hw2⟩ : ∃ w2, w2 = w1.setCell ⟨sb, 0, none⟩ (.string ⟨t.toArray⟩) := ⟨_, rfl⟩
    have hs2 : w2.heap[sb]? = some (.cells #[.string ⟨t.toArray⟩, .bool false, .int .i64 (cnt : Nat)] 94 (0, 0)) := by rw [hw2]; simp [World.setCell, Array.getElem?_modify, hs1]
    have hv2 : ∀ j, w2.cell? ⟨vb, j, none⟩ = w1.cell? ⟨vb, j, none⟩ := fun j => by
      unfold World.cell?
      rw [hw2, Below.heap_setCell _ _ _ _ (by show vb ≠ sb; exact hne)]
    have S2 : Hid ((fun u : World => u.cell? ⟨vb, 0, none⟩ = some (.pointer (some ⟨sb, 0, none⟩)) ∧ u.cell? ⟨vb, 1, none⟩ = some (.iface 82 (.string ⟨t.toArray⟩))) w2) := hid ⟨(hv2 0).trans k0, (hv2 1).trans k1⟩
    refine U_step (j := 14) (by kernel_rfl) rfl (fun K hK => ?_)
    go_simp
    rw [← hw2]
    refine hK.out _ _ (.inr S2.out) ?_
    clear hK K
    refine U_done (by kernel_rfl) ?_ _
    have d0 := S2.out.1
    have d1 : w2.cell? ⟨sb, 1, none⟩ = some (.bool false) := by rw [Lib.cell_of_heap hs2]; rfl
    have d2 : w2.frozen? ⟨sb, 1, none⟩ = false := Lib.frozen_of_heap hs2 1
    have hs3 : (w2.setCell ⟨sb, 1, none⟩ (.bool true)).heap[sb]? = some (.cells #[.string ⟨t.toArray⟩, .bool true, .int .i64 (cnt : Nat)] 94 (0, 0)) := by simp [World.setCell, Array.getElem?_modify, hs2]
    have d3 : (w2.setCell ⟨sb, 1, none⟩ (.bool true)).cell? ⟨sb, 0, none⟩ = some (.string ⟨t.toArray⟩) := by rw [Lib.cell_of_heap hs3]; rfl
    have d4 : (w2.setCell ⟨sb, 1, none⟩ (.bool true)).cell? ⟨vb, 0, none⟩ = some (.pointer (some ⟨sb, 0, none⟩)) := by
      rw [← d0]
      unfold World.cell?
      rw [Below.heap_setCell _ _ _ _ (by show vb ≠ sb; exact hne)]
    have ho : Only [sb] w (w2.setCell ⟨sb, 1, none⟩ (.bool true)) := by
      rw [hw2]
      exact (Only.of hb1 _).trans ((Only.set (by simp) _).trans (Only.set (by simp) _))
    have HE := hid (HV.out.told_now ho hs3)
    have HO := hid ho
    clear hw1 hb1 k0 k1 S1 hs1 q0 q1 hw2 hs2 hv2 S2 hs3 ho
    go_wp2
    go_ret
    exact ⟨rfl, HO.out, HE.out⟩
  | dict l =>
    obtain ⟨u, rfl, hr⟩ := hf
    obtain ⟨a, c, rfl⟩ := hr.shape
    obtain ⟨rfl, hok⟩ := hu
    have hc2 : ∀ W, ML W ∧ Below w.heap.size w W → Calls Tryz.prog 220 #[.slice a l.length c] W (fun e W' => e = .returned (.tuple #[.string ⟨((Fc.dict l).told).toArray⟩, .int .i64 0]) ∧ Below W.heap.size W W') := fun W hW => patext_fn (hr.on hW.2) hok hW.1
    generalize (Fc.dict l).told = t at *
    generalize l.length = n at *
    clear hok hr
    have hme := @Tryz.meD
    have HC := hid (hc2)
    clear hc2
    go_enter Tryz.func22, Tryz.ntmps22
    go_wp2
    refine U_begin (late := fun _ => false) (S := fun u : World => u.cell? ⟨vb, 0, none⟩ = some (.pointer (some ⟨sb, 0, none⟩)) ∧ u.cell? ⟨vb, 1, none⟩ = some (.iface 95 (.slice a n c))) hmx ?_
    have S0 : Hid ((fun u : World => u.cell? ⟨vb, 0, none⟩ = some (.pointer (some ⟨sb, 0, none⟩)) ∧ u.cell? ⟨vb, 1, none⟩ = some (.iface 95 (.slice a n c))) w.drew) := hid ⟨c0, c1⟩
    refine U_take2 8 (i := 0) (v := .pointer (some ⟨vb, 0, none⟩)) rfl (by kernel_rfl) (by kernel_rfl) (by kernel_rfl) (by kernel_rfl) (by kernel_rfl) (fun _ _ _ h => h) (.inl ⟨rfl, fun u hu => (by go_simp)⟩) S0.out ?_
    refine U_take2 8 (i := 1) (v := .pointer (some ⟨vb, 0, none⟩)) rfl (by kernel_rfl) (by kernel_rfl) (by kernel_rfl) (by kernel_rfl) (by kernel_rfl) (fun _ _ _ h => h) (.inl ⟨rfl, fun u hu => (by go_simp)⟩) S0.out ?_
    refine U_take2 8 (i := 2) (v := .pointer (some ⟨vb, 0, none⟩)) rfl (by kernel_rfl) (by kernel_rfl) (by kernel_rfl) (by kernel_rfl) (by kernel_rfl) (fun _ _ _ h => h) (.inl ⟨rfl, fun u hu => (by go_simp)⟩) S0.out ?_
    refine U_take2 8 (i := 3) (v := .pointer (some ⟨sb, 0, none⟩)) rfl (by kernel_rfl) (by kernel_rfl) (by kernel_rfl) (by kernel_rfl) (by kernel_rfl) (fun _ _ _ h => h) (.inl ⟨rfl, fun u hu => (by obtain ⟨h1, h2⟩ := hu; go_simp)⟩) S0.out ?_
    refine U_take2 8 (i := 4) (v := .pointer (some ⟨vb, 0, none⟩)) rfl (by kernel_rfl) (by kernel_rfl) (by kernel_rfl) (by kernel_rfl) (by kernel_rfl) (fun _ _ _ h => h) (.inl ⟨rfl, fun u hu => (by go_simp)⟩) S0.out ?_
    refine U_take2 8 (i := 5) (v := .pointer (some ⟨vb, 0, none⟩)) rfl (by kernel_rfl) (by kernel_rfl) (by kernel_rfl) (by kernel_rfl) (by kernel_rfl) (fun _ _ _ h => h) (.inl ⟨rfl, fun u hu => (by go_simp)⟩) S0.out ?_
    refine U_take2 8 (i := 6) (v := .pointer (some ⟨vb, 1, none⟩)) rfl (by kernel_rfl) (by kernel_rfl) (by kernel_rfl) (by kernel_rfl) (by kernel_rfl) (fun _ _ _ h => h) (.inl ⟨rfl, fun u hu => (by go_simp)⟩) S0.out ?_
    refine U_take2 8 (i := 7) (v := .iface 95 (.slice a n c)) rfl (by kernel_rfl) (by kernel_rfl) (by kernel_rfl) (by kernel_rfl) (by kernel_rfl) (fun _ _ _ h => h) (.inl ⟨rfl, fun u hu => (by obtain ⟨h1, h2⟩ := hu; go_simp)⟩) S0.out ?_
    refine U_step (j := 8) (by kernel_rfl) rfl (fun K hK => ?_)
    go_simp
    (with_reducible refine (HC.out _ hmd).mono ?_); rintro e w1 ⟨rfl, hw1⟩
    have hb1 : Below w.heap.size w w1 := (Below.refl _ _).drew.trans hw1
    have k0 : w1.cell? ⟨vb, 0, none⟩ = some (.pointer (some ⟨sb, 0, none⟩)) := (hb1.cell (p := ⟨vb, 0, none⟩) (by exact hvl)).trans c0
    have k1 : w1.cell? ⟨vb, 1, none⟩ = some (.iface 95 (.slice a n c)) := (hb1.cell (p := ⟨vb, 1, none⟩) (by exact hvl)).trans c1
    have S1 : Hid ((fun u : World => u.cell? ⟨vb, 0, none⟩ = some (.pointer (some ⟨sb, 0, none⟩)) ∧ u.cell? ⟨vb, 1, none⟩ = some (.iface 95 (.slice a n c))) w1) := hid ⟨k0, k1⟩
    refine hK.out _ _ (.inr S1.out) ?_
    clear hK K S0
    refine U_take2 8 (i := 9) (v := .tuple #[.string ⟨t.toArray⟩, .int .i64 0]) rfl (by kernel_rfl) (by kernel_rfl) (by kernel_rfl) (by kernel_rfl) (by kernel_rfl) (fun _ _ _ h => h) (.inl ⟨rfl, fun u hu => (by go_simp)⟩) S1.out ?_
    refine U_take2 8 (i := 10) (v := .string ⟨t.toArray⟩) rfl (by kernel_rfl) (by kernel_rfl) (by kernel_rfl) (by kernel_rfl) (by kernel_rfl) (fun _ _ _ h => h) (.inl ⟨rfl, fun u hu => (by go_simp)⟩) S1.out ?_
    refine U_take2 8 (i := 11) (v := .int .i64 0) rfl (by kernel_rfl) (by kernel_rfl) (by kernel_rfl) (by kernel_rfl) (by kernel_rfl) (fun _ _ _ h => h) (.inl ⟨rfl, fun u hu => (by go_simp)⟩) S1.out ?_
    refine U_take2 8 (i := 12) (v := .pointer (some ⟨sb, 0, none⟩)) rfl (by kernel_rfl) (by kernel_rfl) (by kernel_rfl) (by kernel_rfl) (by kernel_rfl) (fun _ _ _ h => h) (.inl ⟨rfl, fun u hu => (by go_simp)⟩) S1.out ?_
    refine U_take2 8 (i := 13) (v := .pointer (some ⟨sb, 0, none⟩)) rfl (by kernel_rfl) (by kernel_rfl) (by kernel_rfl) (by kernel_rfl) (by kernel_rfl) (fun _ _ _ h => h) (.inl ⟨rfl, fun u hu => (by go_simp)⟩) S1.out ?_
    have hs1 : w1.heap[sb]? = some (.cells #[.string ⟨#[]⟩, .bool false, .int .i64 (cnt : Nat)] 94 (0, 0)) := (hb1.block sb (Array.getElem?_eq_some_iff.1 HV.out.shr).1).trans HV.out.shr
    have q0 : w1.cell? ⟨sb, 0, none⟩ = some (.string ⟨#[]⟩) := by rw [Lib.cell_of_heap hs1]; rfl
    have q1 : w1.frozen? ⟨sb, 0, none⟩ = false := Lib.frozen_of_heap hs1 0
    obtain ⟨w2, hw2⟩ : ∃ w2, w2 = w1.setCell ⟨sb, 0, none⟩ (.string ⟨t.toArray⟩) := ⟨_, rfl⟩
    have hs2 : w2.heap[sb]? = some (.cells #[.string ⟨t.toArray⟩, .bool false, .int .i64 (cnt : Nat)] 94 (0, 0)) := by rw [hw2]; simp [World.setCell, Array.getElem?_modify, hs1]
    have hv2 : ∀ j, w2.cell? ⟨vb, j, none⟩ = w1.cell? ⟨vb, j, none⟩ := fun j => by
      unfold World.cell?
      rw [hw2, Below.heap_setCell _ _ _ _ (by show vb ≠ sb; exact hne)]
    have S2 : Hid ((fun u : World => u.cell? ⟨vb, 0, none⟩ = some (.pointer (some ⟨sb, 0, none⟩)) ∧ u.cell? ⟨vb, 1, none⟩ = some (.iface 95 (.slice a n c))) w2) := hid ⟨(hv2 0).trans k0, (hv2 1).trans k1⟩
    refine U_step (j := 14) (by kernel_rfl) rfl (fun K hK => ?_)
    go_simp
    rw [← hw2]
    refine hK.out _ _ (.inr S2.out) ?_
    clear hK K
    refine U_done (by kernel_rfl) ?_ _
    have d0 := S2.out.1
    have d1 : w2.cell? ⟨sb, 1, none⟩ = some (.bool false) := by rw [Lib.cell_of_heap hs2]; rfl
    have d2 : w2.frozen? ⟨sb, 1, none⟩ = false := Lib.frozen_of_heap hs2 1
    have hs3 : (w2.setCell ⟨sb, 1, none⟩ (.bool true)).heap[sb]? = some (.cells #[.string ⟨t.toArray⟩, .bool true, .int .i64 (cnt : Nat)] 94 (0, 0)) := by simp [World.setCell, Array.getElem?_modify, hs2]
    have d3 : (w2.setCell ⟨sb, 1, none⟩ (.bool true)).cell? ⟨sb, 0, none⟩ = some (.string ⟨t.toArray⟩) := by rw [Lib.cell_of_heap hs3]; rfl
    have d4 : (w2.setCell ⟨sb, 1, none⟩ (.bool true)).cell? ⟨vb, 0, none⟩ = some (.pointer (some ⟨sb, 0, none⟩)) := by
      rw [← d0]
      unfold World.cell?
      rw [Below.heap_setCell _ _ _ _ (by show vb ≠ sb; exact hne)]
    have ho : Only [sb] w (w2.setCell ⟨sb, 1, none⟩ (.bool true)) := by
      rw [hw2]
      exact (Only.of hb1 _).trans ((Only.set (by simp) _).trans (Only.set (by simp) _))
    have HE := hid (HV.out.told_now ho hs3)
    have HO := hid ho
    clear hw1 hb1 k0 k1 S1 hs1 q0 q1 hw2 hs2 hv2 S2 hs3 ho
    go_wp2
    go_ret
    exact ⟨rfl, HO.out, HE.out⟩
end Go.Proofs.YtabhkoklcjhlpaaGreatDoor.Pz
/-
  slices.Clone of texts; value's keep.
-/
namespace Go.Proofs.YtabhkoklcjhlpaaGreatDoor.Pz
open Go.RowKit
theorem app_strs {t : TypeId} (ht : Tryz.prog.underlying t = some (.slice 9)) {w : World} {ops : Array Oper} {rest : List Oper} {o : Oper} {a : Act} {Q : Exit → Act → World → Prop} (hgd : o.guard = none) (s x : Operand)
    (ho : o.op = .call { callee := .builtin .append, args := #[s, x], argTypes := #[t, t] }) (B : Nat) (v : Value) (l m : List Str)
    (hs : a.eval s = v) (hown : RowS B w v l) (p : Addr) (n c : Nat) (hn : n = m.length) (hx : a.eval x = .slice (some p) n c) (hcell : ∀ i (h : i < m.length), w.cell? (p.add i) = some (.string ⟨m[i].toArray⟩)) (hB : B ≤ w.heap.size) (hl : l.length + m.length ≤ 10000000)
    (h : ∀ v' w', RowS B w' v' (l ++ m) → w.grownBy w' v.ownBlock → wpList Tryz.prog ops Q rest (a.put o.dst v') w') :
    wpList Tryz.prog ops Q (o :: rest) a w := by
  obtain ⟨i0, hi, hz0, hz1, hz2⟩ := info_parts Tryz.infoS
  subst hn
  refine wpList_append_own_at w hgd s x t ho B 9 i0 (.string ⟨#[]⟩) 1 16 ht hi hz0 hz1 hz2 rfl (by decide) v l.length (strCells l) hs hown p m.length c (strCells m) hx (by rw [strCells_len]; omega) (fun j u hj => ?_) (strCells_one m) ?_ ?_ hB ?_
  · have hjl : j < m.length := by
      have := (List.getElem?_eq_some_iff.1 hj).1
      rwa [strCells_len] at this
    have : u = .string ⟨m[j].toArray⟩ := by simpa [strCells, hjl] using hj.symm
    rw [this]
    exact hcell j hjl
  · unfold maxLen; omega
  · omega
  · intro v' w' hrow' hg' _ hat
    refine h v' w' ?_ hg'
    show w'.ownsRow B 9 1 v' (l ++ m).length (strCells (l ++ m))
    rw [strCells_app, List.length_append]
    exact hrow'
theorem Tryz.nil1clone_fn (n c : Nat) (w : World) : (binOp .eql 22 (.slice none n c) (.slice none 0 0)).run Tryz.prog w = .ok (.bool true) w := by kernel_rfl
theorem Tryz.nil0clone_fn (p : Addr) (n c : Nat) (w : World) : (binOp .eql 22 (.slice (some p) n c) (.slice none 0 0)).run Tryz.prog w = .ok (.bool false) w := by kernel_rfl
set_option maxRecDepth 100000 in
theorem clone_fn {l : List Str} {v : Value} {w : World} (hv : StrsAt w v l) (hl : l.length ≤ 1000000) : Calls Tryz.prog 50 #[v] w fun e w' => ∃ u, e = .returned u ∧ RowS w.heap.size w' u l ∧ Below w.heap.size w w' := by
  obtain ⟨a, cap, rfl, hc, hcell⟩ := hv
  cases a with
  | none =>
    have hl0 : l = [] := by
      cases l with
      | nil => rfl
      | cons x l =>
        obtain ⟨p, h, _⟩ := hcell 0 (by simp)
        cases h
    subst hl0
    clear hcell hc hl
    have heq := @Tryz.nil1clone_fn
    go_enter Tryz.func50, Tryz.ntmps50
    go_wp2
    go_ret
    exact ⟨_, rfl, RowS.nil _ _, Below.refl _ _⟩
  | some p =>
    obtain ⟨n, hn⟩ : ∃ n, n = l.length := ⟨_, rfl⟩
    have hl2 : ([] : List Str).length + l.length ≤ 10000000 := by simp; omega
    have hsz : w.heap.size ≤ (w.alloc (.cells #[] 9)).heap.size := by simp
    have HC := hid hcell
    have HN := hid hn
    rw [← hn] at hl ⊢
    clear hcell hc hn
    have he : RowS w.heap.size (w.alloc (.cells #[] 9)) (.slice (some ⟨w.heap.size, 0, none⟩) 0 0) [] := ⟨rfl, .inr ⟨w.heap.size, 0, #[], rfl, Nat.le_refl _, heap_alloc_new _ _, Nat.le_refl _, Nat.zero_le _, rfl, rfl⟩⟩
    have hb1 : Below w.heap.size w (w.alloc (.cells #[] 9)) := (Below.refl _ _).alloc (Nat.le_refl _) _
    have HE := hid he
    have HB := hid hb1
    clear he hb1
    have heq := @Tryz.nil0clone_fn
    go_enter Tryz.func50, Tryz.ntmps50
    go_wp2_with (at_builtin; go_loud (refine app_strs Tryz.underlying22 rfl (.tmp 5) (.tmp 6) rfl w.heap.size _ [] l rfl HE.out p n cap HN.out rfl (fun i hi => by obtain ⟨q, hq, h1, h2⟩ := HC.out i hi; cases hq; rw [HB.out.cell (p := p.add i) (by rw [add_block]; exact h1)]; exact h2) hsz hl2 ?_))
    intro v2 w2 hr2 hg2
    have hb2 : Below w.heap.size w w2 := HB.out.grown hg2 (by simp) fun k hk => by
      simp only [Value.ownBlock, Option.some.injEq] at hk
      omega
    have HR := hid hr2
    have HB2 := hid hb2
    obtain ⟨a2, c2, e2⟩ := hr2.shape
    obtain ⟨n2, hn2⟩ : ∃ n, n = l.length := ⟨_, rfl⟩
    rw [← hn2] at e2
    subst e2
    clear hr2 hg2 hb2 hn2
    go_wp2
    go_ret
    exact ⟨_, rfl, HR.out, HB2.out⟩
theorem Tryz.nil1cloneE_fn (n c : Nat) (w : World) : (binOp .eql 77 (.slice none n c) (.slice none 0 0)).run Tryz.prog w = .ok (.bool true) w := by kernel_rfl
theorem Tryz.nil0cloneE_fn (p : Addr) (n c : Nat) (w : World) : (binOp .eql 77 (.slice (some p) n c) (.slice none 0 0)).run Tryz.prog w = .ok (.bool false) w := by kernel_rfl
set_option maxRecDepth 100000 in
theorem cloneE_fn {l : List Str} {v : Value} {w : World} (hv : StrsAt w v l) (hl : l.length ≤ 1000000) : Calls Tryz.prog 54 #[v] w fun e w' => ∃ u, e = .returned u ∧ RowS w.heap.size w' u l ∧ Below w.heap.size w w' := by
  obtain ⟨a, cap, rfl, hc, hcell⟩ := hv
  cases a with
  | none =>
    have hl0 : l = [] := by
      cases l with
      | nil => rfl
      | cons x l =>
        obtain ⟨p, h, _⟩ := hcell 0 (by simp)
        cases h
    subst hl0
    clear hcell hc hl
    have heq := @Tryz.nil1cloneE_fn
    go_enter Tryz.func54, Tryz.ntmps54
    go_wp2
    go_ret
    exact ⟨_, rfl, RowS.nil _ _, Below.refl _ _⟩
  | some p =>
    obtain ⟨n, hn⟩ : ∃ n, n = l.length := ⟨_, rfl⟩
    have hl2 : ([] : List Str).length + l.length ≤ 10000000 := by simp; omega
    have hsz : w.heap.size ≤ (w.alloc (.cells #[] 9)).heap.size := by simp
    have HC := hid hcell
    have HN := hid hn
    rw [← hn] at hl ⊢
    clear hcell hc hn
    have he : RowS w.heap.size (w.alloc (.cells #[] 9)) (.slice (some ⟨w.heap.size, 0, none⟩) 0 0) [] := ⟨rfl, .inr ⟨w.heap.size, 0, #[], rfl, Nat.le_refl _, heap_alloc_new _ _, Nat.le_refl _, Nat.zero_le _, rfl, rfl⟩⟩
    have hb1 : Below w.heap.size w (w.alloc (.cells #[] 9)) := (Below.refl _ _).alloc (Nat.le_refl _) _
    have HE := hid he
    have HB := hid hb1
    clear he hb1
    have heq := @Tryz.nil0cloneE_fn
    go_enter Tryz.func54, Tryz.ntmps54
    go_wp2_with (at_builtin; go_loud (refine app_strs Tryz.underlying77 rfl (.tmp 5) (.tmp 6) rfl w.heap.size _ [] l rfl HE.out p n cap HN.out rfl (fun i hi => by obtain ⟨q, hq, h1, h2⟩ := HC.out i hi; cases hq; rw [HB.out.cell (p := p.add i) (by rw [add_block]; exact h1)]; exact h2) hsz hl2 ?_))
    intro v2 w2 hr2 hg2
    have hb2 : Below w.heap.size w w2 := HB.out.grown hg2 (by simp) fun k hk => by
      simp only [Value.ownBlock, Option.some.injEq] at hk
      omega
    have HR := hid hr2
    have HB2 := hid hb2
    obtain ⟨a2, c2, e2⟩ := hr2.shape
    obtain ⟨n2, hn2⟩ : ∃ n, n = l.length := ⟨_, rfl⟩
    rw [← hn2] at e2
    subst e2
    clear hr2 hg2 hb2 hn2
    go_wp2
    go_ret
    exact ⟨_, rfl, HR.out, HB2.out⟩
theorem Tryz.nil1cloneP_fn (n c : Nat) (w : World) : (binOp .eql 95 (.slice none n c) (.slice none 0 0)).run Tryz.prog w = .ok (.bool true) w := by kernel_rfl
theorem Tryz.nil0cloneP_fn (p : Addr) (n c : Nat) (w : World) : (binOp .eql 95 (.slice (some p) n c) (.slice none 0 0)).run Tryz.prog w = .ok (.bool false) w := by kernel_rfl
set_option maxRecDepth 100000 in
theorem cloneP_fn {l : List Str} {v : Value} {w : World} (hv : StrsAt w v l) (hl : l.length ≤ 1000000) : Calls Tryz.prog 61 #[v] w fun e w' => ∃ u, e = .returned u ∧ RowS w.heap.size w' u l ∧ Below w.heap.size w w' := by
  obtain ⟨a, cap, rfl, hc, hcell⟩ := hv
  cases a with
  | none =>
    have hl0 : l = [] := by
      cases l with
      | nil => rfl
      | cons x l =>
        obtain ⟨p, h, _⟩ := hcell 0 (by simp)
        cases h
    subst hl0
    clear hcell hc hl
    have heq := @Tryz.nil1cloneP_fn
    go_enter Tryz.func61, Tryz.ntmps61
    go_wp2
    go_ret
    exact ⟨_, rfl, RowS.nil _ _, Below.refl _ _⟩
  | some p =>
    obtain ⟨n, hn⟩ : ∃ n, n = l.length := ⟨_, rfl⟩
    have hl2 : ([] : List Str).length + l.length ≤ 10000000 := by simp; omega
    have hsz : w.heap.size ≤ (w.alloc (.cells #[] 9)).heap.size := by simp
    have HC := hid hcell
    have HN := hid hn
    rw [← hn] at hl ⊢
    clear hcell hc hn
    have he : RowS w.heap.size (w.alloc (.cells #[] 9)) (.slice (some ⟨w.heap.size, 0, none⟩) 0 0) [] := ⟨rfl, .inr ⟨w.heap.size, 0, #[], rfl, Nat.le_refl _, heap_alloc_new _ _, Nat.le_refl _, Nat.zero_le _, rfl, rfl⟩⟩
    have hb1 : Below w.heap.size w (w.alloc (.cells #[] 9)) := (Below.refl _ _).alloc (Nat.le_refl _) _
    have HE := hid he
    have HB := hid hb1
    clear he hb1
    have heq := @Tryz.nil0cloneP_fn
    go_enter Tryz.func61, Tryz.ntmps61
    go_wp2_with (at_builtin; go_loud (refine app_strs Tryz.underlying95 rfl (.tmp 5) (.tmp 6) rfl w.heap.size _ [] l rfl HE.out p n cap HN.out rfl (fun i hi => by obtain ⟨q, hq, h1, h2⟩ := HC.out i hi; cases hq; rw [HB.out.cell (p := p.add i) (by rw [add_block]; exact h1)]; exact h2) hsz hl2 ?_))
    intro v2 w2 hr2 hg2
    have hb2 : Below w.heap.size w w2 := HB.out.grown hg2 (by simp) fun k hk => by
      simp only [Value.ownBlock, Option.some.injEq] at hk
      omega
    have HR := hid hr2
    have HB2 := hid hb2
    obtain ⟨a2, c2, e2⟩ := hr2.shape
    obtain ⟨n2, hn2⟩ : ∃ n, n = l.length := ⟨_, rfl⟩
    rw [← hn2] at e2
    subst e2
    clear hr2 hg2 hb2 hn2
    go_wp2
    go_ret
    exact ⟨_, rfl, HR.out, HB2.out⟩
/-- the face is written -/
theorem ValAt.faced {vb sb : Nat} {w : World} {fv fv' : Value} {t : Str} {cnt : Nat} {f f' : Fc} (h : ValAt vb sb w fv t true cnt f) (hf : FaceIs w fv' f') : ValAt vb sb (w.setCell ⟨vb, 1, none⟩ fv') fv' t true cnt f' ∧ Only [vb, sb] w (w.setCell ⟨vb, 1, none⟩ fv') := by
  have hne := h.ne
  refine ⟨⟨(Below.heap_setCell _ _ _ _ (by show sb ≠ vb; exact fun e => hne e.symm)).trans h.shr, by simp [World.setCell, Array.getElem?_modify, h.val], FaceIs.keep hf fun k cur hc => (Below.heap_setCell _ _ _ _ (by show k ≠ vb; exact kinds_ne hc h.val (by decide))).trans hc, fun h => by cases h⟩, Only.set (by simp) _⟩
theorem Only.more {A C : List Nat} {w w' : World} (h : Only A w w') (hA : ∀ k ∈ A, k ∈ C) : Only C w w' := ⟨h.os, h.tape, h.output, h.size, fun k hk hC => h.block k hk fun e => hC (hA k e)⟩
set_option maxRecDepth 100000 in
theorem keep_fn {vb sb : Nat} {w : World} {fv fv' : Value} {t : Str} {told : Bool} {cnt : Nat} {f f' : Fc} (h : ValAt vb sb w fv t told cnt f) (hml : ML w) (hf : FaceIs w fv' f') :
    Calls Tryz.prog 56 #[.pointer (some ⟨vb, 0, none⟩), fv'] w fun e w' => e = .returned (.tuple #[]) ∧ Only [vb, sb] w w' ∧ ValAt vb sb w' fv' t true cnt f' := by
  have HT := hid (text_fn h hml)
  have hsh : ∃ fz, h.val = fz := ⟨_, rfl⟩
  have hfc : (fv' = .nilIface) ∨ (∃ T u, fv' = .iface T u) := by
    cases f' with
    | text => exact .inl hf
    | num c => exact .inr ⟨_, _, hf⟩
    | list l => obtain ⟨u, e, _⟩ := hf; exact .inr ⟨_, _, e⟩
    | dict l => obtain ⟨u, e, _⟩ := hf; exact .inr ⟨_, _, e⟩
  have HF := hid hf
  have H := hid h
  clear h hf hsh
  have post : ∀ w1, Only [sb] w w1 → ValAt vb sb w1 fv t true cnt f → w1.frozen? ⟨vb, 1, none⟩ = false ∧ w1.cell? ⟨vb, 1, none⟩ = some fv ∧ Only [vb, sb] w (w1.setCell ⟨vb, 1, none⟩ fv') ∧ ValAt vb sb (w1.setCell ⟨vb, 1, none⟩ fv') fv' t true cnt f' := by
    intro w1 ho hv
    have h9 := hv.faced (f' := f') (FaceIs.keep HF.out fun k cur hc => ho.cells hc (by simpa using kinds_ne hc H.out.shr (by decide)))
    exact ⟨Lib.frozen_of_heap hv.val 1, by rw [Lib.cell_of_heap hv.val]; rfl, (ho.more (by simp)).trans h9.2, h9.1⟩
  have HP := hid post
  clear post
  rcases hfc with rfl | ⟨T, u, rfl⟩
  all_goals
    go_enter Tryz.func56, Tryz.ntmps56
    go_wp2_with fail
    (with_reducible refine HT.out.mono ?_); rintro e w1 ⟨rfl, ho, hv⟩
    obtain ⟨k1, k2, k3, k4⟩ := HP.out w1 ho hv
    have K3 := hid k3
    have K4 := hid k4
    clear ho hv k3 k4
    go_wp2
    go_end0
    exact ⟨rfl, K3.out, K4.out⟩
end Go.Proofs.YtabhkoklcjhlpaaGreatDoor.Pz
/-
  value: List, Number, Pairs.
-/
namespace Go.Proofs.YtabhkoklcjhlpaaGreatDoor.Pz
open Go.RowKit
def listAns (f : Fc) (t : Str) : List Str × Int × Fc :=
  match f with
  | .list l => (l, 0, .list l)
  | f => if (splitE t).2.2 = 0 then ((splitE t).1, 0, .list (splitE t).1) else ([], (splitE t).2.2, f)
def pairsAns (f : Fc) (t : Str) : List Str × Int × Fc :=
  match f with
  | .dict l => (l, 0, .dict l)
  | f => if (pairsE t).2 = 0 then ((pairsE t).1, 0, .dict (pairsE t).1) else ([], (pairsE t).2, f)
def numAns (f : Fc) (t : Str) : Str × Int × Fc :=
  match f with
  | .num c => (c, 0, .num c)
  | f => if (canRes t).2 = 0 then ((canRes t).1, 0, .num (canRes t).1) else ([], (canRes t).2, f)
def Fc.small : Fc → Prop
  | .list l => l.length ≤ 1000000
  | .dict l => l.length ≤ 1000000
  | _ => True
theorem ValAt.only {vb sb : Nat} {w : World} {fv : Value} {t : Str} {told : Bool} {cnt : Nat} {f : Fc} (h : ValAt vb sb w fv t told cnt f) (hm : ML w) : vb ≠ 0 ∧ sb ≠ 0 := by
  obtain ⟨m, hm⟩ := hm
  have h1 : w.cell? ⟨vb, 0, none⟩ = some (.pointer (some ⟨sb, 0, none⟩)) := by rw [Lib.cell_of_heap h.val]; rfl
  have h2 : w.cell? ⟨sb, 0, none⟩ = some (.string ⟨(if told then t else []).toArray⟩) := by rw [Lib.cell_of_heap h.shr]; rfl
  constructor
  · rintro rfl
    rw [hm] at h1
    cases h1
  · rintro rfl
    rw [hm] at h2
    cases h2
theorem flatP_zip (Ks Vs : List Str) : (flatP (Ks.zip Vs)).length ≤ 2 * Ks.length := by
  rw [flatP_len, List.length_zip]
  omega
theorem pairsE_len (s : Str) : (pairsE s).1.length ≤ 2 * s.length := by
  unfold pairsE
  split
  · have h1 := flatP_zip (bookOf [] [] (splitE s).1).1 (bookOf [] [] (splitE s).1).2
    have h2 := bookOf_len (splitE s).1 [] []
    have h3 := (splitE_out s).1
    simp at h2
    dsimp only
    omega
  · simp
set_option maxRecDepth 100000 in
set_option maxHeartbeats 1000000 in
theorem listV_other {vb sb : Nat} {w : World} {fv : Value} {t : Str} {told : Bool} {cnt : Nat} {f : Fc} (h : ValAt vb sb w fv t told cnt f) (hml : ML w) (ht : t.length ≤ 100000)
    (hta : ∀ w, (Instr.typeAssert fv 86 77 true).run Tryz.prog w = .ok (.tuple #[.slice none 0 0, .bool false]) w) (hA : listAns f t = if (splitE t).2.2 = 0 then ((splitE t).1, 0, .list (splitE t).1) else ([], (splitE t).2.2, f)) :
    Calls Tryz.prog 21 #[.pointer (some ⟨vb, 0, none⟩)] w fun e w' => ∃ u fv' told', e = .returned (.tuple #[u, .int .i64 (listAns f t).2.1]) ∧ RowS w.heap.size w' u (listAns f t).1 ∧ Only [vb, sb] w w' ∧ ValAt vb sb w' fv' t told' cnt (listAns f t).2.2 ∧ (told = true → told' = true) := by
  rw [hA]
  have c1 : w.cell? ⟨vb, 1, none⟩ = some fv := by rw [Lib.cell_of_heap h.val]; rfl
  have hT := text_fn h hml
  have hnot := h.only hml
  have hlen : ((splitE t).1).length ≤ 1000000 := by
    have := splitE_out t
    omega
  have hS := fun w => split_fn t (by omega) w
  unfold SplitQ at hS
  obtain ⟨l, hl⟩ : ∃ l, l = (splitE t).1 := ⟨_, rfl⟩
  obtain ⟨at0, hat⟩ : ∃ x, x = (splitE t).2.1 := ⟨_, rfl⟩
  obtain ⟨er, her⟩ : ∃ x, x = (splitE t).2.2 := ⟨_, rfl⟩
  rw [← hl, ← hat, ← her] at hS
  rw [← hl, ← her]
  rw [← hl] at hlen
  clear hA hl hat her
  have HT := hid hT
  have HS := hid hS
  have HM := hid hml
  have HN := hid hnot
  clear hT hS hml h hnot
  by_cases he : er = 0
  · subst he
    rw [if_pos rfl]
    dsimp only
    go_enter Tryz.func21, Tryz.ntmps21
    go_wp2_with fail
    (with_reducible refine HT.out.mono ?_); rintro e w1 ⟨rfl, ho1, hv1⟩
    have HO1 := hid ho1
    have HV1 := hid hv1
    clear ho1 hv1
    go_wp2_with fail
    (with_reducible refine (HS.out _).mono ?_); rintro e w2 ⟨hb2, v, rfl, hr2⟩
    have hk : FaceIs w2 (.iface 77 v) (.list l) := ⟨v, rfl, hr2.mono (Nat.zero_le _)⟩
    have hm1 : ML w1 := HM.out.only HO1.out (by simpa using HN.out.2)
    have hm2 : ML w2 := hm1.below hb2
    have HV2 := hid (HV1.out.on hb2)
    have hK := hid (keep_fn HV2.out hm2 hk)
    obtain ⟨a, cp, e2⟩ := hr2.shape
    obtain ⟨n, hn⟩ : ∃ n, n = l.length := ⟨_, rfl⟩
    rw [← hn] at e2
    subst e2
    have HO2 := hid ((HO1.out.more (C := [vb, sb]) (by simp)).trans (Only.of hb2 _))
    have HR2 := hid hr2
    clear hb2 hr2 hk hm1 hm2 hn
    go_wp2_with fail
    (with_reducible refine hK.out.mono ?_); rintro e w3 ⟨rfl, ho3, hv3⟩
    have hr3 : RowS w1.heap.size w3 _ l := ownsRow_heap2 HR2.out fun g cur hg hc => ho3.cells hc (by
      have x1 := kinds_ne hc HV2.out.val (by decide)
      have x2 := kinds_ne hc HV2.out.shr (by decide)
      simp [x1, x2])
    have hC := hid (clone_fn hr3.strs hlen)
    have HO3 := hid (HO2.out.trans ho3)
    have HV3 := hid hv3
    clear ho3 hv3 hr3
    go_wp2_with fail
    (with_reducible refine hC.out.mono ?_); rintro e w4 ⟨u, rfl, hr4, hb4⟩
    obtain ⟨a4, c4, e4⟩ := hr4.shape
    obtain ⟨n4, hn4⟩ : ∃ n, n = l.length := ⟨_, rfl⟩
    rw [← hn4] at e4
    subst e4
    have HR4 := hid (hr4.mono (HO3.out.size))
    have HO4 := hid (HO3.out.trans (Only.of hb4 _))
    have HV4 := hid (HV3.out.on hb4)
    clear hr4 hb4 hn4
    go_wp2
    go_ret2
    exact ⟨_, _, true, rfl, HR4.out, HO4.out, HV4.out, fun _ => rfl⟩
  · rw [if_neg he]
    dsimp only
    have hne : (er != 0) = true := by rw [bne_iff_ne]; exact he
    go_enter Tryz.func21, Tryz.ntmps21
    go_wp2_with fail
    (with_reducible refine HT.out.mono ?_); rintro e w1 ⟨rfl, ho1, hv1⟩
    have HO1 := hid ho1
    have HV1 := hid hv1
    clear ho1 hv1
    go_wp2_with fail
    (with_reducible refine (HS.out _).mono ?_); rintro e w2 ⟨hb2, v, rfl, hr2⟩
    have HO2 := hid ((HO1.out.more (C := [vb, sb]) (by simp)).trans (Only.of hb2 _))
    have HV2 := hid (HV1.out.on hb2)
    obtain ⟨a, cp, e2⟩ := hr2.shape
    obtain ⟨n, hn⟩ : ∃ n, n = l.length := ⟨_, rfl⟩
    rw [← hn] at e2
    subst e2
    clear hr2 hb2 hn
    go_wp2
    go_ret2
    exact ⟨_, _, true, rfl, RowS.nil _ _, HO2.out, HV2.out, fun _ => rfl⟩
set_option maxRecDepth 100000 in
theorem listV_fn {vb sb : Nat} {w : World} {fv : Value} {t : Str} {told : Bool} {cnt : Nat} {f : Fc} (h : ValAt vb sb w fv t told cnt f) (hml : ML w) (ht : t.length ≤ 100000) (hsm : f.small) :
    Calls Tryz.prog 21 #[.pointer (some ⟨vb, 0, none⟩)] w fun e w' => ∃ u fv' told', e = .returned (.tuple #[u, .int .i64 (listAns f t).2.1]) ∧ RowS w.heap.size w' u (listAns f t).1 ∧ Only [vb, sb] w w' ∧ ValAt vb sb w' fv' t told' cnt (listAns f t).2.2 ∧ (told = true → told' = true) := by
  have hf := h.face
  cases f with
  | text =>
    obtain rfl : fv = .nilIface := hf
    exact listV_other h hml ht Tryz.as0E rfl
  | num c =>
    obtain rfl : fv = .iface 82 (.string ⟨c.toArray⟩) := hf
    exact listV_other h hml ht (Tryz.asNE _) rfl
  | list l =>
    obtain ⟨u, rfl, hr⟩ := hf
    have c1 : w.cell? ⟨vb, 1, none⟩ = some (.iface 77 u) := by rw [Lib.cell_of_heap h.val]; rfl
    have hC := hid (cloneE_fn hr.strs hsm)
    obtain ⟨a, cp, rfl⟩ := hr.shape
    have H := hid h
    obtain ⟨n, hn⟩ : ∃ n, n = l.length := ⟨_, rfl⟩
    rw [← hn] at c1 hC H
    have hta := Tryz.asEE a n cp
    clear h hr hn
    show Calls _ _ _ _ fun e w' => ∃ u fv' told', e = .returned (.tuple #[u, .int .i64 0]) ∧ RowS w.heap.size w' u l ∧ Only [vb, sb] w w' ∧ ValAt vb sb w' fv' t told' cnt (.list l) ∧ (told = true → told' = true)
    go_enter Tryz.func21, Tryz.ntmps21
    go_wp2_with fail
    (with_reducible refine hC.out.mono ?_); rintro e w4 ⟨u, rfl, hr4, hb4⟩
    obtain ⟨a4, c4, e4⟩ := hr4.shape
    obtain ⟨n4, hn4⟩ : ∃ n, n = l.length := ⟨_, rfl⟩
    rw [← hn4] at e4
    subst e4
    have HR4 := hid hr4
    have HO4 := hid (Only.of hb4 [vb, sb])
    have HV4 := hid (H.out.on hb4)
    clear hr4 hb4 hn4
    go_wp2
    go_ret2
    exact ⟨_, _, told, rfl, HR4.out, HO4.out, HV4.out, id⟩
  | dict l =>
    obtain ⟨u, rfl, hr⟩ := hf
    obtain ⟨a, cp, rfl⟩ := hr.shape
    exact listV_other h hml ht (Tryz.asDE _ _ _) rfl
set_option maxRecDepth 100000 in
set_option maxHeartbeats 1000000 in
theorem pairsV_other {vb sb : Nat} {w : World} {fv : Value} {t : Str} {told : Bool} {cnt : Nat} {f : Fc} (h : ValAt vb sb w fv t told cnt f) (hml : ML w) (ht : t.length ≤ 100000)
    (hta : ∀ w, (Instr.typeAssert fv 86 95 true).run Tryz.prog w = .ok (.tuple #[.slice none 0 0, .bool false]) w) (hA : pairsAns f t = if (pairsE t).2 = 0 then ((pairsE t).1, 0, .dict (pairsE t).1) else ([], (pairsE t).2, f)) :
    Calls Tryz.prog 34 #[.pointer (some ⟨vb, 0, none⟩)] w fun e w' => ∃ u fv' told', e = .returned (.tuple #[u, .int .i64 (pairsAns f t).2.1]) ∧ RowS w.heap.size w' u (pairsAns f t).1 ∧ Only [vb, sb] w w' ∧ ValAt vb sb w' fv' t told' cnt (pairsAns f t).2.2 ∧ (told = true → told' = true) := by
  rw [hA]
  have c1 : w.cell? ⟨vb, 1, none⟩ = some fv := by rw [Lib.cell_of_heap h.val]; rfl
  have hT := text_fn h hml
  have hnot := h.only hml
  have hlen : ((pairsE t).1).length ≤ 1000000 := by
    have := pairsE_len t
    omega
  have hS := fun w => dictPairs_fn t (by omega) w
  obtain ⟨l, hl⟩ : ∃ l, l = (pairsE t).1 := ⟨_, rfl⟩
  obtain ⟨er, her⟩ : ∃ x, x = (pairsE t).2 := ⟨_, rfl⟩
  rw [← hl, ← her] at hS
  rw [← hl, ← her]
  rw [← hl] at hlen
  clear hA hl her
  have HT := hid hT
  have HS := hid hS
  have HM := hid hml
  have HN := hid hnot
  clear hT hS hml h hnot
  by_cases he : er = 0
  · subst he
    rw [if_pos rfl]
    dsimp only
    go_enter Tryz.func34, Tryz.ntmps34
    go_wp2_with fail
    (with_reducible refine HT.out.mono ?_); rintro e w1 ⟨rfl, ho1, hv1⟩
    have HO1 := hid ho1
    have HV1 := hid hv1
    clear ho1 hv1
    go_wp2_with fail
    (with_reducible refine (HS.out _).mono ?_); rintro e w2 ⟨hb2, v, rfl, hr2⟩
    have hk : FaceIs w2 (.iface 95 v) (.dict l) := ⟨v, rfl, hr2.mono (Nat.zero_le _)⟩
    have hm1 : ML w1 := HM.out.only HO1.out (by simpa using HN.out.2)
    have hm2 : ML w2 := hm1.below hb2
    have HV2 := hid (HV1.out.on hb2)
    have hK := hid (keep_fn HV2.out hm2 hk)
    obtain ⟨a, cp, e2⟩ := hr2.shape
    obtain ⟨n, hn⟩ : ∃ n, n = l.length := ⟨_, rfl⟩
    rw [← hn] at e2
    subst e2
    have HO2 := hid ((HO1.out.more (C := [vb, sb]) (by simp)).trans (Only.of hb2 _))
    have HR2 := hid hr2
    clear hb2 hr2 hk hm1 hm2 hn
    go_wp2_with fail
    (with_reducible refine hK.out.mono ?_); rintro e w3 ⟨rfl, ho3, hv3⟩
    have hr3 : RowS w1.heap.size w3 _ l := ownsRow_heap2 HR2.out fun g cur hg hc => ho3.cells hc (by
      have x1 := kinds_ne hc HV2.out.val (by decide)
      have x2 := kinds_ne hc HV2.out.shr (by decide)
      simp [x1, x2])
    have hC := hid (clone_fn hr3.strs hlen)
    have HO3 := hid (HO2.out.trans ho3)
    have HV3 := hid hv3
    clear ho3 hv3 hr3
    go_wp2_with fail
    (with_reducible refine hC.out.mono ?_); rintro e w4 ⟨u, rfl, hr4, hb4⟩
    obtain ⟨a4, c4, e4⟩ := hr4.shape
    obtain ⟨n4, hn4⟩ : ∃ n, n = l.length := ⟨_, rfl⟩
    rw [← hn4] at e4
    subst e4
    have HR4 := hid (hr4.mono (HO3.out.size))
    have HO4 := hid (HO3.out.trans (Only.of hb4 _))
    have HV4 := hid (HV3.out.on hb4)
    clear hr4 hb4 hn4
    go_wp2
    go_ret2
    exact ⟨_, _, true, rfl, HR4.out, HO4.out, HV4.out, fun _ => rfl⟩
  · rw [if_neg he]
    dsimp only
    have hne : (er != 0) = true := by rw [bne_iff_ne]; exact he
    go_enter Tryz.func34, Tryz.ntmps34
    go_wp2_with fail
    (with_reducible refine HT.out.mono ?_); rintro e w1 ⟨rfl, ho1, hv1⟩
    have HO1 := hid ho1
    have HV1 := hid hv1
    clear ho1 hv1
    go_wp2_with fail
    (with_reducible refine (HS.out _).mono ?_); rintro e w2 ⟨hb2, v, rfl, hr2⟩
    have HO2 := hid ((HO1.out.more (C := [vb, sb]) (by simp)).trans (Only.of hb2 _))
    have HV2 := hid (HV1.out.on hb2)
    obtain ⟨a, cp, e2⟩ := hr2.shape
    obtain ⟨n, hn⟩ : ∃ n, n = l.length := ⟨_, rfl⟩
    rw [← hn] at e2
    subst e2
    clear hr2 hb2 hn
    go_wp2
    go_ret2
    exact ⟨_, _, true, rfl, RowS.nil _ _, HO2.out, HV2.out, fun _ => rfl⟩
set_option maxRecDepth 100000 in
theorem pairsV_fn {vb sb : Nat} {w : World} {fv : Value} {t : Str} {told : Bool} {cnt : Nat} {f : Fc} (h : ValAt vb sb w fv t told cnt f) (hml : ML w) (ht : t.length ≤ 100000) (hsm : f.small) :
    Calls Tryz.prog 34 #[.pointer (some ⟨vb, 0, none⟩)] w fun e w' => ∃ u fv' told', e = .returned (.tuple #[u, .int .i64 (pairsAns f t).2.1]) ∧ RowS w.heap.size w' u (pairsAns f t).1 ∧ Only [vb, sb] w w' ∧ ValAt vb sb w' fv' t told' cnt (pairsAns f t).2.2 ∧ (told = true → told' = true) := by
  have hf := h.face
  cases f with
  | text =>
    obtain rfl : fv = .nilIface := hf
    exact pairsV_other h hml ht Tryz.as0D rfl
  | num c =>
    obtain rfl : fv = .iface 82 (.string ⟨c.toArray⟩) := hf
    exact pairsV_other h hml ht (Tryz.asND _) rfl
  | list l =>
    obtain ⟨u, rfl, hr⟩ := hf
    obtain ⟨a, cp, rfl⟩ := hr.shape
    exact pairsV_other h hml ht (Tryz.asED _ _ _) rfl
  | dict l =>
    obtain ⟨u, rfl, hr⟩ := hf
    have c1 : w.cell? ⟨vb, 1, none⟩ = some (.iface 95 u) := by rw [Lib.cell_of_heap h.val]; rfl
    have hC := hid (cloneP_fn hr.strs hsm)
    obtain ⟨a, cp, rfl⟩ := hr.shape
    have H := hid h
    obtain ⟨n, hn⟩ : ∃ n, n = l.length := ⟨_, rfl⟩
    rw [← hn] at c1 hC H
    have hta := Tryz.asDD a n cp
    clear h hr hn
    show Calls _ _ _ _ fun e w' => ∃ u fv' told', e = .returned (.tuple #[u, .int .i64 0]) ∧ RowS w.heap.size w' u l ∧ Only [vb, sb] w w' ∧ ValAt vb sb w' fv' t told' cnt (.dict l) ∧ (told = true → told' = true)
    go_enter Tryz.func34, Tryz.ntmps34
    go_wp2_with fail
    (with_reducible refine hC.out.mono ?_); rintro e w4 ⟨u, rfl, hr4, hb4⟩
    obtain ⟨a4, c4, e4⟩ := hr4.shape
    obtain ⟨n4, hn4⟩ : ∃ n, n = l.length := ⟨_, rfl⟩
    rw [← hn4] at e4
    subst e4
    have HR4 := hid hr4
    have HO4 := hid (Only.of hb4 [vb, sb])
    have HV4 := hid (H.out.on hb4)
    clear hr4 hb4 hn4
    go_wp2
    go_ret2
    exact ⟨_, _, told, rfl, HR4.out, HO4.out, HV4.out, id⟩
set_option maxRecDepth 100000 in
set_option maxHeartbeats 1000000 in
theorem numV_other {vb sb : Nat} {w : World} {fv : Value} {t : Str} {told : Bool} {cnt : Nat} {f : Fc} (h : ValAt vb sb w fv t told cnt f) (hml : ML w) (ht : t.length ≤ 100000)
    (hta : ∀ w, (Instr.typeAssert fv 86 82 true).run Tryz.prog w = .ok (.tuple #[.string ⟨#[]⟩, .bool false]) w) (hA : numAns f t = if (canRes t).2 = 0 then ((canRes t).1, 0, .num (canRes t).1) else ([], (canRes t).2, f)) :
    Calls Tryz.prog 30 #[.pointer (some ⟨vb, 0, none⟩)] w fun e w' => ∃ fv' told', e = .returned (.tuple #[.string ⟨(numAns f t).1.toArray⟩, .int .i64 (numAns f t).2.1]) ∧ Only [vb, sb] w w' ∧ ValAt vb sb w' fv' t told' cnt (numAns f t).2.2 ∧ (told = true → told' = true) := by
  rw [hA]
  have c1 : w.cell? ⟨vb, 1, none⟩ = some fv := by rw [Lib.cell_of_heap h.val]; rfl
  have hT := text_fn h hml
  have hnot := h.only hml
  have hS := fun w => can_fn t (by omega) w
  obtain ⟨l, hl⟩ : ∃ l, l = (canRes t).1 := ⟨_, rfl⟩
  obtain ⟨er, her⟩ : ∃ x, x = (canRes t).2 := ⟨_, rfl⟩
  rw [← hl, ← her] at hS
  rw [← hl, ← her]
  clear hA hl her
  have HT := hid hT
  have HS := hid hS
  have HM := hid hml
  have HN := hid hnot
  clear hT hS hml h hnot
  by_cases he : er = 0
  · subst he
    rw [if_pos rfl]
    dsimp only
    go_enter Tryz.func30, Tryz.ntmps30
    go_wp2_with fail
    (with_reducible refine HT.out.mono ?_); rintro e w1 ⟨rfl, ho1, hv1⟩
    have HO1 := hid ho1
    have HV1 := hid hv1
    clear ho1 hv1
    go_wp2_with fail
    (with_reducible refine (HS.out _).mono ?_); rintro e w2 ⟨rfl, hb2⟩
    have hk : FaceIs w2 (.iface 82 (.string ⟨l.toArray⟩)) (.num l) := rfl
    have hm1 : ML w1 := HM.out.only HO1.out (by simpa using HN.out.2)
    have hm2 : ML w2 := hm1.below hb2
    have HV2 := hid (HV1.out.on hb2)
    have hK := hid (keep_fn HV2.out hm2 hk)
    have HO2 := hid ((HO1.out.more (C := [vb, sb]) (by simp)).trans (Only.of hb2 _))
    clear hb2 hk hm1 hm2
    go_wp2_with fail
    (with_reducible refine hK.out.mono ?_); rintro e w3 ⟨rfl, ho3, hv3⟩
    have HO3 := hid (HO2.out.trans ho3)
    have HV3 := hid hv3
    clear ho3 hv3
    go_wp2
    go_ret2
    exact ⟨_, true, rfl, HO3.out, HV3.out, fun _ => rfl⟩
  · rw [if_neg he]
    dsimp only
    have hne : (er != 0) = true := by rw [bne_iff_ne]; exact he
    go_enter Tryz.func30, Tryz.ntmps30
    go_wp2_with fail
    (with_reducible refine HT.out.mono ?_); rintro e w1 ⟨rfl, ho1, hv1⟩
    have HO1 := hid ho1
    have HV1 := hid hv1
    clear ho1 hv1
    go_wp2_with fail
    (with_reducible refine (HS.out _).mono ?_); rintro e w2 ⟨rfl, hb2⟩
    have HO2 := hid ((HO1.out.more (C := [vb, sb]) (by simp)).trans (Only.of hb2 _))
    have HV2 := hid (HV1.out.on hb2)
    clear hb2
    go_wp2
    go_ret2
    exact ⟨_, true, rfl, HO2.out, HV2.out, fun _ => rfl⟩
set_option maxRecDepth 100000 in
theorem numV_fn {vb sb : Nat} {w : World} {fv : Value} {t : Str} {told : Bool} {cnt : Nat} {f : Fc} (h : ValAt vb sb w fv t told cnt f) (hml : ML w) (ht : t.length ≤ 100000) :
    Calls Tryz.prog 30 #[.pointer (some ⟨vb, 0, none⟩)] w fun e w' => ∃ fv' told', e = .returned (.tuple #[.string ⟨(numAns f t).1.toArray⟩, .int .i64 (numAns f t).2.1]) ∧ Only [vb, sb] w w' ∧ ValAt vb sb w' fv' t told' cnt (numAns f t).2.2 ∧ (told = true → told' = true) := by
  have hf := h.face
  cases f with
  | text =>
    obtain rfl : fv = .nilIface := hf
    exact numV_other h hml ht Tryz.as0N rfl
  | num c =>
    obtain rfl : fv = .iface 82 (.string ⟨c.toArray⟩) := hf
    have c1 : w.cell? ⟨vb, 1, none⟩ = some (.iface 82 (.string ⟨c.toArray⟩)) := by rw [Lib.cell_of_heap h.val]; rfl
    have H := hid h
    have hta := Tryz.asNN ⟨c.toArray⟩
    clear h
    show Calls _ _ _ _ fun e w' => ∃ fv' told', e = .returned (.tuple #[.string ⟨c.toArray⟩, .int .i64 0]) ∧ Only [vb, sb] w w' ∧ ValAt vb sb w' fv' t told' cnt (.num c) ∧ (told = true → told' = true)
    go_enter Tryz.func30, Tryz.ntmps30
    go_wp2
    go_ret2
    exact ⟨_, told, rfl, Only.refl _ _, H.out, id⟩
  | list l =>
    obtain ⟨u, rfl, hr⟩ := hf
    obtain ⟨a, cp, rfl⟩ := hr.shape
    exact numV_other h hml ht (Tryz.asEN _ _ _) rfl
  | dict l =>
    obtain ⟨u, rfl, hr⟩ := hf
    obtain ⟨a, cp, rfl⟩ := hr.shape
    exact numV_other h hml ht (Tryz.asDN _ _ _) rfl
end Go.Proofs.YtabhkoklcjhlpaaGreatDoor.Pz
/-
  value: what is asked, made, OfList; the store: NewStore, add, got.
-/
namespace Go.Proofs.YtabhkoklcjhlpaaGreatDoor.Pz
open Go.RowKit
set_option maxRecDepth 100000 in
theorem askList_fn {vb sb : Nat} {w : World} {fv : Value} {t : Str} {told : Bool} {cnt : Nat} {f : Fc} (h : ValAt vb sb w fv t told cnt f) (hml : ML w) (ht : t.length ≤ 100000) (hsm : f.small) :
    Calls Tryz.prog 45 #[.pointer (some ⟨vb, 0, none⟩)] w fun e w' => ∃ fv' told', e = .returned (.int .i64 (listAns f t).2.1) ∧ Only [vb, sb] w w' ∧ ValAt vb sb w' fv' t told' cnt (listAns f t).2.2 ∧ (told = true → told' = true) := by
  have hC := hid (listV_fn h hml ht hsm)
  generalize listAns f t = r at hC ⊢
  obtain ⟨r1, r2, r3⟩ := r
  have hC := hid hC.out
  clear h hml
  go_enter Tryz.func45, Tryz.ntmps45
  go_wp2_with fail
  (with_reducible refine hC.out.mono ?_); rintro e w1 ⟨u, fv', told', rfl, hr, ho, hv, htt⟩
  obtain ⟨a, c, e2⟩ := hr.shape
  generalize List.length _ = n at e2
  subst e2
  clear hr
  have HO := hid ho
  have HV := hid hv
  have HT := hid htt
  clear ho hv htt
  go_wp2
  go_ret
  exact ⟨_, told', rfl, HO.out, HV.out, HT.out⟩
set_option maxRecDepth 100000 in
theorem askPairs_fn {vb sb : Nat} {w : World} {fv : Value} {t : Str} {told : Bool} {cnt : Nat} {f : Fc} (h : ValAt vb sb w fv t told cnt f) (hml : ML w) (ht : t.length ≤ 100000) (hsm : f.small) :
    Calls Tryz.prog 47 #[.pointer (some ⟨vb, 0, none⟩)] w fun e w' => ∃ fv' told', e = .returned (.int .i64 (pairsAns f t).2.1) ∧ Only [vb, sb] w w' ∧ ValAt vb sb w' fv' t told' cnt (pairsAns f t).2.2 ∧ (told = true → told' = true) := by
  have hC := hid (pairsV_fn h hml ht hsm)
  generalize pairsAns f t = r at hC ⊢
  obtain ⟨r1, r2, r3⟩ := r
  have hC := hid hC.out
  clear h hml
  go_enter Tryz.func47, Tryz.ntmps47
  go_wp2_with fail
  (with_reducible refine hC.out.mono ?_); rintro e w1 ⟨u, fv', told', rfl, hr, ho, hv, htt⟩
  obtain ⟨a, c, e2⟩ := hr.shape
  generalize List.length _ = n at e2
  subst e2
  clear hr
  have HO := hid ho
  have HV := hid hv
  have HT := hid htt
  clear ho hv htt
  go_wp2
  go_ret
  exact ⟨_, told', rfl, HO.out, HV.out, HT.out⟩
set_option maxRecDepth 100000 in
theorem askNumber_fn {vb sb : Nat} {w : World} {fv : Value} {t : Str} {told : Bool} {cnt : Nat} {f : Fc} (h : ValAt vb sb w fv t told cnt f) (hml : ML w) (ht : t.length ≤ 100000) (_hsm : f.small) :
    Calls Tryz.prog 46 #[.pointer (some ⟨vb, 0, none⟩)] w fun e w' => ∃ fv' told', e = .returned (.int .i64 (numAns f t).2.1) ∧ Only [vb, sb] w w' ∧ ValAt vb sb w' fv' t told' cnt (numAns f t).2.2 ∧ (told = true → told' = true) := by
  have hC := hid (numV_fn h hml ht)
  generalize numAns f t = r at hC ⊢
  obtain ⟨r1, r2, r3⟩ := r
  have hC := hid hC.out
  clear h hml
  go_enter Tryz.func46, Tryz.ntmps46
  go_wp2_with fail
  (with_reducible refine hC.out.mono ?_); rintro e w1 ⟨fv', told', rfl, ho, hv, htt⟩
  have HO := hid ho
  have HV := hid hv
  have HT := hid htt
  clear ho hv htt
  go_wp2
  go_ret
  exact ⟨_, told', rfl, HO.out, HV.out, HT.out⟩
set_option maxRecDepth 100000 in
theorem drop_fn {vb sb : Nat} {w : World} {fv : Value} {t : Str} {told : Bool} {cnt : Nat} {f : Fc} (h : ValAt vb sb w fv t told cnt f) (hml : ML w) :
    Calls Tryz.prog 44 #[.pointer (some ⟨vb, 0, none⟩)] w fun e w' => e = .returned (.int .i64 0) ∧ Only [vb, sb] w w' ∧ ValAt vb sb w' .nilIface t true cnt .text := by
  have hC := hid (keep_fn (fv' := .nilIface) (f' := .text) h hml rfl)
  clear h hml
  go_enter Tryz.func44, Tryz.ntmps44
  go_wp2_with fail
  (with_reducible refine hC.out.mono ?_); rintro e w1 ⟨rfl, ho, hv⟩
  have HO := hid ho
  have HV := hid hv
  clear ho hv
  go_wp2
  go_ret
  exact ⟨rfl, HO.out, HV.out⟩
theorem made_fn {w : World} {fv : Value} {f : Fc} (hf : FaceIs w fv f) (hok : f.ok) : Calls Tryz.prog 49 #[fv] w fun e w' => ∃ vb sb, e = .returned (.pointer (some ⟨vb, 0, none⟩)) ∧ w.heap.size ≤ vb ∧ w.heap.size ≤ sb ∧ ValAt vb sb w' fv f.told false 1 f ∧ Below w.heap.size w w' := by
  have hb : Below w.heap.size w ((w.alloc (.cells #[.string ⟨#[]⟩, .bool false, .int .i64 1] 94)).alloc (.cells #[.pointer (some ⟨w.heap.size, 0, none⟩), fv] 88)) := ((Below.refl _ _).alloc (Nat.le_refl _) _).alloc (by simp) _
  have h0 : ValAt (w.heap.size + 1) w.heap.size ((w.alloc (.cells #[.string ⟨#[]⟩, .bool false, .int .i64 1] 94)).alloc (.cells #[.pointer (some ⟨w.heap.size, 0, none⟩), fv] 88)) fv f.told false 1 f := by
    refine ⟨?_, ?_, FaceIs.keep hf fun k cur hc => (hb.block k (Array.getElem?_eq_some_iff.1 hc).1).trans hc, fun _ => ⟨rfl, hok⟩⟩
    · rw [Below.heap_alloc _ _ _ (by simp)]
      exact heap_alloc_new _ _
    · simpa using heap_alloc_new (w.alloc (.cells #[.string ⟨#[]⟩, .bool false, .int .i64 1] 94)) (.cells #[.pointer (some ⟨w.heap.size, 0, none⟩), fv] 88)
  have hfc : ∃ T u, fv = .iface T u := by
    cases f with
    | text => exact absurd hok id
    | num c => exact ⟨_, _, hf⟩
    | list l => obtain ⟨u, e, _⟩ := hf; exact ⟨_, _, e⟩
    | dict l => obtain ⟨u, e, _⟩ := hf; exact ⟨_, _, e⟩
  have H0 := hid h0
  have HB := hid hb
  clear h0 hb hf hok
  obtain ⟨T, u, rfl⟩ := hfc
  go_enter Tryz.func49, Tryz.ntmps49
  go_wp2
  go_ret
  exact ⟨_, _, rfl, by omega, Nat.le_refl _, H0.out, HB.out⟩
set_option maxRecDepth 100000 in
theorem ofList_fn {l : List Str} {v : Value} {w : World} (hv : StrsAt w v l) (hml : ML w) (hok : joinOk l) :
    Calls Tryz.prog 17 #[v] w fun e w' => ∃ vb sb fv, e = .returned (.tuple #[.pointer (some ⟨vb, 0, none⟩), .int .i64 0]) ∧ w.heap.size ≤ vb ∧ w.heap.size ≤ sb ∧ ValAt vb sb w' fv (quotedL l) false 1 (.list l) ∧ Below w.heap.size w w' := by
  have hJ := hid (join_fn l v w hml hv hok.1 hok.2.1 hok.2.2)
  have HV := hid hv
  have HK := hid hok
  have hl : l.length ≤ 1000000 := by have := hok.1; omega
  obtain ⟨a, cp, rfl, _⟩ := hv
  obtain ⟨n, hn⟩ : ∃ n, n = l.length := ⟨_, rfl⟩
  rw [← hn] at hJ HV ⊢
  clear hml hok hn
  go_enter Tryz.func17, Tryz.ntmps17
  go_wp2_with fail
  (with_reducible refine hJ.out.mono ?_); rintro e w1 ⟨rfl, hb1⟩
  have hC := hid (clone_fn (HV.out.below hb1) hl)
  have HB1 := hid hb1
  clear hb1
  go_wp2_with fail
  (with_reducible refine hC.out.mono ?_); rintro e w2 ⟨u, rfl, hr2, hb2⟩
  have hf : FaceIs w2 (.iface 77 u) (.list l) := ⟨u, rfl, hr2.mono (Nat.zero_le _)⟩
  have hM := hid (made_fn hf HK.out)
  obtain ⟨a2, c2, e2⟩ := hr2.shape
  obtain ⟨n2, hn2⟩ : ∃ n, n = l.length := ⟨_, rfl⟩
  rw [← hn2] at e2
  subst e2
  have HB2 := hid (HB1.out.trans (hb2.mono HB1.out.size))
  clear hr2 hb2 hf hn2
  go_wp2_with fail
  (with_reducible refine hM.out.mono ?_); rintro e w3 ⟨vb, sb, rfl, h1, h2, hv, hb3⟩
  have HV3 := hid hv
  have HB3 := hid hb3
  clear hv hb3
  have hs := HB2.out.size
  go_wp2
  go_ret2
  exact ⟨vb, sb, _, rfl, by omega, by omega, HV3.out, HB2.out.trans (HB3.out.mono hs)⟩
theorem Tryz.infoV : (Tryz.prog.info? 40).map (fun i => (i.zero, i.size, i.bytes)) = some (some (.pointer none), 1, 8) := by kernel_rfl
def ptrs (ps : List Nat) : List Value := ps.map fun b => .pointer (some ⟨b, 0, none⟩)
/-- a store: the handles' values -/
structure StAt (B st : Nat) (w : World) (v : Value) (ps : List Nat) : Prop where
  blk : w.heap[st]? = some (.cells #[v] 69 (0, 0))
  row : w.ownsRow B 40 1 v ps.length (ptrs ps)
theorem StAt.shape {B st : Nat} {w : World} {v : Value} {ps : List Nat} (h : StAt B st w v ps) : ∃ a c, v = .slice a ps.length c := by
  rcases h.row.2 with ⟨rfl, h0⟩ | ⟨g, cap, cur, rfl, _⟩
  · exact ⟨none, 0, by rw [h0]⟩
  · exact ⟨_, _, rfl⟩
theorem StAt.ne {B st : Nat} {w : World} {v : Value} {ps : List Nat} (h : StAt B st w v ps) {k : Nat} {cs : Array Value} {T : TypeId} (hk : w.heap[k]? = some (.cells cs T (0, 0))) (h1 : T ≠ 69) (h2 : T ≠ 40) : k ≠ st ∧ v.ownBlock ≠ some k := by
  refine ⟨kinds_ne hk h.blk h1, fun e => ?_⟩
  obtain ⟨_, cur, hc⟩ := ownsRow_lt h.row k e
  exact kinds_ne hk hc h2 rfl
theorem StAt.other {B st : Nat} {w w' : World} {v : Value} {ps : List Nat} (h : StAt B st w v ps) {A : List Nat} (ho : Only A w w') (hA : ∀ k ∈ A, k ≠ st ∧ v.ownBlock ≠ some k) : StAt B st w' v ps :=
  ⟨ho.cells h.blk fun e => (hA _ e).1 rfl, ownsRow_heap2 h.row fun g _ hg hc => ho.cells hc fun e => (hA g e).2 hg⟩
theorem StAt.on {B st : Nat} {w w' : World} {v : Value} {ps : List Nat} (h : StAt B st w v ps) (hb : Below w.heap.size w w') : StAt B st w' v ps := h.other (A := []) (Only.of hb []) (by simp)
theorem StAt.value {B st : Nat} {w w' : World} {v : Value} {ps : List Nat} (h : StAt B st w v ps) {vb sb : Nat} {fv : Value} {t : Str} {told : Bool} {cnt : Nat} {f : Fc} (hv : ValAt vb sb w fv t told cnt f) (ho : Only [vb, sb] w w') : StAt B st w' v ps :=
  h.other ho (by
    intro k hk
    simp only [List.mem_cons, List.not_mem_nil, or_false] at hk
    rcases hk with rfl | rfl
    · exact h.ne hv.val (by decide) (by decide)
    · exact h.ne hv.shr (by decide) (by decide))
theorem newStore_fn (w : World) : Calls Tryz.prog 10 #[] w fun e w' => e = .returned (.pointer (some ⟨w.heap.size, 0, none⟩)) ∧ StAt w.heap.size w.heap.size w' (.slice none 0 0) [] ∧ Below w.heap.size w w' := by
  have h0 : StAt w.heap.size w.heap.size (w.alloc (.cells #[.slice none 0 0] 69)) (.slice none 0 0) [] := ⟨heap_alloc_new _ _, World.ownsRow_nil _ _ _ _⟩
  have hb : Below w.heap.size w (w.alloc (.cells #[.slice none 0 0] 69)) := (Below.refl _ _).alloc (Nat.le_refl _) _
  have H0 := hid h0
  have HB := hid hb
  clear h0 hb
  go_enter Tryz.func10, Tryz.ntmps10
  go_wp2
  go_ret
  exact ⟨rfl, H0.out, HB.out⟩
end Go.Proofs.YtabhkoklcjhlpaaGreatDoor.Pz
/-
  value's store: add, got, Add, Face, Text, Make.
-/
namespace Go.Proofs.YtabhkoklcjhlpaaGreatDoor.Pz
open Go.RowKit
set_option maxRecDepth 100000 in
theorem add_fn {B st : Nat} {w : World} {v : Value} {ps : List Nat} (h : StAt B st w v ps) (p : Nat) (hB : B ≤ w.heap.size) (hn : ps.length ≤ 1000000) :
    Calls Tryz.prog 42 #[.pointer (some ⟨st, 0, none⟩), .pointer (some ⟨p, 0, none⟩)] w fun e w' => e = .returned (.int .i64 (ps.length : Nat)) ∧ ∃ v', StAt B st w' v' (ps ++ [p]) ∧ Only (st :: v.ownBlock.toList) w w' := by
  obtain ⟨i0, hi, hz0, hz1, hz2⟩ := info_parts Tryz.infoV
  obtain ⟨a, c, rfl⟩ := h.shape
  obtain ⟨n, hn0⟩ : ∃ n, n = ps.length := ⟨_, rfl⟩
  have c0 : w.cell? ⟨st, 0, none⟩ = some (.slice a n c) := by rw [Lib.cell_of_heap h.blk, hn0]; rfl
  have hown : (w.alloc (.cells #[.pointer (some ⟨p, 0, none⟩)] 40)).ownsRow B 40 1 (.slice a n c) n (ptrs ps) := by
    have := h.row
    rw [← hn0] at this
    exact World.ownsRow.alloc this _
  have hst := (Array.getElem?_eq_some_iff.1 h.blk).1
  have hnst : ∀ (X : World) (v' : Value) (m : Nat) (xs : List Value), X.ownsRow B 40 1 v' m xs → ∀ (cs : Array Value) (fz : Nat × Nat), X.heap[st]? = some (.cells cs 69 fz) → v'.ownBlock ≠ some st := fun X v' m xs hr cs fz hs e => by
    obtain ⟨_, cur, hc⟩ := ownsRow_lt hr st e
    exact kinds_ne hs hc (by decide) rfl
  have hlen : (ptrs ps ++ [.pointer (some ⟨p, 0, none⟩)]) = ptrs (ps ++ [p]) := by simp [ptrs]
  have HL := hid hlen
  have HNS := hid hnst
  have H := hid h
  have HN := hid hn0
  have HO := hid hown
  have hB1 : B ≤ (w.alloc (.cells #[.pointer (some ⟨p, 0, none⟩)] 40)).heap.size := by simp; omega
  have hmx : n + 1 ≤ maxLen := by unfold maxLen; omega
  have hby : (n + 1) * 8 ≤ 140737488355328 := by omega
  rw [← hn0] at hn ⊢
  clear hown h hn0 hnst hlen
  go_enter Tryz.func42, Tryz.ntmps42
  go_wp2_with (at_builtin; refine wpList_append_own_at _ rfl (.tmp 9) (.tmp 11) 67 rfl B 40 i0 (.pointer none) 1 8 Tryz.underlying67 hi hz0 hz1 hz2 rfl (by decide) _ n (ptrs ps) rfl HO.out ⟨w.heap.size, 0, none⟩ 1 1 [.pointer (some ⟨p, 0, none⟩)] rfl rfl (cell_one_new _ _ _) (by simp [Value.oneCell']) hmx hby hB1 ?_)
  intro v2 w2 hr2 hg2 _ hat
  have hsz2 := hg2.size
  have hb2 : w2.heap[st]? = some (.cells #[.slice a n c] 69 (0, 0)) := (hg2.block st (by simp; omega) fun e => HNS.out _ _ _ _ HO.out _ _ (((Below.heap_alloc _ _ _ (by omega)).trans H.out.blk)) e.symm).trans ((Below.heap_alloc _ _ _ (by omega)).trans (by rw [HN.out]; exact H.out.blk))
  have d0 : w2.cell? ⟨st, 0, none⟩ = some (.slice a n c) := by rw [Lib.cell_of_heap hb2]; rfl
  have d1 : w2.frozen? ⟨st, 0, none⟩ = false := Lib.frozen_of_heap hb2 0
  obtain ⟨a2, c2, e2⟩ : ∃ a2 c2, v2 = .slice a2 (n + 1) c2 := by
    rcases hr2.2 with ⟨_, h0⟩ | ⟨g, cap, cur, e, _⟩
    · omega
    · exact ⟨_, _, e⟩
  subst e2
  have hvst : (Value.slice a2 (n + 1) c2).ownBlock ≠ some st := HNS.out _ _ _ _ hr2 _ _ hb2
  obtain ⟨w3, hw3⟩ : ∃ w3, w3 = w2.setCell ⟨st, 0, none⟩ (.slice a2 (n + 1) c2) := ⟨_, rfl⟩
  have hset : ∀ k, k ≠ st → w3.heap[k]? = w2.heap[k]? := fun k hk => by rw [hw3]; exact Below.heap_setCell _ _ _ _ fun e => hk e
  have hb3 : w3.heap[st]? = some (.cells #[.slice a2 (n + 1) c2] 69 (0, 0)) := by rw [hw3]; simp [World.setCell, Array.getElem?_modify, hb2]
  have hst3 : StAt B st w3 (.slice a2 (n + 1) c2) (ps ++ [p]) := by
    refine ⟨hb3, ?_⟩
    rw [← HL.out, List.length_append, ← HN.out]
    exact ownsRow_heap hr2 fun g hg => hset g fun e => hvst (by rw [hg, e])
  have ho3 : Only (st :: (Value.slice a n c).ownBlock.toList) w w3 := by
    refine ⟨by rw [hw3]; exact hg2.os, by rw [hw3]; exact hg2.tape, by rw [hw3]; exact hg2.output, by rw [hw3]; simp [World.setCell]; simp at hsz2; omega, fun k hk hA => ?_⟩
    simp only [List.mem_cons, not_or, Option.mem_toList] at hA
    rw [hset k hA.1, hg2.block k (by simp; omega) (fun e => hA.2 e.symm)]
    exact Below.heap_alloc _ _ _ (by omega)
  have e0 : (w2.setCell ⟨st, 0, none⟩ (.slice a2 (n + 1) c2)).cell? ⟨st, 0, none⟩ = some (.slice a2 (n + 1) c2) := by rw [← hw3, Lib.cell_of_heap hb3]; rfl
  have HS3 := hid hst3
  have HO3 := hid ho3
  have HW3 := hid hw3
  clear hr2 hg2 hat hb2 hw3 hset hb3 hst3 ho3
  go_wp2
  go_ret
  rw [← HW3.out]
  exact ⟨by simp, _, HS3.out, HO3.out⟩
end Go.Proofs.YtabhkoklcjhlpaaGreatDoor.Pz
/-
  value's store: got, Add, Face, Text, Make.
-/
namespace Go.Proofs.YtabhkoklcjhlpaaGreatDoor.Pz
open Go.RowKit
def gotAns (ps : List Nat) (h : Int) : Option Nat := if 0 ≤ h then ps[h.toNat]? else none
def gotTup (r : Option Nat) : Value := match r with
  | some p => .tuple #[.pointer (some ⟨p, 0, none⟩), .int .i64 0]
  | none => .tuple #[.pointer none, .int .i64 5]
theorem StAt.at {B st : Nat} {w : World} {v : Value} {ps : List Nat} (h : StAt B st w v ps) {i : Nat} (hi : i < ps.length) : ∃ g c, v = .slice (some ⟨g, 0, none⟩) ps.length c ∧ w.cell? ⟨g, i, none⟩ = some (.pointer (some ⟨ps[i], 0, none⟩)) := by
  rcases h.row.2 with ⟨_, h0⟩ | ⟨g, cap, cur, e, _⟩
  · omega
  · have hc := World.ownsRow.cells h.row (show v.ownBlock = some g by rw [e]; rfl) i (.pointer (some ⟨ps[i], 0, none⟩)) (by simp [ptrs, hi])
    rw [add_none, Nat.zero_add] at hc
    exact ⟨g, cap, e, hc⟩
set_option maxRecDepth 100000 in
theorem got_fn {B st : Nat} {w : World} {v : Value} {ps : List Nat} (h : StAt B st w v ps) (k : Int) :
    Calls Tryz.prog 43 #[.pointer (some ⟨st, 0, none⟩), .int .i64 k] w fun e w' => e = .returned (gotTup (gotAns ps k)) ∧ w' = w := by
  unfold gotAns
  by_cases h0 : 0 ≤ k
  · obtain ⟨i, rfl⟩ := Int.eq_ofNat_of_zero_le h0
    rw [if_pos h0, Int.toNat_natCast]
    by_cases hi : i < ps.length
    · rw [List.getElem?_eq_getElem hi]
      obtain ⟨g, c, rfl, hc⟩ := h.at hi
      obtain ⟨n, hn⟩ : ∃ n, n = ps.length := ⟨_, rfl⟩
      have c0 : w.cell? ⟨st, 0, none⟩ = some (.slice (some ⟨g, 0, none⟩) n c) := by rw [Lib.cell_of_heap h.blk, hn]; rfl
      generalize ps[i] = p at hc ⊢
      rw [← hn] at hi
      have hlt : ¬ ((i : Int) < 0) := by omega
      have hge : ¬ ((i : Int) ≥ (n : Int)) := by omega
      clear h hn
      unfold gotTup
      dsimp only
      go_enter Tryz.func43, Tryz.ntmps43
      go_wp2
      go_ret2
      exact ⟨rfl, rfl⟩
    · rw [List.getElem?_eq_none (by omega)]
      obtain ⟨a, c, rfl⟩ := h.shape
      obtain ⟨n, hn⟩ : ∃ n, n = ps.length := ⟨_, rfl⟩
      have c0 : w.cell? ⟨st, 0, none⟩ = some (.slice a n c) := by rw [Lib.cell_of_heap h.blk, hn]; rfl
      rw [← hn] at hi
      have hlt : ¬ ((i : Int) < 0) := by omega
      have hge : (i : Int) ≥ (n : Int) := by omega
      clear h hn
      unfold gotTup
      dsimp only
      go_enter Tryz.func43, Tryz.ntmps43
      go_wp2
      go_ret2
      exact ⟨rfl, rfl⟩
  · rw [if_neg h0]
    have hlt : k < 0 := by omega
    clear h
    unfold gotTup
    dsimp only
    go_enter Tryz.func43, Tryz.ntmps43
    have hun : undef = .tuple #[] := rfl
    go_wp2
    go_ret2
    exact ⟨rfl, rfl⟩
set_option maxRecDepth 100000 in
theorem storeAdd_fn {B st : Nat} {w : World} {v : Value} {ps : List Nat} (h : StAt B st w v ps) (t : Str) (hB : B ≤ w.heap.size) (hn : ps.length ≤ 1000000) :
    Calls Tryz.prog 11 #[.pointer (some ⟨st, 0, none⟩), .string ⟨t.toArray⟩] w fun e w' => e = .returned (.int .i64 (ps.length : Nat)) ∧ ∃ v' vb sb, StAt B st w' v' (ps ++ [vb]) ∧ ValAt vb sb w' .nilIface t true 1 .text ∧ w.heap.size ≤ vb ∧ w.heap.size ≤ sb ∧ Only (st :: v.ownBlock.toList) w w' := by
  have HN := hid (new_fn t w)
  have H := hid h
  clear h
  go_enter Tryz.func11, Tryz.ntmps11
  go_wp2_with fail
  (with_reducible refine HN.out.mono ?_); rintro e w1 ⟨vb, sb, rfl, h1, h2, hv, hb⟩
  have hs := hb.size
  have HS := hid (H.out.on hb)
  have HA := hid (add_fn HS.out vb (by omega) hn)
  have HV := hid hv
  have HB := hid hb
  clear hv hb
  go_wp2_with fail
  (with_reducible refine HA.out.mono ?_); rintro e w2 ⟨rfl, v', hst, ho⟩
  have hv2 : ValAt vb sb w2 .nilIface t true 1 .text := HV.out.other ho (by
      have := HS.out.ne HV.out.val (by decide) (by decide)
      simp only [List.mem_cons, Option.mem_toList, not_or]
      exact this) (by
      have := HS.out.ne HV.out.shr (by decide) (by decide)
      simp only [List.mem_cons, Option.mem_toList, not_or]
      exact this) (by
      intro k hk cur hc
      have := HS.out.ne hc (by decide) (by decide)
      simp only [List.mem_cons, Option.mem_toList] at hk
      rcases hk with rfl | hk
      · exact this.1 rfl
      · exact this.2 hk)
  have HST := hid hst
  have HV2 := hid hv2
  have HO := hid ((Only.of HB.out _).trans ho)
  clear hst hv2 ho
  go_wp2
  go_ret
  exact ⟨rfl, v', vb, sb, HST.out, HV2.out, h1, h2, HO.out⟩
set_option maxRecDepth 100000 in
theorem storeFace_fn {B st : Nat} {w : World} {v : Value} {ps : List Nat} (h : StAt B st w v ps) (k : Int) {vb sb : Nat} (hk : gotAns ps k = some vb) {fv : Value} {t : Str} {told : Bool} {cnt : Nat} {f : Fc} (hv : ValAt vb sb w fv t told cnt f) :
    Calls Tryz.prog 13 #[.pointer (some ⟨st, 0, none⟩), .int .i64 k] w fun e w' => e = .returned (.tuple #[.int .i64 f.n, .int .i64 0]) ∧ w' = w := by
  have hg := got_fn h k
  rw [hk] at hg
  have HG := hid hg
  have HF := hid (face_fn hv)
  clear h hv hg hk
  go_enter Tryz.func13, Tryz.ntmps13
  go_wp2_with fail
  (with_reducible refine HG.out.mono ?_); rintro e w1 ⟨rfl, rfl⟩
  unfold gotTup
  dsimp only
  go_wp2_with fail
  (with_reducible refine HF.out.mono ?_); rintro e w1 ⟨rfl, rfl⟩
  go_wp2
  go_ret2
  exact ⟨rfl, rfl⟩
set_option maxRecDepth 100000 in
theorem storeText_fn {B st : Nat} {w : World} {v : Value} {ps : List Nat} (h : StAt B st w v ps) (k : Int) {vb sb : Nat} (hk : gotAns ps k = some vb) {fv : Value} {t : Str} {told : Bool} {cnt : Nat} {f : Fc} (hv : ValAt vb sb w fv t told cnt f) (hml : ML w) :
    Calls Tryz.prog 14 #[.pointer (some ⟨st, 0, none⟩), .int .i64 k] w fun e w' => e = .returned (.tuple #[.string ⟨t.toArray⟩, .int .i64 0]) ∧ StAt B st w' v ps ∧ ValAt vb sb w' fv t true cnt f ∧ Only [vb, sb] w w' := by
  have hg := got_fn h k
  rw [hk] at hg
  have HG := hid hg
  have HF := hid (text_fn hv hml)
  have H := hid h
  have HV := hid hv
  clear h hv hg hk hml
  go_enter Tryz.func14, Tryz.ntmps14
  go_wp2_with fail
  (with_reducible refine HG.out.mono ?_); rintro e w1 ⟨rfl, rfl⟩
  unfold gotTup
  dsimp only
  go_wp2_with fail
  (with_reducible refine HF.out.mono ?_); rintro e w2 ⟨rfl, ho, hv2⟩
  have ho2 : Only [vb, sb] w1 w2 := ho.more (by simp)
  have HS2 := hid (H.out.value HV.out ho2)
  have HV2 := hid hv2
  have HO2 := hid ho2
  clear ho hv2 ho2
  go_wp2
  go_ret2
  exact ⟨rfl, HS2.out, HV2.out, HO2.out⟩
set_option maxRecDepth 100000 in
theorem storeMake_fn {B st : Nat} {w : World} {v lv : Value} {ps : List Nat} {l : List Str} (h : StAt B st w v ps) (hv : StrsAt w lv l) (hml : ML w) (hok : joinOk l) (hB : B ≤ w.heap.size) (hn : ps.length ≤ 1000000) :
    Calls Tryz.prog 15 #[.pointer (some ⟨st, 0, none⟩), lv] w fun e w' => e = .returned (.tuple #[.int .i64 (ps.length : Nat), .int .i64 0]) ∧ ∃ v' vb sb fv, StAt B st w' v' (ps ++ [vb]) ∧ ValAt vb sb w' fv (quotedL l) false 1 (.list l) ∧ w.heap.size ≤ vb ∧ w.heap.size ≤ sb ∧ Only (st :: v.ownBlock.toList) w w' := by
  have HN := hid (ofList_fn hv hml hok)
  have H := hid h
  obtain ⟨a, c, rfl, _⟩ := hv
  obtain ⟨n, hn0⟩ : ∃ n, n = l.length := ⟨_, rfl⟩
  rw [← hn0] at HN ⊢
  clear h hml hn0
  go_enter Tryz.func15, Tryz.ntmps15
  go_wp2_with fail
  (with_reducible refine HN.out.mono ?_); rintro e w1 ⟨vb, sb, fv, rfl, h1, h2, hv, hb⟩
  have hs := hb.size
  have HS := hid (H.out.on hb)
  have HA := hid (add_fn HS.out vb (by omega) hn)
  have HV := hid hv
  have HB := hid hb
  clear hv hb
  go_wp2_with fail
  (with_reducible refine HA.out.mono ?_); rintro e w2 ⟨rfl, v', hst, ho⟩
  have hv2 : ValAt vb sb w2 fv (quotedL l) false 1 (.list l) := HV.out.other ho (by
      have := HS.out.ne HV.out.val (by decide) (by decide)
      simp only [List.mem_cons, Option.mem_toList, not_or]
      exact this) (by
      have := HS.out.ne HV.out.shr (by decide) (by decide)
      simp only [List.mem_cons, Option.mem_toList, not_or]
      exact this) (by
      intro k hk cur hc
      have := HS.out.ne hc (by decide) (by decide)
      simp only [List.mem_cons, Option.mem_toList] at hk
      rcases hk with rfl | hk
      · exact this.1 rfl
      · exact this.2 hk)
  have HST := hid hst
  have HV2 := hid hv2
  have HO := hid ((Only.of HB.out _).trans ho)
  clear hst hv2 ho
  go_wp2
  go_ret2
  exact ⟨rfl, v', vb, sb, fv, HST.out, HV2.out, h1, h2, HO.out⟩
end Go.Proofs.YtabhkoklcjhlpaaGreatDoor.Pz
/-
  value's store: Ask, Element.
-/
namespace Go.Proofs.YtabhkoklcjhlpaaGreatDoor.Pz
open Go.RowKit
def askAll (n : Int) (f : Fc) (t : Str) : Int × Fc :=
  if n = 0 then (0, .text) else if n = 1 then (listAns f t).2 else if n = 2 then (numAns f t).2 else if n = 3 then (pairsAns f t).2 else (7, f)
set_option maxRecDepth 100000 in
set_option maxHeartbeats 1000000 in
theorem storeAsk_fn {B st : Nat} {w : World} {v : Value} {ps : List Nat} (h : StAt B st w v ps) (k : Int) {vb sb : Nat} (hk : gotAns ps k = some vb) {fv : Value} {t : Str} {told : Bool} {cnt : Nat} {f : Fc} (hv : ValAt vb sb w fv t told cnt f) (hml : ML w) (ht : t.length ≤ 100000) (hsm : f.small) (n : Int) :
    Calls Tryz.prog 12 #[.pointer (some ⟨st, 0, none⟩), .int .i64 k, .int .i64 n] w fun e w' => ∃ fv' told', e = .returned (.int .i64 (askAll n f t).1) ∧ StAt B st w' v ps ∧ ValAt vb sb w' fv' t told' cnt (askAll n f t).2 ∧ Only [vb, sb] w w' ∧ (told = true → told' = true) := by
  have hg := got_fn h k
  rw [hk] at hg
  have HG := hid hg
  have H := hid h
  have HV := hid hv
  clear h hg hk hv
  by_cases h0 : n = 0
  · subst h0
    have hgo := hid (show ∀ W, Below w.heap.size w W → Calls Tryz.prog 44 #[.pointer (some ⟨vb, 0, none⟩)] W (fun e w' => ∃ fv' told', e = .returned (.int .i64 (((0 : Int), Fc.text)).1) ∧ Only [vb, sb] W w' ∧ ValAt vb sb w' fv' t told' cnt (((0 : Int), Fc.text)).2 ∧ (told = true → told' = true)) from fun W hW => (drop_fn (HV.out.on hW) (hml.below hW)).mono fun e w' ⟨h1, h2, h3⟩ => ⟨_, true, h1, h2, h3, fun _ => rfl⟩)
    have hA : askAll 0 f t = ((0 : Int), Fc.text) := rfl
    rw [hA]
    clear hA hml ht hsm
    generalize ((0 : Int), Fc.text) = r at hgo ⊢
    obtain ⟨r1, r2⟩ := r
    have hC := hid hgo.out
    clear hgo
    go_enter Tryz.func12, Tryz.ntmps12
    go_wp2_with fail
    (with_reducible refine HG.out.mono ?_); rintro e w1 ⟨rfl, hw⟩
    subst hw
    have hb1 := hid (belowA w1 (.cells #[.func (.func 44) #[] #[], .func (.func 45) #[] #[], .func (.func 46) #[] #[], .func (.func 47) #[] #[]] 74))
    unfold gotTup
    dsimp only
    go_wp2_with fail
    (with_reducible refine (hC.out _ hb1.out).mono ?_); rintro e w2 ⟨fv', told', rfl, ho, hv, htt⟩
    have HS2 := hid ((H.out.on hb1.out).value (HV.out.on hb1.out) ho)
    have HV2 := hid hv
    have HO2 := hid ((Only.of hb1.out _).trans ho)
    have HT2 := hid htt
    clear ho hv htt
    go_wp2
    go_ret
    exact ⟨_, _, rfl, HS2.out, HV2.out, HO2.out, HT2.out⟩
  by_cases h1 : n = 1
  · subst h1
    have hgo := hid (show ∀ W, Below w.heap.size w W → Calls Tryz.prog 45 #[.pointer (some ⟨vb, 0, none⟩)] W (fun e w' => ∃ fv' told', e = .returned (.int .i64 ((listAns f t).2).1) ∧ Only [vb, sb] W w' ∧ ValAt vb sb w' fv' t told' cnt ((listAns f t).2).2 ∧ (told = true → told' = true)) from fun W hW => askList_fn (HV.out.on hW) (hml.below hW) ht hsm)
    have hA : askAll 1 f t = (listAns f t).2 := rfl
    rw [hA]
    clear hA hml ht hsm
    generalize (listAns f t).2 = r at hgo ⊢
    obtain ⟨r1, r2⟩ := r
    have hC := hid hgo.out
    clear hgo
    go_enter Tryz.func12, Tryz.ntmps12
    go_wp2_with fail
    (with_reducible refine HG.out.mono ?_); rintro e w1 ⟨rfl, hw⟩
    subst hw
    have hb1 := hid (belowA w1 (.cells #[.func (.func 44) #[] #[], .func (.func 45) #[] #[], .func (.func 46) #[] #[], .func (.func 47) #[] #[]] 74))
    unfold gotTup
    dsimp only
    go_wp2_with fail
    (with_reducible refine (hC.out _ hb1.out).mono ?_); rintro e w2 ⟨fv', told', rfl, ho, hv, htt⟩
    have HS2 := hid ((H.out.on hb1.out).value (HV.out.on hb1.out) ho)
    have HV2 := hid hv
    have HO2 := hid ((Only.of hb1.out _).trans ho)
    have HT2 := hid htt
    clear ho hv htt
    go_wp2
    go_ret
    exact ⟨_, _, rfl, HS2.out, HV2.out, HO2.out, HT2.out⟩
  by_cases h2 : n = 2
  · subst h2
    have hgo := hid (show ∀ W, Below w.heap.size w W → Calls Tryz.prog 46 #[.pointer (some ⟨vb, 0, none⟩)] W (fun e w' => ∃ fv' told', e = .returned (.int .i64 ((numAns f t).2).1) ∧ Only [vb, sb] W w' ∧ ValAt vb sb w' fv' t told' cnt ((numAns f t).2).2 ∧ (told = true → told' = true)) from fun W hW => askNumber_fn (HV.out.on hW) (hml.below hW) ht hsm)
    have hA : askAll 2 f t = (numAns f t).2 := rfl
    rw [hA]
    clear hA hml ht hsm
    generalize (numAns f t).2 = r at hgo ⊢
    obtain ⟨r1, r2⟩ := r
    have hC := hid hgo.out
    clear hgo
    go_enter Tryz.func12, Tryz.ntmps12
    go_wp2_with fail
    (with_reducible refine HG.out.mono ?_); rintro e w1 ⟨rfl, hw⟩
    subst hw
    have hb1 := hid (belowA w1 (.cells #[.func (.func 44) #[] #[], .func (.func 45) #[] #[], .func (.func 46) #[] #[], .func (.func 47) #[] #[]] 74))
    unfold gotTup
    dsimp only
    go_wp2_with fail
    (with_reducible refine (hC.out _ hb1.out).mono ?_); rintro e w2 ⟨fv', told', rfl, ho, hv, htt⟩
    have HS2 := hid ((H.out.on hb1.out).value (HV.out.on hb1.out) ho)
    have HV2 := hid hv
    have HO2 := hid ((Only.of hb1.out _).trans ho)
    have HT2 := hid htt
    clear ho hv htt
    go_wp2
    go_ret
    exact ⟨_, _, rfl, HS2.out, HV2.out, HO2.out, HT2.out⟩
  by_cases h3 : n = 3
  · subst h3
    have hgo := hid (show ∀ W, Below w.heap.size w W → Calls Tryz.prog 47 #[.pointer (some ⟨vb, 0, none⟩)] W (fun e w' => ∃ fv' told', e = .returned (.int .i64 ((pairsAns f t).2).1) ∧ Only [vb, sb] W w' ∧ ValAt vb sb w' fv' t told' cnt ((pairsAns f t).2).2 ∧ (told = true → told' = true)) from fun W hW => askPairs_fn (HV.out.on hW) (hml.below hW) ht hsm)
    have hA : askAll 3 f t = (pairsAns f t).2 := rfl
    rw [hA]
    clear hA hml ht hsm
    generalize (pairsAns f t).2 = r at hgo ⊢
    obtain ⟨r1, r2⟩ := r
    have hC := hid hgo.out
    clear hgo
    go_enter Tryz.func12, Tryz.ntmps12
    go_wp2_with fail
    (with_reducible refine HG.out.mono ?_); rintro e w1 ⟨rfl, hw⟩
    subst hw
    have hb1 := hid (belowA w1 (.cells #[.func (.func 44) #[] #[], .func (.func 45) #[] #[], .func (.func 46) #[] #[], .func (.func 47) #[] #[]] 74))
    unfold gotTup
    dsimp only
    go_wp2_with fail
    (with_reducible refine (hC.out _ hb1.out).mono ?_); rintro e w2 ⟨fv', told', rfl, ho, hv, htt⟩
    have HS2 := hid ((H.out.on hb1.out).value (HV.out.on hb1.out) ho)
    have HV2 := hid hv
    have HO2 := hid ((Only.of hb1.out _).trans ho)
    have HT2 := hid htt
    clear ho hv htt
    go_wp2
    go_ret
    exact ⟨_, _, rfl, HS2.out, HV2.out, HO2.out, HT2.out⟩
  have hA : askAll n f t = (7, f) := by
    unfold askAll
    rw [if_neg h0, if_neg h1, if_neg h2, if_neg h3]
  rw [hA]
  clear hA
  by_cases hneg : n < 0
  · have hun : undef = .tuple #[] := rfl
    go_enter Tryz.func12, Tryz.ntmps12
    go_wp2_with fail
    (with_reducible refine HG.out.mono ?_); rintro e w1 ⟨rfl, hw⟩
    subst hw
    have hb1 := hid (belowA w1 (.cells #[.func (.func 44) #[] #[], .func (.func 45) #[] #[], .func (.func 46) #[] #[], .func (.func 47) #[] #[]] 74))
    unfold gotTup
    dsimp only
    go_wp2
    go_ret
    exact ⟨_, _, rfl, H.out.on hb1.out, HV.out.on hb1.out, Only.of hb1.out _, id⟩
  · have hge : n ≥ 4 := by omega
    go_enter Tryz.func12, Tryz.ntmps12
    go_wp2_with fail
    (with_reducible refine HG.out.mono ?_); rintro e w1 ⟨rfl, hw⟩
    subst hw
    have hb1 := hid (belowA w1 (.cells #[.func (.func 44) #[] #[], .func (.func 45) #[] #[], .func (.func 46) #[] #[], .func (.func 47) #[] #[]] 74))
    unfold gotTup
    dsimp only
    go_wp2
    go_ret
    exact ⟨_, _, rfl, H.out.on hb1.out, HV.out.on hb1.out, Only.of hb1.out _, id⟩
end Go.Proofs.YtabhkoklcjhlpaaGreatDoor.Pz
/-
  value's store: Element.
-/
namespace Go.Proofs.YtabhkoklcjhlpaaGreatDoor.Pz
open Go.RowKit
def pickS (l : List Str) (i : Int) : Str × Int := match (if 0 ≤ i then l[i.toNat]? else none) with
  | some s => (s, 0)
  | none => ([], 7)
def elemAns (f : Fc) (t : Str) (i : Int) : Str × Int := if (listAns f t).2.1 = 0 then pickS (listAns f t).1 i else ([], (listAns f t).2.1)
set_option maxRecDepth 100000 in
set_option maxHeartbeats 1000000 in
theorem storeElement_fn {B st : Nat} {w : World} {v : Value} {ps : List Nat} (h : StAt B st w v ps) (k : Int) {vb sb : Nat} (hk : gotAns ps k = some vb) {fv : Value} {t : Str} {told : Bool} {cnt : Nat} {f : Fc} (hv : ValAt vb sb w fv t told cnt f) (hml : ML w) (ht : t.length ≤ 100000) (hsm : f.small) (i : Int) :
    Calls Tryz.prog 16 #[.pointer (some ⟨st, 0, none⟩), .int .i64 k, .int .i64 i] w fun e w' => ∃ fv' told', e = .returned (.tuple #[.string ⟨(elemAns f t i).1.toArray⟩, .int .i64 (elemAns f t i).2]) ∧ StAt B st w' v ps ∧ ValAt vb sb w' fv' t told' cnt (listAns f t).2.2 ∧ Only [vb, sb] w w' ∧ (told = true → told' = true) := by
  have hg := got_fn h k
  rw [hk] at hg
  have HG := hid hg
  have hL := hid (listV_fn hv hml ht hsm)
  have H := hid h
  have HV := hid hv
  unfold elemAns
  clear h hg hk hv hml ht hsm
  generalize listAns f t = r at hL ⊢
  obtain ⟨l, er, f'⟩ := r
  dsimp only
  have hC := hid hL.out
  clear hL
  dsimp only at hC
  by_cases he : er = 0
  · subst he
    rw [if_pos rfl]
    unfold pickS
    by_cases h0 : 0 ≤ i
    · obtain ⟨j, rfl⟩ := Int.eq_ofNat_of_zero_le h0
      rw [if_pos h0, Int.toNat_natCast]
      clear h0
      by_cases hj : j < l.length
      · rw [List.getElem?_eq_getElem hj]
        obtain ⟨s, hs⟩ : ∃ s, s = l[j] := ⟨_, rfl⟩
        rw [← hs]
        have HS := hid hs
        dsimp only
        clear hs
        go_enter Tryz.func16, Tryz.ntmps16
        go_wp2_with fail
        (with_reducible refine HG.out.mono ?_); rintro e w1 ⟨rfl, hw⟩
        subst hw
        unfold gotTup
        dsimp only
        go_wp2_with fail
        (with_reducible refine hC.out.mono ?_); rintro e w2 ⟨u, fv', told', rfl, hr, ho, hv2, htt⟩
        obtain ⟨a, c, rfl⟩ := hr.shape
        obtain ⟨g, rfl, _, hc⟩ := hr.at hj
        obtain ⟨n, hn⟩ : ∃ n, n = l.length := ⟨_, rfl⟩
        have hlt : ¬ ((j : Int) < 0) := by omega
        have hge : ¬ ((j : Int) ≥ (n : Int)) := by omega
        have hjn : j < n := by omega
        rw [← HS.out] at hc
        rw [← hn]
        have HS2 := hid (H.out.value HV.out ho)
        have HV2 := hid hv2
        have HO2 := hid ho
        have HT2 := hid htt
        clear hr ho hv2 htt hn
        go_wp2
        go_ret2
        exact ⟨_, _, rfl, HS2.out, HV2.out, HO2.out, HT2.out⟩
      · rw [List.getElem?_eq_none (by omega)]
        dsimp only
        go_enter Tryz.func16, Tryz.ntmps16
        go_wp2_with fail
        (with_reducible refine HG.out.mono ?_); rintro e w1 ⟨rfl, hw⟩
        subst hw
        unfold gotTup
        dsimp only
        go_wp2_with fail
        (with_reducible refine hC.out.mono ?_); rintro e w2 ⟨u, fv', told', rfl, hr, ho, hv2, htt⟩
        obtain ⟨a, c, rfl⟩ := hr.shape
        obtain ⟨n, hn⟩ : ∃ n, n = l.length := ⟨_, rfl⟩
        have hlt : ¬ ((j : Int) < 0) := by omega
        have hge : (j : Int) ≥ (n : Int) := by omega
        rw [← hn]
        have HS2 := hid (H.out.value HV.out ho)
        have HV2 := hid hv2
        have HO2 := hid ho
        have HT2 := hid htt
        clear hr ho hv2 htt hn hj
        go_wp2
        go_ret2
        exact ⟨_, _, rfl, HS2.out, HV2.out, HO2.out, HT2.out⟩
    · rw [if_neg h0]
      have hlt : i < 0 := by omega
      dsimp only
      go_enter Tryz.func16, Tryz.ntmps16
      go_wp2_with fail
      (with_reducible refine HG.out.mono ?_); rintro e w1 ⟨rfl, hw⟩
      subst hw
      unfold gotTup
      dsimp only
      go_wp2_with fail
      (with_reducible refine hC.out.mono ?_); rintro e w2 ⟨u, fv', told', rfl, hr, ho, hv2, htt⟩
      obtain ⟨a, c, rfl⟩ := hr.shape
      generalize l.length = n
      have HS2 := hid (H.out.value HV.out ho)
      have HV2 := hid hv2
      have HO2 := hid ho
      have HT2 := hid htt
      have hun : undef = .tuple #[] := rfl
      clear hr ho hv2 htt h0
      go_wp2
      go_ret2
      exact ⟨_, _, rfl, HS2.out, HV2.out, HO2.out, HT2.out⟩
  · rw [if_neg he]
    have hne : (er != 0) = true := by rw [bne_iff_ne]; exact he
    dsimp only
    go_enter Tryz.func16, Tryz.ntmps16
    go_wp2_with fail
    (with_reducible refine HG.out.mono ?_); rintro e w1 ⟨rfl, hw⟩
    subst hw
    unfold gotTup
    dsimp only
    go_wp2_with fail
    (with_reducible refine hC.out.mono ?_); rintro e w2 ⟨u, fv', told', rfl, hr, ho, hv2, htt⟩
    obtain ⟨a, c, rfl⟩ := hr.shape
    generalize l.length = n
    have HS2 := hid (H.out.value HV.out ho)
    have HV2 := hid hv2
    have HO2 := hid ho
    have HT2 := hid htt
    clear hr ho hv2 htt
    go_wp2
    go_ret2
    exact ⟨_, _, rfl, HS2.out, HV2.out, HO2.out, HT2.out⟩
end Go.Proofs.YtabhkoklcjhlpaaGreatDoor.Pz
