/-
  Part K12 of the proofs of this seat: contracts of functions and plain facts, merged from 3 texts.
-/
import Derived.Shelf.Strings.OnBuilder
import Derived.Ground.MpProg
import Derived.Shelf.Strings.Prefix
import Derived.Shelf.LaysM
import Derived.Test.YtihdndaibmgoiaaGreatDoorProg
import Derived.Deep.QuietTactic
import Derived.BigQuiet
import Derived.Test.YtihdndaibmgoiaaGreatDoorK0
import Derived.Test.YtihdndaibmgoiaaGreatDoorK1
import Derived.Test.YtihdndaibmgoiaaGreatDoorK2
import Derived.Test.YtihdndaibmgoiaaGreatDoorK3
import Derived.Test.YtihdndaibmgoiaaGreatDoorK4
import Derived.Test.YtihdndaibmgoiaaGreatDoorK5
import Derived.Test.YtihdndaibmgoiaaGreatDoorK6
import Derived.Test.YtihdndaibmgoiaaGreatDoorK7
import Derived.Test.YtihdndaibmgoiaaGreatDoorK8
import Derived.Test.YtihdndaibmgoiaaGreatDoorK9
/-
  Contracts of the library, laid at this program by the kit's shelf tools.
-/
namespace Go.Proofs.YtihdndaibmgoiaaGreatDoor.Pz
open Go.Shelf
def Tryz.lays158_ren : Go.Shelf.Ren := ⟨fun | 158 => 93 | 165 => 76 | 166 => 77 | 167 => 91 | 169 => 78 | 230 => 136 | 203 => 137 | 240 => 123 | 241 => 124 | 197 => 161 | 118 => 162 | 168 => 163 | 270 => 164 | 262 => 165 | 276 => 153 | 277 => 154 | 260 => 184 | 242 => 185 | 313 => 186 | 278 => 205 | 274 => 206 | 275 => 207 | n => n, fun | 9 => 9 | 4 => 4 | 3 => 3 | 5 => 5 | 72 => 88 | 0 => 0 | 76 => 92 | 75 => 91 | 107 => 158 | 70 => 86 | 20 => 20 | 37 => 46 | 127 => 140 | 21 => 21 | 105 => 173 | 164 => 169 | 162 => 191 | 203 => 189 | 119 => 153 | 46 => 98 | 139 => 156 | 138 => 155 | 51 => 97 | 160 => 210 | 208 => 230 | 206 => 228 | 80 => 94 | n => n, fun | 13 => 3 | 3 => 0 | 4 => 1 | n => n⟩
theorem Tryz.lays158 : Go.Proofs.Lays.n158 Tryz.prog Tryz.lays158_ren := {
  mixed := by kernel_rfl
  f118 := Tryz.func162.trans (congrArg some (by kernel_rfl))
  f158 := Tryz.func93.trans (congrArg some (by kernel_rfl))
  f165 := Tryz.func76.trans (congrArg some (by kernel_rfl))
  f166 := Tryz.func77.trans (congrArg some (by kernel_rfl))
  f167 := Tryz.func91.trans (congrArg some (by kernel_rfl))
  f168 := Tryz.func163.trans (congrArg some (by kernel_rfl))
  f169 := Tryz.func78.trans (congrArg some (by kernel_rfl))
  f197 := Tryz.func161.trans (congrArg some (by kernel_rfl))
  f203 := Tryz.func137.trans (congrArg some (by kernel_rfl))
  f230 := Tryz.func136.trans (congrArg some (by kernel_rfl))
  f240 := Tryz.func123.trans (congrArg some (by kernel_rfl))
  f241 := Tryz.func124.trans (congrArg some (by kernel_rfl))
  f242 := Tryz.func185.trans (congrArg some (by kernel_rfl))
  f260 := Tryz.func184.trans (congrArg some (by kernel_rfl))
  f262 := Tryz.func165.trans (congrArg some (by kernel_rfl))
  f270 := Tryz.func164.trans (congrArg some (by kernel_rfl))
  f274 := Tryz.func206.trans (congrArg some (by kernel_rfl))
  f275 := Tryz.func207.trans (congrArg some (by kernel_rfl))
  f276 := Tryz.func153.trans (congrArg some (by kernel_rfl))
  f277 := Tryz.func154.trans (congrArg some (by kernel_rfl))
  f278 := Tryz.func205.trans (congrArg some (by kernel_rfl))
  f313 := Tryz.func186.trans (congrArg some (by kernel_rfl))
  t0 := Tryz.underlying0
  a0 := Tryz.isAgg0
  z0 := Tryz.sizeOf0
  v0 := Tryz.zeroValue0
  t3 := Tryz.underlying3
  a3 := Tryz.isAgg3
  z3 := Tryz.sizeOf3
  v3 := Tryz.zeroValue3
  t4 := Tryz.underlying4
  a4 := Tryz.isAgg4
  z4 := Tryz.sizeOf4
  v4 := Tryz.zeroValue4
  t5 := Tryz.underlying5
  a5 := Tryz.isAgg5
  z5 := Tryz.sizeOf5
  v5 := Tryz.zeroValue5
  t9 := Tryz.underlying9
  a9 := Tryz.isAgg9
  z9 := Tryz.sizeOf9
  v9 := Tryz.zeroValue9
  t20 := Tryz.underlying20
  a20 := Tryz.isAgg20
  z20 := Tryz.sizeOf20
  v20 := Tryz.zeroValue20
  t21 := Tryz.underlying21
  a21 := Tryz.isAgg21
  z21 := Tryz.sizeOf21
  v21 := Tryz.zeroValue21
  t37 := Tryz.underlying46
  a37 := Tryz.isAgg46
  z37 := Tryz.sizeOf46
  v37 := Tryz.zeroValue46
  t46 := Tryz.underlying98
  a46 := Tryz.isAgg98
  z46 := Tryz.sizeOf98
  v46 := Tryz.zeroValue98
  t51 := Tryz.underlying97
  a51 := Tryz.isAgg97
  z51 := Tryz.sizeOf97
  v51 := Tryz.zeroValue97
  t70 := Tryz.underlying86
  a70 := Tryz.isAgg86
  z70 := Tryz.sizeOf86
  v70 := Tryz.zeroValue86
  t72 := Tryz.underlying88
  a72 := Tryz.isAgg88
  z72 := Tryz.sizeOf88
  v72 := Tryz.zeroValue88
  t75 := Tryz.underlying91
  a75 := Tryz.isAgg91
  z75 := Tryz.sizeOf91
  v75 := Tryz.zeroValue91
  t76 := Tryz.underlying92
  a76 := Tryz.isAgg92
  z76 := Tryz.sizeOf92
  v76 := Tryz.zeroValue92
  t105 := Tryz.underlying173
  a105 := Tryz.isAgg173
  z105 := Tryz.sizeOf173
  v105 := Tryz.zeroValue173
  t107 := Tryz.underlying158
  a107 := Tryz.isAgg158
  z107 := Tryz.sizeOf158
  v107 := Tryz.zeroValue158
  t119 := Tryz.underlying153
  a119 := Tryz.isAgg153
  z119 := Tryz.sizeOf153
  t127 := Tryz.underlying140
  a127 := Tryz.isAgg140
  z127 := Tryz.sizeOf140
  v127 := Tryz.zeroValue140
  t138 := Tryz.underlying155
  a138 := Tryz.isAgg155
  z138 := Tryz.sizeOf155
  v138 := Tryz.zeroValue155
  t139 := Tryz.underlying156
  a139 := Tryz.isAgg156
  z139 := Tryz.sizeOf156
  v139 := Tryz.zeroValue156
  t160 := Tryz.underlying210
  a160 := Tryz.isAgg210
  z160 := Tryz.sizeOf210
  v160 := Tryz.zeroValue210
  t162 := Tryz.underlying191
  a162 := Tryz.isAgg191
  z162 := Tryz.sizeOf191
  v162 := Tryz.zeroValue191
  t164 := Tryz.underlying169
  a164 := Tryz.isAgg169
  z164 := Tryz.sizeOf169
  v164 := Tryz.zeroValue169
  t203 := Tryz.underlying189
  a203 := Tryz.isAgg189
  z203 := Tryz.sizeOf189
  v203 := Tryz.zeroValue189
  t206 := Tryz.underlying228
  a206 := Tryz.isAgg228
  z206 := Tryz.sizeOf228
  v206 := Tryz.zeroValue228
  t208 := Tryz.underlying230
  a208 := Tryz.isAgg230
  z208 := Tryz.sizeOf230
  v208 := Tryz.zeroValue230
  g3 := by kernel_rfl
  g4 := by kernel_rfl
  g13 := by kernel_rfl }
theorem Tryz.Builder_Extra_158 : Builder.Extra Tryz.prog Tryz.lays158_ren := {
  sizeBuilder := by kernel_rfl
  liesBuilder := by kernel_rfl
  t5 := Tryz.underlying5
  a5 := Tryz.isAgg5
  z5 := Tryz.sizeOf5
  v5 := Tryz.zeroValue5
  infoByte := by kernel_rfl
  cellsByte := by kernel_rfl
  sizeByte := by kernel_rfl
  neB5 := by decide }
open Go.RowKit in
theorem Tryz.strings_ToUpper_ascii (s : ByteArray) (w : World) (hs : s.size ≤ 140737488355328) (hascii : ∀ (j : Nat) (b : UInt8), s.data.toList[j]? = some b → b.toNat < 128) :
    Calls Tryz.prog 93 #[.string s] w fun e w' => e = .returned (.string ⟨(Lib.toUpperA s.data.toList).toArray⟩) ∧ Below w.heap.size w w' := Any.strings_ToUpper_ascii Tryz.lays158 Tryz.Builder_Extra_158 s w hs hascii
def Tryz.lays102_ren : Go.Shelf.Ren := ⟨fun | 102 => 96 | 209 => 138 | 207 => 166 | n => n, fun | 9 => 9 | 4 => 4 | 3 => 3 | n => n, fun | n => n⟩
theorem Tryz.lays102 : Go.Proofs.Lays.n102 Tryz.prog Tryz.lays102_ren := {
  mixed := by kernel_rfl
  f102 := Tryz.func96.trans (congrArg some (by kernel_rfl))
  f207 := Tryz.func166.trans (congrArg some (by kernel_rfl))
  f209 := Tryz.func138.trans (congrArg some (by kernel_rfl))
  t3 := Tryz.underlying3
  a3 := Tryz.isAgg3
  z3 := Tryz.sizeOf3
  v3 := Tryz.zeroValue3
  t4 := Tryz.underlying4
  a4 := Tryz.isAgg4
  z4 := Tryz.sizeOf4
  v4 := Tryz.zeroValue4
  t9 := Tryz.underlying9
  a9 := Tryz.isAgg9
  z9 := Tryz.sizeOf9
  v9 := Tryz.zeroValue9 }
open Go.RowKit Go.Lib in
theorem Tryz.strings_TrimSuffix (s p : ByteArray) (w : World) (hs : s.size ≤ 9223372036854775807) :
    Calls Tryz.prog 96 #[.string s, .string p] w fun e w' => e = .returned (.string ⟨(Lib.trimSuffix s.data.toList p.data.toList).toArray⟩) ∧ w' = w := Any.strings_TrimSuffix Tryz.lays102 s p w hs
end Go.Proofs.YtihdndaibmgoiaaGreatDoor.Pz
/-
  strings.Builder's Write; binary: own, Percent, Unhex, Unpercent.
-/
namespace Go.Proofs.YtihdndaibmgoiaaGreatDoor.Pz
open Go.RowKit
set_option maxRecDepth 100000 in
set_option maxHeartbeats 1000000 in
theorem copyCheck2_fn {w : World} {b : Nat} {l : Str} (h : Bld w b l) :
    Calls Tryz.prog 123 #[.pointer (some ⟨b, 0, none⟩)] w fun e w' => e = .returned (.tuple #[]) ∧ Lib.BuilderAtF 88 5 b b (.pointer (some ⟨b, 0, none⟩)) (Lib.byteCells l) w' ∧ Kept b w w' ∧ ∀ k, k ≠ b → w'.heap[k]? = w.heap[k]? := by
  obtain ⟨j, hj, hjs⟩ := Option.map_eq_some_iff.1 Tryz.infoB
  rcases h with h | h
  · have h0 := h.cell0
    have hsh := h.shape
    have hfz := h.frozen0
    have H := hid h
    clear h
    go_enter Tryz.func123, Tryz.ntmps123
    go_wp2
    rw [Lib.run_to_unsafe w ⟨b, 0, none⟩ Tryz.underlying86 Tryz.underlying169 hj (by rw [hjs]; decide) hsh (Nat.zero_lt_succ 1)]
    simp only [Result.andThen]
    rw [Oper.upon_value]
    go_wp2
    rw [run_callFunc_extern Tryz.func153 (by kernel_rfl) (by kernel_rfl) (by kernel_rfl) (e := Extern.AbiNoEscape.same) (by kernel_rfl)]
    rw [Lib.run_noEscape]
    simp only [Result.andThen]
    rw [Oper.upon_value]
    go_wp2
    rw [Lib.run_from_unsafe w ⟨b, 0, none⟩ Tryz.underlying169 Tryz.underlying86 hj hsh Tryz.liesB]
    simp only [Result.andThen]
    rw [Oper.upon_value]
    go_wp2
    go_end0
    exact ⟨rfl, H.out.used _, ⟨(Below.refl b w).setCell (p := ⟨b, 0, none⟩) (Nat.le_refl _) _, (Lib.OthersKept.refl _ _ w).setCell ⟨b, 0, none⟩ rfl _⟩, fun k hk => Below.heap_setCell _ _ _ _ hk⟩
  · have h0 := h.cell0
    have H := hid h
    clear h
    go_enter Tryz.func123, Tryz.ntmps123
    go_wp2
    rw [Lib.run_neq_ptr_same w _ Tryz.underlying86 hj]
    go_wp2
    go_end0
    exact ⟨rfl, H.out, Kept.refl _ _, fun _ _ => rfl⟩
set_option maxRecDepth 100000 in
set_option maxHeartbeats 2000000 in
theorem wbytes_fn {w : World} {b g n cap : Nat} {l : Str} (h : Bld w b l) (x : Str) (hn : n = x.length) (_ : g < w.heap.size) (hgb : g ≠ b) (hx : ∀ j (hj : j < x.length), w.cell? ⟨g, j, none⟩ = some (.int .u8 (x[j].toNat : Nat))) (hl : l.length + x.length ≤ 1000000000) :
    Calls Tryz.prog 98 #[.pointer (some ⟨b, 0, none⟩), .slice (some ⟨g, 0, none⟩) n cap] w fun e w' => e = .returned (.tuple #[.int .i64 (n : Nat), .nilIface]) ∧ Bld w' b (l ++ x) ∧ Kept b w w' := by
  obtain ⟨i0, hi, hz0, hz1, hz2⟩ := info_parts Tryz.info5
  have hc := hid (copyCheck2_fn h)
  have hwb := h.lt
  have HN := hid hn
  have HX := hid hx
  clear h hx hn
  go_enter Tryz.func98, Tryz.ntmps98
  go_wp2_with fail
  (with_reducible refine hc.out.mono ?_)
  rintro e w1 ⟨rfl, ⟨hB, v, hbk, hown, hne⟩, ⟨hb1, hk1⟩, hoth⟩
  rw [Lib.byteCells_length] at hown
  have c0 : w1.cell? ⟨b, 0, none⟩ = some (.pointer (some ⟨b, 0, none⟩)) := by rw [Lib.cell_of_heap hbk]; rfl
  have c1 : w1.cell? ⟨b, 1, none⟩ = some v := by rw [Lib.cell_of_heap hbk]; rfl
  have HXC : ∀ j u, (Lib.byteCells x)[j]? = some u → w1.cell? ((⟨g, 0, none⟩ : Addr).add j) = some u := by
    intro j u hj
    unfold Lib.byteCells at hj
    rw [List.getElem?_map] at hj
    cases hxj : x[j]? with
    | none => rw [hxj] at hj; cases hj
    | some z =>
      rw [hxj] at hj
      have hj := Option.some.inj hj
      subst hj
      obtain ⟨hjl, hz⟩ := List.getElem?_eq_some_iff.1 hxj
      have h9 := HX.out j hjl
      rw [hz] at h9
      rw [add_none, Nat.zero_add]
      unfold World.cell? at h9 ⊢
      rw [hoth g hgb]
      exact h9
  have HXH := hid HXC
  have HOTH := hid hoth
  clear HXC hoth
  go_wp2_with (at_builtin; refine wpList_append_ownF _ rfl _ _ 46 rfl b 5 i0 (.int .u8 0) 1 1 Tryz.underlying46 hi hz0 hz1 hz2 rfl (by decide) _ _ _ rfl hown ⟨g, 0, none⟩ n cap (Lib.byteCells x) rfl ?c0 HXH.out (byteCells_one x) ?c3 ?c4 ?c5 ?_)
  case c0 => rw [Lib.byteCells_length, HN.out, Nat.mul_one]
  case c3 => have := HN.out; unfold maxLen; omega
  case c4 => have := HN.out; omega
  case c5 => have := hb1.size; omega
  intro v' w2 hown' hgrow _
  have hlt : b < w1.heap.size := by have := hb1.size; omega
  have hb2 : w2.heap[b]? = some (.cells #[.pointer (some ⟨b, 0, none⟩), v] 88 (0, 0)) := by
    rw [hgrow.block b hlt (fun e => hne e.symm)]
    exact hbk
  have d0 : w2.cell? ⟨b, 0, none⟩ = some (.pointer (some ⟨b, 0, none⟩)) := by rw [Lib.cell_of_heap hb2]; rfl
  have d1 : w2.cell? ⟨b, 1, none⟩ = some v := by rw [Lib.cell_of_heap hb2]; rfl
  have f1 : w2.frozen? ⟨b, 1, none⟩ = false := Lib.frozen_of_heap hb2 1
  obtain ⟨ao, n', cap', rfl⟩ : ∃ ao n' cap', v' = .slice ao n' cap' := by
    rcases hown'.2 with ⟨hv, _⟩ | ⟨g, cap, cur, fz, hv, _⟩
    · exact ⟨_, _, _, hv⟩
    · exact ⟨_, _, _, hv⟩
  go_wp2
  go_ret2
  refine ⟨rfl, ?_, ?_, (hk1.grown hgrow (Lib.ownsRowF_kind hown)).setCell ⟨b, 1, none⟩ rfl _⟩
  · refine .inr ?_
    rw [Lib.byteCells_append]
    refine Lib.BuilderAtF.put (T := 88) (e := 5) hB hb2 (bs' := Lib.byteCells l ++ Lib.byteCells x) ?_ (by decide)
    rw [List.length_append, Lib.byteCells_length, Lib.byteCells_length, ← HN.out]
    exact hown'
  · exact (hb1.grown hgrow (by have := hb1.size; omega) (fun k hk => (hown.lt k hk).1)).setCell (p := ⟨b, 1, none⟩) hB _
theorem ofNat_lt2 {n : Nat} (h : n < 256) : (UInt8.ofNat n).toNat = n := by
  rw [UInt8.toNat_ofNat']
  exact Nat.mod_eq_of_lt h
def ownR (d : Nat) : Bool := d == 45 || d == 46 || d == 95 || d == 126
theorem ownP_d (c : UInt8) : ownP c = ((decide (48 ≤ c.toNat) && decide (c.toNat ≤ 57)) || (decide (97 ≤ c.toNat) && decide (c.toNat ≤ 122)) || (decide (65 ≤ c.toNat) && decide (c.toNat ≤ 90)) || ownR c.toNat) := by
  have h : ∀ n : Nat, n < 256 → (c == UInt8.ofNat n) = (c.toNat == n) := fun n hn => by
    by_cases h : c = UInt8.ofNat n
    · subst h
      rw [ofNat_lt2 hn, beq_self_eq_true, beq_self_eq_true]
    · have : c.toNat ≠ n := fun e => h (by rw [← e, UInt8.ofNat_toNat])
      rw [beq_eq_false_iff_ne.2 h, beq_eq_false_iff_ne.2 this]
  unfold ownP ownR
  rw [show (45 : UInt8) = UInt8.ofNat 45 from rfl, show (46 : UInt8) = UInt8.ofNat 46 from rfl, show (95 : UInt8) = UInt8.ofNat 95 from rfl, show (126 : UInt8) = UInt8.ofNat 126 from rfl, h 45 (by decide), h 46 (by decide), h 95 (by decide), h 126 (by decide)]
  simp only [Bool.or_assoc]
set_option maxHeartbeats 2000000 in
theorem own_fn (c : UInt8) (w : World) : Calls Tryz.prog 92 #[.int .u8 (c.toNat : Nat)] w fun e w' => e = .returned (.bool (ownP c)) ∧ w' = w := by
  have hf : ∀ w, Calls Tryz.prog 97 #[.string ⟨#[45, 46, 95, 126]⟩, .int .u8 (c.toNat : Nat)] w fun e w' => e = .returned (.int .i64 (Lib.indexByte [45, 46, 95, 126] c)) ∧ w' = w := fun w => by
    have h := Tryz.strings_IndexByte ⟨#[45, 46, 95, 126]⟩ (c.toNat : Int) w
    rw [show (c.toNat : Int).toNat.toUInt8 = c by simp] at h
    exact h
  have hb : decide ((0 : Int) ≤ Lib.indexByte [45, 46, 95, 126] c) = ownR c.toNat := by
    have h : (List.range 256).all (fun n => decide ((0 : Int) ≤ Lib.indexByte [45, 46, 95, 126] (UInt8.ofNat n)) == ownR n) = true := by kernel_rfl
    have h2 := List.all_eq_true.1 h c.toNat (List.mem_range.2 c.toNat_lt)
    simpa using h2
  have ho := ownP_d c
  obtain ⟨R, hR⟩ : ∃ R, R = ownP c := ⟨_, rfl⟩
  rw [← hR] at ho ⊢
  generalize Lib.indexByte [45, 46, 95, 126] c = m at *
  obtain ⟨Z, hZ⟩ : ∃ Z, Z = ownR c.toNat := ⟨_, rfl⟩
  rw [← hZ] at hb ho
  have HF := hid hf
  have HO := hid ho
  have HB := hid hb
  have hcl := c.toNat_lt
  clear hf hR hZ ho hb
  generalize c.toNat = d at *
  by_cases h1 : 48 ≤ d ∧ d ≤ 57
  · obtain ⟨a1, a2⟩ := h1
    have HR := hid (show R = true by rw [HO.out]; simp [a1, a2])
    go_enter Tryz.func92, Tryz.ntmps92
    go_wp2
    go_ret
    exact ⟨by rw [HR.out]; simp, rfl⟩
  by_cases h2 : 97 ≤ d ∧ d ≤ 122
  · obtain ⟨a1, a2⟩ := h2
    have HR := hid (show R = true by rw [HO.out]; simp [a1, a2])
    have b1 : (48 : Int) ≤ (d : Int) := by omega
    have b2 : ¬ ((d : Int) ≤ 57) := by omega
    have b3 : (97 : Int) ≤ (d : Int) := by omega
    have b4 : (d : Int) ≤ 122 := by omega
    clear a1 a2 h1
    go_enter Tryz.func92, Tryz.ntmps92
    go_wp2
    go_ret
    exact ⟨by rw [HR.out]; simp, rfl⟩
  by_cases h3 : 65 ≤ d ∧ d ≤ 90
  · obtain ⟨a1, a2⟩ := h3
    have HR := hid (show R = true by rw [HO.out]; simp [a1, a2])
    have b1 : (48 : Int) ≤ (d : Int) := by omega
    have b2 : ¬ ((d : Int) ≤ 57) := by omega
    have b3 : ¬ ((97 : Int) ≤ (d : Int)) := by omega
    have b4 : (65 : Int) ≤ (d : Int) := by omega
    have b5 : (d : Int) ≤ 90 := by omega
    clear a1 a2 h1 h2
    go_enter Tryz.func92, Tryz.ntmps92
    go_wp2
    go_ret
    exact ⟨by rw [HR.out]; simp, rfl⟩
  have HR := hid (show R = decide ((0 : Int) ≤ m) by
    rw [HO.out, HB.out]
    have e1 : (decide (48 ≤ d) && decide (d ≤ 57)) = false := by simp only [Bool.and_eq_false_iff, decide_eq_false_iff_not]; omega
    have e2 : (decide (97 ≤ d) && decide (d ≤ 122)) = false := by simp only [Bool.and_eq_false_iff, decide_eq_false_iff_not]; omega
    have e3 : (decide (65 ≤ d) && decide (d ≤ 90)) = false := by simp only [Bool.and_eq_false_iff, decide_eq_false_iff_not]; omega
    rw [e1, e2, e3]
    rfl)
  rcases (show d < 48 ∨ (57 < d ∧ d < 65) ∨ (90 < d ∧ d < 97) ∨ 122 < d by omega) with h | ⟨h, h'⟩ | ⟨h, h'⟩ | h
  · have b0 : ¬ ((48 : Int) ≤ (d : Int)) := by omega
    have b1 : ¬ ((97 : Int) ≤ (d : Int)) := by omega
    have b2 : ¬ ((65 : Int) ≤ (d : Int)) := by omega
    clear h1 h2 h3 h
    go_enter Tryz.func92, Tryz.ntmps92
    go_wp2_with (go_at_call 97; refine (HF.out _).mono ?_; rintro e w1 ⟨rfl, rfl⟩)
    go_ret
    exact ⟨by rw [HR.out]; rfl, rfl⟩
  · have b0 : (48 : Int) ≤ (d : Int) := by omega
    have b1 : ¬ ((d : Int) ≤ 57) := by omega
    have b2 : ¬ ((97 : Int) ≤ (d : Int)) := by omega
    have b3 : ¬ ((65 : Int) ≤ (d : Int)) := by omega
    clear h1 h2 h3 h
    go_enter Tryz.func92, Tryz.ntmps92
    go_wp2_with (go_at_call 97; refine (HF.out _).mono ?_; rintro e w1 ⟨rfl, rfl⟩)
    go_ret
    exact ⟨by rw [HR.out]; rfl, rfl⟩
  · have b0 : (48 : Int) ≤ (d : Int) := by omega
    have b1 : ¬ ((d : Int) ≤ 57) := by omega
    have b2 : ¬ ((97 : Int) ≤ (d : Int)) := by omega
    have b3 : (65 : Int) ≤ (d : Int) := by omega
    have b4 : ¬ ((d : Int) ≤ 90) := by omega
    clear h1 h2 h3 h
    go_enter Tryz.func92, Tryz.ntmps92
    go_wp2_with (go_at_call 97; refine (HF.out _).mono ?_; rintro e w1 ⟨rfl, rfl⟩)
    go_ret
    exact ⟨by rw [HR.out]; rfl, rfl⟩
  · have b0 : (48 : Int) ≤ (d : Int) := by omega
    have b1 : ¬ ((d : Int) ≤ 57) := by omega
    have b2 : (97 : Int) ≤ (d : Int) := by omega
    have b3 : ¬ ((d : Int) ≤ 122) := by omega
    have b4 : (65 : Int) ≤ (d : Int) := by omega
    have b5 : ¬ ((d : Int) ≤ 90) := by omega
    clear h1 h2 h3 h
    go_enter Tryz.func92, Tryz.ntmps92
    go_wp2_with (go_at_call 97; refine (HF.out _).mono ?_; rintro e w1 ⟨rfl, rfl⟩)
    go_ret
    exact ⟨by rw [HR.out]; rfl, rfl⟩
theorem upper_hex : ∀ n, n < 16 → Lib.upperB (hexD n) = hexU n := by decide
theorem hexD_ascii : ∀ n, n < 16 → (hexD n).toNat < 128 := by decide
theorem upper_fn (c : UInt8) (w : World) : Calls Tryz.prog 93 #[.string ⟨(hexE [c]).toArray⟩] w fun e w' => e = .returned (.string ⟨#[hexU (c.toNat / 16), hexU (c.toNat % 16)]⟩) ∧ Below w.heap.size w w' := by
  have hc := c.toNat_lt
  have h := Tryz.strings_ToUpper_ascii ⟨(hexE [c]).toArray⟩ w (by rw [Lib.size_mk, hexE_len]; show 2 * 1 ≤ 140737488355328; decide) (fun j b hj => by
    have hj : (hexE [c])[j]? = some b := hj
    rw [hexE, hexE] at hj
    match j, hj with
    | 0, hj => simp at hj; rw [← hj]; exact hexD_ascii _ (by omega)
    | 1, hj => simp at hj; rw [← hj]; exact hexD_ascii _ (by omega))
  have e : Lib.toUpperA (⟨(hexE [c]).toArray⟩ : ByteArray).data.toList = [hexU (c.toNat / 16), hexU (c.toNat % 16)] := by
    show (hexE [c]).map Lib.upperB = _
    rw [hexE, hexE, List.map_cons, List.map_cons, upper_hex _ (by omega), upper_hex _ (by omega)]
    rfl
  rw [e] at h
  exact h
set_option maxRecDepth 100000 in
set_option maxHeartbeats 4000000 in
theorem percent_fn (s : Str) (hs : s.length ≤ 1000000) (w : World) : Calls Tryz.prog 42 #[.string ⟨s.toArray⟩] w fun e w' => e = .returned (.string ⟨(percE s).toArray⟩) ∧ Below w.heap.size w w' := by
  have hsz : (⟨s.toArray⟩ : ByteArray).size = s.length := Lib.size_mk _
  obtain ⟨R, hR⟩ : ∃ R, R = percE s := ⟨_, rfl⟩
  rw [← hR]
  have HR := hid hR
  clear hR
  have HB0 := hid (Bld.new w)
  have HL0 := hid (belowA w (.cells #[.pointer none, .slice none 0 0] 88))
  go_enter Tryz.func42, Tryz.ntmps42
  go_wp2_with fail
  go_loopg [7] s.length (fun k iv wr => ∃ (i : Nat) (l out : Str), iv = .int .i64 (i : Nat) ∧ At s l i ∧ R = out ++ percE l ∧ out.length ≤ 3 * i ∧ Bld wr w.heap.size out ∧ Below w.heap.size w wr ∧ k = l.length)
  case atStart => exact ⟨0, s, [], rfl, At.start s, HR.out, by simp, HB0.out, HL0.out, rfl⟩
  case round =>
    obtain ⟨i, l, out, rfl, ha, hr, ho, hb, hbl, rfl⟩ := hrel
    have hlen := ha.len
    have HA := hid ha
    have HRR := hid hr
    have HB := hid hb
    have HBL := hid hbl
    clear ha hr hb hbl
    cases l with
    | nil =>
      have hie : ¬ (i : Int) < (s.length : Int) := by simp at hlen; omega
      have hRo : R = out := by rw [HRR.out]; exact List.append_nil _
      subst hRo
      have HST := hid (str_fn HB.out)
      go_wp2_with (go_at_call 78; refine HST.out.mono ?_; rintro e w5 ⟨rfl, hb5, hk5⟩; have HK5 := hid hk5; clear hb5 hk5)
      go_ret
      exact ⟨rfl, HBL.out.trans HK5.out.1⟩
    | cons c t =>
      have hlt := HA.out.lt
      have hib := HA.out.byte
      have hii : (i : Int) < (s.length : Int) := by omega
      have hn := c.toNat_lt
      have HOW := hid (fun u => own_fn c u)
      cases hop : ownP c with
      | true =>
        have HRN := hid (show R = (out ++ [c]) ++ percE t by rw [HRR.out, percE, if_pos hop]; simp)
        rw [hop] at HOW
        clear hop
        go_wp2_with (first | (go_at_call 92; refine (HOW.out _).mono ?_; rintro e wr ⟨rfl, rfl⟩) | (go_at_call 91; refine (wbyte_fn HB.out c (by omega)).mono ?_; rintro e w5 ⟨rfl, hb5, hk5⟩; have HB5 := hid hb5; have HK5 := hid hk5; clear hb5 hk5))
        go_roundg t.length
        case measure => simp
        case rel => exact ⟨i + 1, t, out ++ [c], by go_num, HA.out.tail, HRN.out, by simp; omega, HB5.out, HBL.out.trans HK5.out.1, rfl⟩
      | false =>
        have HRN := hid (show R = (out ++ [37] ++ [hexU (c.toNat / 16), hexU (c.toNat % 16)]) ++ percE t by rw [HRR.out, percE, if_neg (by rw [hop]; decide)]; simp)
        rw [hop] at HOW
        have hext : (⟨s.toArray⟩ : ByteArray).extract i (i + 1) = ⟨#[c]⟩ := At.text (x := [c]) HA.out
        have HHX := hid (fun u => hex_fn [c] (by decide : (1 : Nat) ≤ 1000000) u)
        have HUP := hid (fun u => upper_fn c u)
        have hob : out.length ≤ 3000000 := by omega
        have hi0 : IntKind.i64.wrap ((i : Int) + 1) = (i : Int) + 1 := IntWalk.i64_in _ (by omega)
        have hi1 : ((i : Int) + 1).toNat = i + 1 := by omega
        have hi2 : (i : Int) ≤ (i : Int) + 1 := by omega
        have hi3 : (i : Int) + 1 ≤ (s.length : Int) := by omega
        clear hop
        go_wp2_with (first | (go_at_call 92; refine (HOW.out _).mono ?_; rintro e wr ⟨rfl, rfl⟩) | (go_at_call 91; refine (wbyte_fn HB.out 37 (by omega)).mono ?_; rintro e w5 ⟨rfl, hb5, hk5⟩; have HB5 := hid hb5; have HK5 := hid hk5; clear hb5 hk5) | (go_at_call 40; (with_reducible refine (HHX.out _).mono ?_); rintro e w6 ⟨rfl, hb6⟩; have HB6 := hid hb6; clear hb6) | (go_at_call 93; (with_reducible refine (HUP.out _).mono ?_); rintro e w7 ⟨rfl, hb7⟩; have HB7 := hid (HB6.out.trans (hb7.mono HB6.out.size)); clear hb7) | (go_at_call 77; refine (wstr_fn (HB5.out.of (w' := w7) fun k _ hk => HB7.out.block k hk) [hexU (c.toNat / 16), hexU (c.toNat % 16)] (by rw [List.length_append]; simp only [List.length_cons, List.length_nil]; omega)).mono ?_; rintro e w8 ⟨rfl, hb8, hk8⟩; have HB8 := hid hb8; have HK8 := hid hk8; clear hb8 hk8))
        go_roundg t.length
        case measure => simp
        case rel => exact ⟨i + 1, t, _, by go_num, HA.out.tail, HRN.out, by simp only [List.length_append, List.length_cons, List.length_nil]; omega, HB8.out, HBL.out.trans (HK5.out.1.trans ((HB7.out.mono (Nat.le_trans HBL.out.size HK5.out.1.size)).trans HK8.out.1)), rfl⟩
def okOr : Option Str → Str × Int
  | none => ([], 2)
  | some t => (t, 0)
def unhxRes (s : Str) : Str × Int := okOr (unhexE s)
theorem unhexE_odd : ∀ (n : Nat) (s : Str), s.length = 2 * n + 1 → unhexE s = none
  | 0, [_], _ => rfl
  | n + 1, a :: b :: t, h => by
    rw [unhexE]
    split
    · rfl
    · rw [unhexE_odd n t (by simp only [List.length_cons] at h; omega)]
      rfl
  | 0, [], h => absurd h (by simp)
  | 0, a :: b :: t, h => absurd h (by simp)
  | n + 1, [], h => absurd h (by simp)
  | n + 1, [_], h => absurd h (by simp)
set_option maxRecDepth 100000 in
set_option maxHeartbeats 4000000 in
theorem unhex_fn (s : Str) (hs : s.length ≤ 1000000) (w : World) : Calls Tryz.prog 46 #[.string ⟨s.toArray⟩] w fun e w' => e = .returned (.tuple #[.string ⟨(unhxRes s).1.toArray⟩, .int .i64 (unhxRes s).2]) ∧ Below w.heap.size w w' := by
  have hsz : (⟨s.toArray⟩ : ByteArray).size = s.length := Lib.size_mk _
  have hmod : (s.length : Int).tmod 2 = (s.length : Int) % 2 := Int.tmod_eq_emod_of_nonneg (by omega)
  by_cases hodd : s.length % 2 = 1
  · have hI : (s.length : Int) % 2 = 1 := by omega
    have HRS := hid (show unhxRes s = ([], 2) by unfold unhxRes; rw [unhexE_odd (s.length / 2) s (by omega)]; rfl)
    clear hodd
    go_enter Tryz.func46, Tryz.ntmps46
    go_wp2
    go_ret2
    exact ⟨by rw [HRS.out]; rfl, Below.refl _ _⟩
  have hI : (s.length : Int) % 2 = 0 := by omega
  obtain ⟨P, hP⟩ : ∃ P, P = unhexE s := ⟨_, rfl⟩
  have HRS := hid (show unhxRes s = okOr P by rw [hP]; rfl)
  have HP := hid hP
  clear hP
  have HB0 := hid (Bld.new w)
  have HL0 := hid (belowA w (.cells #[.pointer none, .slice none 0 0] 88))
  go_enter Tryz.func46, Tryz.ntmps46
  go_wp2_with fail
  clear hI hmod
  go_loopg [5] s.length (fun k iv wr => ∃ (i : Nat) (l out : Str), iv = .int .i64 (i : Nat) ∧ At s l i ∧ l.length % 2 = 0 ∧ P = (unhexE l).map (out ++ ·) ∧ out.length ≤ i ∧ Bld wr w.heap.size out ∧ Below w.heap.size w wr ∧ k = l.length)
  case atStart => exact ⟨0, s, [], rfl, At.start s, by omega, by rw [HP.out]; cases unhexE s <;> rfl, by simp, HB0.out, HL0.out, rfl⟩
  case round =>
    obtain ⟨i, l, out, rfl, ha, hev, hr, ho, hb, hbl, rfl⟩ := hrel
    have hlen := ha.len
    have HA := hid ha
    have HRR := hid hr
    have HB := hid hb
    have HBL := hid hbl
    clear ha hr hb hbl
    match l, hev, hlen, HA, HRR with
    | [], _, hlen, HA, HRR =>
      have hie : ¬ (i : Int) < (s.length : Int) := by simp at hlen; omega
      have HRO := hid (show unhxRes s = (out, 0) by rw [HRS.out, HRR.out]; show okOr (some (out ++ [])) = _; rw [List.append_nil]; rfl)
      have HST := hid (str_fn HB.out)
      go_wp2_with (go_at_call 78; refine HST.out.mono ?_; rintro e w5 ⟨rfl, hb5, hk5⟩; have HK5 := hid hk5; clear hb5 hk5)
      go_ret2
      exact ⟨by rw [HRO.out]; rfl, HBL.out.trans HK5.out.1⟩
    | [_], hev, _, _, _ => exact absurd hev (by simp)
    | a :: b :: t, hev, hlen, HA, HRR =>
      have hlt := HA.out.lt
      have hib := HA.out.byte
      have hlt2 := HA.out.tail.lt
      have hib2 := HA.out.tail.byte
      have hii : (i : Int) < (s.length : Int) := by omega
      have hii2 : (i : Int) + 1 < (s.length : Int) := by omega
      have HVF := hid (fun c u => value_fn c u)
      have hPR : P = if 15 < valH a ∨ 15 < valH b then none else (unhexE t).map ((out ++ [UInt8.ofNat (valH a * 16 + valH b)]) ++ ·) := by
        rw [HRR.out, unhexE]
        split
        · rfl
        · cases unhexE t with
          | none => rfl
          | some r => simp
      have HPR := hid hPR
      have hi0 : IntKind.i64.wrap ((i : Int) + 1) = (i : Int) + 1 := IntWalk.i64_in _ (by omega)
      have hi1 : ((i : Int) + 1).toNat = i + 1 := by omega
      have hi2 : (0 : Int) ≤ (i : Int) + 1 := by omega
      have ho9 : out.length ≤ 1000000000 := by omega
      have hi9 : i ≤ 1000000 := by omega
      clear hPR hev
      by_cases ga : 15 < valH a
      · have gaI : (15 : Int) < (valH a : Int) := by omega
        have HRO := hid (show unhxRes s = ([], 2) by rw [HRS.out, HPR.out, if_pos (.inl ga)]; rfl)
        clear ga
        go_upto_region 7 with fail
        go_quiet ((go_at_call 95; exact Calls.quiet_of_same (HVF.out _ _)))
        go_wp2
        go_ret2
        exact ⟨by rw [HRO.out]; rfl, below_drewN HBL.out _⟩
      have gaI : ¬ ((15 : Int) < (valH a : Int)) := by omega
      by_cases gb : 15 < valH b
      · have gbI : (15 : Int) < (valH b : Int) := by omega
        have HRO := hid (show unhxRes s = ([], 2) by rw [HRS.out, HPR.out, if_pos (.inr gb)]; rfl)
        clear gb ga
        go_upto_region 7 with fail
        go_quiet ((go_at_call 95; exact Calls.quiet_of_same (HVF.out _ _)))
        go_wp2
        go_ret2
        exact ⟨by rw [HRO.out]; rfl, below_drewN HBL.out _⟩
      have gbI : ¬ ((15 : Int) < (valH b : Int)) := by omega
      replace HPR := hid (show P = (unhexE t).map ((out ++ [UInt8.ofNat (valH a * 16 + valH b)]) ++ ·) by rw [HPR.out, if_neg (by omega)])
      have hor := i64_or4 (valH a) (valH b) (by omega) (by omega)
      have hv0 : (0 : Int) ≤ (valH a : Int) ∧ (valH a : Int) ≤ 15 := by omega
      have hcv : IntKind.u8.wrap ((valH a * 16 + valH b : Nat) : Int) = ((UInt8.ofNat (valH a * 16 + valH b)).toNat : Int) := by rw [ofNat_lt2 (by omega), IntKind.wrap_u8]; omega
      obtain ⟨c0, hc0⟩ : ∃ c0, c0 = UInt8.ofNat (valH a * 16 + valH b) := ⟨_, rfl⟩
      rw [← hc0] at hcv HPR
      obtain ⟨z, hz⟩ : ∃ z, z = valH a * 16 + valH b := ⟨_, rfl⟩
      rw [← hz] at hcv hor
      clear ga gb hc0 hz
      go_upto_region 7 with fail
      go_quiet ((go_at_call 95; exact Calls.quiet_of_same (HVF.out _ _)))
      go_wp2_with (go_at_call 91; refine (wbyte_fn (HB.out.of (w' := wr.drewN nq) fun k _ _ => rfl) c0 ho9).mono ?_; rintro e w5 ⟨rfl, hb5, hk5⟩; have HB5 := hid hb5; have HK5 := hid hk5; clear hb5 hk5)
      go_roundg t.length
      case measure => simp; omega
      case rel => exact ⟨i + 2, t, out ++ [c0], by go_num, HA.out.tail.tail, by have := HA.out.tail.tail.len; have := HA.out.len; simp only [List.length_cons] at *; omega, HPR.out, by simp; omega, HB5.out, (below_drewN HBL.out _).trans HK5.out.1, rfl⟩
end Go.Proofs.YtihdndaibmgoiaaGreatDoor.Pz
/-
  binary: Unpercent, Unbase64.
-/
namespace Go.Proofs.YtihdndaibmgoiaaGreatDoor.Pz
open Go.RowKit
def unpRes (s : Str) : Str × Int := okOr (unpE s)
set_option maxRecDepth 100000 in
set_option maxHeartbeats 4000000 in
theorem unpercent_fn (s : Str) (hs : s.length ≤ 1000000) (w : World) : Calls Tryz.prog 48 #[.string ⟨s.toArray⟩] w fun e w' => e = .returned (.tuple #[.string ⟨(unpRes s).1.toArray⟩, .int .i64 (unpRes s).2]) ∧ Below w.heap.size w w' := by
  have hsz : (⟨s.toArray⟩ : ByteArray).size = s.length := Lib.size_mk _
  obtain ⟨P, hP⟩ : ∃ P, P = unpE s := ⟨_, rfl⟩
  have HRS := hid (show unpRes s = okOr P by rw [hP]; rfl)
  have HP := hid hP
  clear hP
  have HB0 := hid (Bld.new w)
  have HL0 := hid (belowA w (.cells #[.pointer none, .slice none 0 0] 88))
  go_enter Tryz.func48, Tryz.ntmps48
  go_wp2_with fail
  go_loopg [5] s.length (fun k iv wr => ∃ (i : Nat) (l out : Str), iv = .int .i64 (i : Nat) ∧ At s l i ∧ P = (unpE l).map (out ++ ·) ∧ out.length ≤ i ∧ Bld wr w.heap.size out ∧ Below w.heap.size w wr ∧ k = l.length)
  case atStart => exact ⟨0, s, [], rfl, At.start s, by rw [HP.out]; cases unpE s <;> rfl, by simp, HB0.out, HL0.out, rfl⟩
  case round =>
    obtain ⟨i, l, out, rfl, ha, hr, ho, hb, hbl, rfl⟩ := hrel
    have hlen := ha.len
    have HA := hid ha
    have HRR := hid hr
    have HB := hid hb
    have HBL := hid hbl
    have ho9 : out.length ≤ 1000000000 := by omega
    clear ha hr hb hbl
    match l, hlen, HA, HRR with
    | [], hlen, HA, HRR =>
      have hie : ¬ (i : Int) < (s.length : Int) := by simp at hlen; omega
      have HRO := hid (show unpRes s = (out, 0) by rw [HRS.out, HRR.out]; show okOr (some (out ++ [])) = _; rw [List.append_nil]; rfl)
      have HST := hid (str_fn HB.out)
      go_wp2_with (go_at_call 78; refine HST.out.mono ?_; rintro e w5 ⟨rfl, hb5, hk5⟩; have HK5 := hid hk5; clear hb5 hk5)
      go_ret2
      exact ⟨by rw [HRO.out]; rfl, HBL.out.trans HK5.out.1⟩
    | c :: t, hlen, HA, HRR =>
      have hlt := HA.out.lt
      have hib := HA.out.byte
      have hii : (i : Int) < (s.length : Int) := by omega
      have hcl := c.toNat_lt
      by_cases h37 : c = 37
      · have y37 : ((c.toNat : Int) != 37) = false := byte_is' h37 rfl
        have HR37 := hid (show P = (unpE (37 :: t)).map (out ++ ·) by rw [HRR.out, h37])
        clear h37
        by_cases hshort : t.length < 2
        · have hge : (s.length : Int) ≤ (i : Int) + 2 := by simp only [List.length_cons] at hlen; omega
          have hi0 : IntKind.i64.wrap ((i : Int) + 2) = (i : Int) + 2 := IntWalk.i64_in _ (by omega)
          have HRO := hid (show unpRes s = ([], 2) by rw [HRS.out, HR37.out, unpE_bad hshort]; rfl)
          clear hshort
          go_wp2
          go_ret2
          exact ⟨by rw [HRO.out]; rfl, HBL.out⟩
        match t, hlen, HA, HR37, hshort with
        | a :: b :: t, hlen, HA, HR37, _ =>
          have hge : ¬ ((s.length : Int) ≤ (i : Int) + 2) := by simp only [List.length_cons] at hlen; omega
          have hext : (⟨s.toArray⟩ : ByteArray).extract (i + 1) (i + 3) = ⟨[a, b].toArray⟩ := At.text (x := [a, b]) HA.out.tail
          have hi1 : ((i : Int) + 1).toNat = i + 1 := by omega
          have hi3 : ((i : Int) + 3).toNat = i + 3 := by omega
          have hle1 : (i : Int) + 1 ≤ (i : Int) + 3 := by omega
          have hle2 : (i : Int) + 3 ≤ (s.length : Int) := by simp only [List.length_cons] at hlen; omega
          have hpos : (0 : Int) ≤ (i : Int) + 1 := by omega
          have hpos3 : (0 : Int) ≤ (i : Int) + 3 := by omega
          have HUH := hid (fun u => unhex_fn [a, b] (by show 2 ≤ 1000000; decide) u)
          have HR2 := hid (show P = (if 15 < valH a ∨ 15 < valH b then none else (unpE t).map (UInt8.ofNat (valH a * 16 + valH b) :: ·)).map (out ++ ·) by rw [HR37.out, unpE_two])
          by_cases hbad : 15 < valH a ∨ 15 < valH b
          · have hu : unhxRes [a, b] = ([], 2) := by unfold unhxRes; rw [unhexE, if_pos hbad]; rfl
            rw [hu] at HUH
            have HRO := hid (show unpRes s = ([], 2) by rw [HRS.out, HR2.out, if_pos hbad]; rfl)
            clear hbad hu hlen
            go_wp2_with (go_at_call 46; (with_reducible refine (HUH.out _).mono ?_); rintro e w6 ⟨rfl, hb6⟩; have HB6 := hid hb6; clear hb6)
            go_ret2
            exact ⟨by rw [HRO.out]; rfl, HBL.out.trans (HB6.out.mono HBL.out.size)⟩
          · have hu : unhxRes [a, b] = ([UInt8.ofNat (valH a * 16 + valH b)], 0) := by unfold unhxRes; rw [unhexE, if_neg hbad]; rfl
            obtain ⟨c0, hc0⟩ : ∃ c0, c0 = UInt8.ofNat (valH a * 16 + valH b) := ⟨_, rfl⟩
            rw [hu, ← hc0] at HUH
            have HR3 := hid (show P = (unpE t).map ((out ++ [c0]) ++ ·) by
              rw [HR2.out, if_neg hbad, ← hc0]
              cases unpE t with
              | none => rfl
              | some r => simp)
            clear hbad hu hc0
            go_wp2_with (first | (go_at_call 46; (with_reducible refine (HUH.out _).mono ?_); rintro e w6 ⟨rfl, hb6⟩; have HB6 := hid hb6; clear hb6) | (go_at_call 77; refine (wstr_fn (HB.out.of (w' := w6) fun k _ hk => HB6.out.block k hk) [c0] (by simp only [List.length_cons, List.length_nil]; omega)).mono ?_; rintro e w8 ⟨rfl, hb8, hk8⟩; have HB8 := hid hb8; have HK8 := hid hk8; clear hb8 hk8))
            go_roundg t.length
            case measure => simp; omega
            case rel => exact ⟨i + 3, t, out ++ [c0], by go_num, HA.out.tail.tail.tail, HR3.out, by simp; omega, HB8.out, HBL.out.trans ((HB6.out.mono HBL.out.size).trans HK8.out.1), rfl⟩
        | [], _, _, _, h => exact absurd (by simp) h
        | [_], _, _, _, h => exact absurd (by simp) h
      · have y37 : ((c.toNat : Int) != 37) = true := byte_ne' 37 h37 rfl
        have HR3 := hid (show P = (unpE t).map ((out ++ [c]) ++ ·) by
          rw [HRR.out, unpE_plain h37]
          cases unpE t with
          | none => rfl
          | some r => simp)
        clear h37
        go_wp2_with (go_at_call 91; refine (wbyte_fn HB.out c ho9).mono ?_; rintro e w5 ⟨rfl, hb5, hk5⟩; have HB5 := hid hb5; have HK5 := hid hk5; clear hb5 hk5)
        go_roundg t.length
        case measure => simp
        case rel => exact ⟨i + 1, t, out ++ [c], by go_num, HA.out.tail, HR3.out, by simp; omega, HB5.out, HBL.out.trans HK5.out.1, rfl⟩
theorem trimEq_cut (s : Str) : Lib.trimSuffix s [61] = cutEq s := by
  unfold Lib.trimSuffix cutEq
  by_cases h : s.getLast? = some 61
  · rw [if_pos h]
    obtain ⟨p, rfl⟩ : ∃ p, s = p ++ [61] := by
      rw [List.getLast?_eq_some_iff] at h
      exact h
    rw [if_pos (by unfold Lib.hasSuffix; simp)]
    simp
  · rw [if_neg h, if_neg (by
      unfold Lib.hasSuffix
      intro h2
      apply h
      have h3 : [61] <:+ s := by simpa using h2
      obtain ⟨p, rfl⟩ := h3
      simp)]
theorem cutEq_len (s : Str) : (cutEq s).length ≤ s.length := by
  unfold cutEq
  split
  · rw [List.length_dropLast]; omega
  · exact Nat.le_refl _
def idxV : Option Nat → Int
  | none => -1
  | some n => (n : Int)
theorem index_val (c : UInt8) : Lib.indexByte [65, 66, 67, 68, 69, 70, 71, 72, 73, 74, 75, 76, 77, 78, 79, 80, 81, 82, 83, 84, 85, 86, 87, 88, 89, 90, 97, 98, 99, 100, 101, 102, 103, 104, 105, 106, 107, 108, 109, 110, 111, 112, 113, 114, 115, 116, 117, 118, 119, 120, 121, 122, 48, 49, 50, 51, 52, 53, 54, 55, 56, 57, 43, 47] c = idxV (valB c) := by
  have h : (List.range 256).all (fun n => Lib.indexByte [65, 66, 67, 68, 69, 70, 71, 72, 73, 74, 75, 76, 77, 78, 79, 80, 81, 82, 83, 84, 85, 86, 87, 88, 89, 90, 97, 98, 99, 100, 101, 102, 103, 104, 105, 106, 107, 108, 109, 110, 111, 112, 113, 114, 115, 116, 117, 118, 119, 120, 121, 122, 48, 49, 50, 51, 52, 53, 54, 55, 56, 57, 43, 47] (UInt8.ofNat n) == idxV (valB (UInt8.ofNat n))) = true := by kernel_rfl
  have h2 := List.all_eq_true.1 h c.toNat (List.mem_range.2 c.toNat_lt)
  simpa using h2
theorem valB_lt {c : UInt8} {d : Nat} (h : valB c = some d) : d < 64 := by
  unfold valB at h
  split at h
  · rename_i hm
    have := List.idxOf_lt_length_iff.2 hm
    rw [← Option.some.inj h]
    exact Nat.lt_of_lt_of_le this (by decide)
  · cases h
def b64Nx (n : Nat) (o : Str) (r : Option Str) : Option Nat → Option Str
  | none => none
  | some v => r.map ((o ++ (bytesOf v).take n) ++ ·)
set_option maxRecDepth 100000 in
set_option maxHeartbeats 8000000 in
theorem unbase64_fn (s : Str) (hs : s.length ≤ 1000000) (w : World) : Calls Tryz.prog 47 #[.string ⟨s.toArray⟩] w fun e w' => e = .returned (.tuple #[.string ⟨(unb64Res s).1.toArray⟩, .int .i64 (unb64Res s).2]) ∧ Below w.heap.size w w' := by
  have hsz : (⟨s.toArray⟩ : ByteArray).size = s.length := Lib.size_mk _
  obtain ⟨P, hP⟩ : ∃ P, P = unb64Go s := ⟨_, rfl⟩
  have HRN := hid (fun (h : P = none) => show unb64Res s = ([], 2) by unfold unb64Res; rw [← hP, h])
  have HRY := hid (fun y (h : P = some y) (h2 : b64E y = s) => show unb64Res s = (y, 0) by unfold unb64Res; rw [← hP, h]; exact if_pos h2)
  have HRX := hid (fun y (h : P = some y) (h2 : b64E y ≠ s) => show unb64Res s = ([], 2) by unfold unb64Res; rw [← hP, h]; exact if_neg h2)
  have HP := hid hP
  clear hP
  have HB0 := hid (Bld.new w)
  have HL0 := hid (belowA w (.cells #[.pointer none, .slice none 0 0] 88))
  have HIX := hid (show ∀ (c : UInt8) u, Calls Tryz.prog 97 #[.string ⟨#[65, 66, 67, 68, 69, 70, 71, 72, 73, 74, 75, 76, 77, 78, 79, 80, 81, 82, 83, 84, 85, 86, 87, 88, 89, 90, 97, 98, 99, 100, 101, 102, 103, 104, 105, 106, 107, 108, 109, 110, 111, 112, 113, 114, 115, 116, 117, 118, 119, 120, 121, 122, 48, 49, 50, 51, 52, 53, 54, 55, 56, 57, 43, 47]⟩, .int .u8 (c.toNat : Nat)] u fun e w' => e = .returned (.int .i64 (idxV (valB c))) ∧ w' = u from fun c u => by
    have h := Tryz.strings_IndexByte ⟨#[65, 66, 67, 68, 69, 70, 71, 72, 73, 74, 75, 76, 77, 78, 79, 80, 81, 82, 83, 84, 85, 86, 87, 88, 89, 90, 97, 98, 99, 100, 101, 102, 103, 104, 105, 106, 107, 108, 109, 110, 111, 112, 113, 114, 115, 116, 117, 118, 119, 120, 121, 122, 48, 49, 50, 51, 52, 53, 54, 55, 56, 57, 43, 47]⟩ (c.toNat : Int) u
    rw [show (c.toNat : Int).toNat.toUInt8 = c by simp] at h
    rw [← index_val c]
    exact h)
  have HTS := hid (show ∀ (x : Str) u, x.length ≤ 1000000 → Calls Tryz.prog 96 #[.string ⟨x.toArray⟩, .string ⟨#[61]⟩] u fun e w' => e = .returned (.string ⟨(cutEq x).toArray⟩) ∧ w' = u from fun x u hx => by
    have h := Tryz.strings_TrimSuffix ⟨x.toArray⟩ ⟨#[61]⟩ u (by rw [Lib.size_mk]; omega)
    rw [show (⟨x.toArray⟩ : ByteArray).data.toList = x from rfl, show (⟨#[61]⟩ : ByteArray).data.toList = [61] from rfl, trimEq_cut] at h
    exact h)
  go_enter Tryz.func47, Tryz.ntmps47
  go_wp2_with fail
  go_loopg [5] (s.length + 1) (fun k iv wr => ∃ (i : Nat) (l out : Str), iv = .int .i64 (i : Nat) ∧ At s l i ∧ P = (unb64Go l).map (out ++ ·) ∧ out.length ≤ i ∧ Bld wr w.heap.size out ∧ Below w.heap.size w wr ∧ k = l.length + 1)
  case atStart => exact ⟨0, s, [], rfl, At.start s, by rw [HP.out]; cases unb64Go s <;> rfl, by simp, HB0.out, HL0.out, rfl⟩
  case round =>
    obtain ⟨i, l, out, rfl, ha, hr, ho, hb, hbl, rfl⟩ := hrel
    have hlen := ha.len
    have HA := hid ha
    have HRR := hid hr
    have HB := hid hb
    have HBL := hid hbl
    have ho9 : out.length ≤ 10000000 := by omega
    clear ha hr hb hbl
    by_cases hl0 : l = []
    · have hie : ¬ (i : Int) < (s.length : Int) := by rw [hl0] at hlen; simp at hlen; omega
      have HPO := hid (show P = some out by rw [HRR.out, hl0]; show some (out ++ []) = _; rw [List.append_nil])
      have HST := hid (str_fn HB.out)
      have HB64 := hid (fun u => base64_fn out (by have := hlen; omega) u)
      clear hl0
      by_cases heq : b64E out = s
      · have HRO := hid (HRY.out out HPO.out heq)
        rw [heq] at HB64
        clear heq
        go_wp2_with (first | (go_at_call 78; refine HST.out.mono ?_; rintro e w5 ⟨rfl, hb5, hk5⟩; have HK5 := hid hk5; clear hb5 hk5) | (go_at_call 41; (with_reducible refine (HB64.out _).mono ?_); rintro e w6 ⟨rfl, hb6⟩; have HB6 := hid hb6; clear hb6))
        go_ret2
        exact ⟨by rw [HRO.out]; rfl, (HBL.out.trans HK5.out.1).trans (HB6.out.mono (Nat.le_trans HBL.out.size HK5.out.1.size))⟩
      · have HRO := hid (HRX.out out HPO.out heq)
        obtain ⟨q, hq⟩ : ∃ q, q = b64E out := ⟨_, rfl⟩
        rw [← hq] at HB64 heq
        have hst2 : (q == s) = false := by rw [beq_eq_false_iff_ne]; exact heq
        clear hq heq
        go_wp2_with (first | (go_at_call 78; refine HST.out.mono ?_; rintro e w5 ⟨rfl, hb5, hk5⟩; have HK5 := hid hk5; clear hb5 hk5) | (go_at_call 41; (with_reducible refine (HB64.out _).mono ?_); rintro e w6 ⟨rfl, hb6⟩; have HB6 := hid hb6; clear hb6))
        go_ret2
        exact ⟨by rw [HRO.out]; rfl, (HBL.out.trans HK5.out.1).trans (HB6.out.mono (Nat.le_trans HBL.out.size HK5.out.1.size))⟩
    have hii : (i : Int) < (s.length : Int) := by
      have : 0 < l.length := List.length_pos_iff.2 hl0
      omega
    by_cases h4 : l.length < 4
    · have hge : (s.length : Int) < (i : Int) + 4 := by omega
      have HRO := hid (HRN.out (by
        rw [HRR.out]
        match l, hl0, h4 with
        | [_], _, _ => rfl
        | [_, _], _, _ => rfl
        | [_, _, _], _, _ => rfl
        | [], h, _ => exact absurd rfl h
        | _ :: _ :: _ :: _ :: _, _, h => exact absurd h (by simp)))
      clear hl0 h4
      go_wp2
      go_ret2
      exact ⟨by rw [HRO.out]; rfl, HBL.out⟩
    have hge : ¬ ((s.length : Int) < (i : Int) + 4) := by omega
    match l, hlen, HA, HRR, h4 with
    | [], _, _, _, h => exact absurd (by simp) h
    | [_], _, _, _, h => exact absurd (by simp) h
    | [_, _], _, _, _, h => exact absurd (by simp) h
    | [_, _, _], _, _, _, h => exact absurd (by simp) h
    | a :: b :: c :: d :: t, hlen, HA, HRR, h4 =>
      have hext : (⟨s.toArray⟩ : ByteArray).extract i (i + 4) = ⟨[a, b, c, d].toArray⟩ := At.text (x := [a, b, c, d]) HA.out
      have hi4 : ((i : Int) + 4).toNat = i + 4 := by omega
      have hle1 : (i : Int) ≤ (i : Int) + 4 := by omega
      have hle2 : (i : Int) + 4 ≤ (s.length : Int) := by omega
      have hpos : (0 : Int) ≤ (i : Int) + 4 := by omega
      obtain ⟨p1, hp1⟩ : ∃ p1, p1 = cutEq [a, b, c, d] := ⟨_, rfl⟩
      obtain ⟨p, hp⟩ : ∃ p, p = cutEq p1 := ⟨_, rfl⟩
      have hpl1 : p1.length ≤ 4 := by rw [hp1]; exact cutEq_len _
      have hpl : p.length ≤ 4 := by rw [hp]; exact Nat.le_trans (cutEq_len _) hpl1
      have HT1 := hid (show ∀ u, Calls Tryz.prog 96 #[.string ⟨[a, b, c, d].toArray⟩, .string ⟨#[61]⟩] u fun e w' => e = .returned (.string ⟨p1.toArray⟩) ∧ w' = u from fun u => by rw [hp1]; exact HTS.out _ u (by show 4 ≤ 1000000; decide))
      have HT2 := hid (show ∀ u, Calls Tryz.prog 96 #[.string ⟨p1.toArray⟩, .string ⟨#[61]⟩] u fun e w' => e = .returned (.string ⟨p.toArray⟩) ∧ w' = u from fun u => by rw [hp]; exact HTS.out _ u (by omega))
      obtain ⟨Rn, hRn⟩ : ∃ Rn, Rn = numB p 4 0 := ⟨_, rfl⟩
      have HPR := hid (show P = b64Nx (p.length - 1) out (unb64Go t) Rn by
        rw [HRR.out, unb64Go, ← hp1, ← hp, ← hRn]
        clear hRn
        cases Rn with
        | none => rfl
        | some v =>
          show ((unb64Go t).map _).map _ = (unb64Go t).map _
          cases unb64Go t with
          | none => rfl
          | some r => simp)
      have HRn := hid hRn
      have hpsz : (⟨p.toArray⟩ : ByteArray).size = p.length := Lib.size_mk _
      clear hp1 hp hRn hl0 h4
      go_wp2_with (first | (go_at_call 96; (with_reducible refine (HT1.out _).mono ?_); rintro e wr ⟨rfl, rfl⟩) | (go_at_call 96; (with_reducible refine (HT2.out _).mono ?_); rintro e wr ⟨rfl, rfl⟩))
      go_loopg [7, 29] 4 (fun k vv iv wx => ∃ (j V : Nat), j ≤ 4 ∧ vv = .int .i64 (V : Nat) ∧ iv = .int .i64 (j : Nat) ∧ V < 64 ^ j ∧ Rn = numB p (4 - j) V ∧ wx = wr ∧ k = 4 - j)
      case atStart => exact ⟨0, 0, Nat.zero_le _, rfl, rfl, by decide, HRn.out, rfl, rfl⟩
      case round =>
        obtain ⟨j, V, hj4, rfl, rfl, hVl, hRj, hw, hk⟩ := hrel
        replace hk := hk.symm
        subst hk
        replace hw := hw.symm
        subst hw
        have hV9 : V < 16777216 ∧ (j < 4 → V < 262144) := by
          refine ⟨?_, fun h => ?_⟩
          · exact Nat.lt_of_lt_of_le hVl (Nat.le_trans (Nat.pow_le_pow_right (by decide) hj4) (by decide))
          · exact Nat.lt_of_lt_of_le hVl (Nat.le_trans (Nat.pow_le_pow_right (by decide) (show j ≤ 3 by omega)) (by decide))
        have HVL := hid hVl
        have HRJ := hid hRj
        obtain ⟨hV24, hV18⟩ := hV9
        have hVI : (0 : Int) ≤ (V : Int) ∧ (V : Int) < 16777216 := by omega
        clear hVl hRj
        rcases Nat.lt_or_ge j 4 with hlt | hge4
        · have hltI : (j : Int) < 4 := by omega
          have hN : numB p (4 - j) V = if j < p.length then (match valB (p.getD j 0) with | none => none | some d => numB p (4 - (j + 1)) (V * 64 + d)) else numB p (4 - (j + 1)) (V * 64) := by
            rw [show 4 - j = (4 - (j + 1)) + 1 by omega, numB, show 4 - (4 - (j + 1) + 1) = j by omega]; rfl
          have HN := hid hN
          have HPW := hid (show ∀ d, d < 64 → V * 64 + d < 64 ^ (j + 1) from fun d hd => by have := HVL.out; rw [Nat.pow_succ]; omega)
          clear hN
          have h18 := hV18 hlt
          by_cases hjp : j < p.length
          · have hjI : (j : Int) < (p.length : Int) := by omega
            have hbyte := (At.here hjp).byte
            obtain ⟨x, hx⟩ : ∃ x, x = p[j] := ⟨_, rfl⟩
            rw [← hx] at hbyte
            have hgd : p.getD j 0 = x := by rw [hx, List.getD_eq_getElem?_getD, List.getElem?_eq_getElem hjp]; rfl
            have HIXx := hid (HIX.out x)
            cases hvb : valB x with
            | none =>
              have HRO := hid (HRN.out (by rw [HPR.out, HRJ.out, HN.out, if_pos hjp, hgd, hvb]; rfl))
              rw [hvb] at HIXx
              have HIXy := hid (show ∀ u, Calls Tryz.prog 97 _ u fun e w' => e = .returned (.int .i64 (-1)) ∧ w' = u from HIXx.out)
              clear hvb hgd hx HIXx
              go_wp2_with (go_at_call 97; (with_reducible refine (HIXy.out _).mono ?_); rintro e wr ⟨rfl, rfl⟩)
              go_ret2
              exact ⟨by rw [HRO.out]; rfl, HBL.out⟩
            | some q =>
              have hq64 := valB_lt hvb
              have HRQ := hid (show Rn = numB p (4 - (j + 1)) (V * 64 + q) by rw [HRJ.out, HN.out, if_pos hjp, hgd, hvb])
              rw [hvb] at HIXx
              have HIXy := hid (show ∀ u, Calls Tryz.prog 97 _ u fun e w' => e = .returned (.int .i64 (q : Nat)) ∧ w' = u from HIXx.out)
              have hor := i64_or6 V q (by omega) hq64
              have hq0 : (0 : Int) ≤ (q : Int) ∧ (q : Int) < 64 := by omega
              have HPQ := hid (HPW.out q hq64)
              clear hvb hgd hx HIXx
              go_wp2_with (go_at_call 97; (with_reducible refine (HIXy.out _).mono ?_); rintro e wr ⟨rfl, rfl⟩)
              go_roundg (4 - (j + 1))
              case measure => omega
              case rel => exact ⟨j + 1, V * 64 + q, hlt, by go_num, by go_num, HPQ.out, HRQ.out, rfl, rfl⟩
          · have hjI : ¬ ((j : Int) < (p.length : Int)) := by omega
            have HRQ := hid (show Rn = numB p (4 - (j + 1)) (V * 64) by rw [HRJ.out, HN.out, if_neg hjp])
            have hor := i64_or6 V 0 (by omega) (by decide)
            rw [Nat.add_zero] at hor
            replace hor : Go.bits .or .i64 ((V : Int) * 64) 0 = ((V * 64 : Nat) : Int) := hor
            have HPQ := hid (HPW.out 0 (by decide))
            go_wp2
            go_roundg (4 - (j + 1))
            case measure => omega
            case rel => exact ⟨j + 1, V * 64, hlt, by go_num, by go_num, HPQ.out, HRQ.out, rfl, rfl⟩
        · obtain rfl : j = 4 := by omega
          have HRV := hid (show Rn = some V from HRJ.out)
          obtain ⟨c0, hc0⟩ : ∃ c0, c0 = UInt8.ofNat (V / 65536 % 256) := ⟨_, rfl⟩
          obtain ⟨c1, hc1⟩ : ∃ c1, c1 = UInt8.ofNat (V / 256 % 256) := ⟨_, rfl⟩
          obtain ⟨c2, hc2⟩ : ∃ c2, c2 = UInt8.ofNat (V % 256) := ⟨_, rfl⟩
          have hw0 : IntKind.u8.wrap ((V : Int) / 65536) = (c0.toNat : Int) := by rw [hc0, ofNat_lt2 (by omega), IntKind.wrap_u8]; omega
          have hw1 : IntKind.u8.wrap ((V : Int) / 256) = (c1.toNat : Int) := by rw [hc1, ofNat_lt2 (by omega), IntKind.wrap_u8]; omega
          have hw2 : IntKind.u8.wrap (V : Int) = (c2.toNat : Int) := by rw [hc2, ofNat_lt2 (by omega), IntKind.wrap_u8]; omega
          have HBY := hid (show bytesOf V = [c0, c1, c2] by rw [hc0, hc1, hc2]; rfl)
          obtain ⟨n, hn⟩ : ∃ n, n = p.length - 1 := ⟨_, rfl⟩
          have hmax : max (0 : Int) ((p.length : Int) - 1) = (n : Int) := by omega
          have hn3 : n ≤ 3 := by omega
          have hnI : (n : Int) ≤ 3 := by omega
          have HNN := hid hn
          have HPT := hid (show P = (unb64Go t).map ((out ++ [c0, c1, c2].take n) ++ ·) by rw [HPR.out, HRV.out, ← HBY.out, hn]; rfl)
          clear hc0 hc1 hc2 hn hge4 hj4 hV18
          have hwr := HB.out.lt
          have hcells : ∀ j (hj : j < ([c0, c1, c2].take n).length), (wr.alloc (.cells #[.int .u8 (c0.toNat : Nat), .int .u8 (c1.toNat : Nat), .int .u8 (c2.toNat : Nat)] 5)).cell? ⟨wr.heap.size, j, none⟩ = some (.int .u8 ((([c0, c1, c2].take n)[j]).toNat : Nat)) := by
            intro j hj
            rw [Lib.cell_of_heap (heap_alloc_new _ _)]
            rw [List.getElem_take]
            have hj3 : j < 3 := by rw [List.length_take] at hj; simp only [List.length_cons, List.length_nil] at hj; omega
            match j, hj3 with
            | 0, _ => rfl
            | 1, _ => rfl
            | 2, _ => rfl
          have HWB := hid (wbytes_fn (w := wr.alloc (.cells #[.int .u8 (c0.toNat : Nat), .int .u8 (c1.toNat : Nat), .int .u8 (c2.toNat : Nat)] 5)) (b := w.heap.size) (g := wr.heap.size) (n := n) (cap := 3) (l := out) (HB.out.of fun k _ hk => Below.heap_alloc _ _ _ hk) ([c0, c1, c2].take n) (by rw [List.length_take]; simp only [List.length_cons, List.length_nil]; omega) (by simp) (by omega) hcells (by rw [List.length_take]; omega))
          clear hcells
          rw [show ((4 : Nat) : Int) = 4 from rfl]
          go_wp2_with (go_at_call 98; (with_reducible refine HWB.out.mono ?_); rintro e w8 ⟨rfl, hb8, hk8⟩; have HB8 := hid hb8; have HK8 := hid hk8; clear hb8 hk8)
          go_roundg (t.length + 1)
          case measure => simp
          case rel => exact ⟨i + 4, t, out ++ [c0, c1, c2].take n, by go_num, HA.out.tail.tail.tail.tail, HPT.out, by rw [List.length_append, List.length_take]; omega, HB8.out, (HBL.out.alloc HBL.out.size _).trans HK8.out.1, rfl⟩
end Go.Proofs.YtihdndaibmgoiaaGreatDoor.Pz
