/-
  Part K8 of the proofs of this seat: contracts of functions and plain facts, merged from 4 texts.
-/
import Derived.Shelf.Strings.Trim
import Derived.Ground.MpProg
import Derived.Shelf.LaysM
import Derived.Test.YtihdndaibmgoiaaGreatDoorProg
import Derived.Shelf.Strings.OnBuilder
import Derived.Shelf.Strings.SlTrimAscii
import Derived.Laws.AppendOwn
import Derived.Test.YtihdndaibmgoiaaGreatDoorK0
import Derived.Test.YtihdndaibmgoiaaGreatDoorK1
import Derived.Test.YtihdndaibmgoiaaGreatDoorK2
import Derived.Test.YtihdndaibmgoiaaGreatDoorK3
import Derived.Test.YtihdndaibmgoiaaGreatDoorK4
import Derived.Test.YtihdndaibmgoiaaGreatDoorK5
import Derived.Test.YtihdndaibmgoiaaGreatDoorK6
import Derived.Test.YtihdndaibmgoiaaGreatDoorK7
/-
  Contracts of the library, laid at this program by the kit's shelf tools.
-/
namespace Go.Proofs.YtihdndaibmgoiaaGreatDoor.Pz
open Go.Shelf
def Tryz.lays162_ren : Go.Shelf.Ren := ⟨fun | 162 => 85 | 232 => 129 | 227 => 130 | 234 => 131 | 236 => 132 | 228 => 157 | 271 => 158 | 151 => 159 | 120 => 182 | 197 => 161 | 152 => 183 | 260 => 184 | 137 => 97 | 119 => 204 | 224 => 171 | 225 => 170 | 217 => 139 | 266 => 167 | n => n, fun | 9 => 9 | 4 => 4 | 3 => 3 | 5 => 5 | 117 => 147 | 116 => 146 | 0 => 0 | 124 => 150 | 21 => 21 | 105 => 173 | 46 => 98 | 119 => 153 | 139 => 156 | 138 => 155 | n => n, fun | 3 => 0 | 4 => 1 | n => n⟩
theorem Tryz.lays162 : Go.Proofs.Lays.n162 Tryz.prog Tryz.lays162_ren := {
  mixed := by kernel_rfl
  f119 := Tryz.func204.trans (congrArg some (by kernel_rfl))
  f120 := Tryz.func182.trans (congrArg some (by kernel_rfl))
  f137 := Tryz.func97.trans (congrArg some (by kernel_rfl))
  f151 := Tryz.func159.trans (congrArg some (by kernel_rfl))
  f152 := Tryz.func183.trans (congrArg some (by kernel_rfl))
  f162 := Tryz.func85.trans (congrArg some (by kernel_rfl))
  f197 := Tryz.func161.trans (congrArg some (by kernel_rfl))
  f217 := Tryz.func139.trans (congrArg some (by kernel_rfl))
  f224 := Tryz.func171.trans (congrArg some (by kernel_rfl))
  f225 := Tryz.func170.trans (congrArg some (by kernel_rfl))
  f227 := Tryz.func130.trans (congrArg some (by kernel_rfl))
  f228 := Tryz.func157.trans (congrArg some (by kernel_rfl))
  f232 := Tryz.func129.trans (congrArg some (by kernel_rfl))
  f234 := Tryz.func131.trans (congrArg some (by kernel_rfl))
  f236 := Tryz.func132.trans (congrArg some (by kernel_rfl))
  f260 := Tryz.func184.trans (congrArg some (by kernel_rfl))
  f266 := Tryz.func167.trans (congrArg some (by kernel_rfl))
  f271 := Tryz.func158.trans (congrArg some (by kernel_rfl))
  t0 := Tryz.underlying0
  a0 := Tryz.isAgg0
  z0 := Tryz.sizeOf0
  v0 := Tryz.zeroValue0
  t3 := Tryz.underlying3
  a3 := Tryz.isAgg3
  z3 := Tryz.sizeOf3
  v3 := Tryz.zeroValue3
  t4 := Tryz.underlying4
  a4 := Tryz.isAgg4
  z4 := Tryz.sizeOf4
  v4 := Tryz.zeroValue4
  t5 := Tryz.underlying5
  a5 := Tryz.isAgg5
  z5 := Tryz.sizeOf5
  v5 := Tryz.zeroValue5
  t9 := Tryz.underlying9
  a9 := Tryz.isAgg9
  z9 := Tryz.sizeOf9
  v9 := Tryz.zeroValue9
  t21 := Tryz.underlying21
  a21 := Tryz.isAgg21
  z21 := Tryz.sizeOf21
  v21 := Tryz.zeroValue21
  t46 := Tryz.underlying98
  a46 := Tryz.isAgg98
  z46 := Tryz.sizeOf98
  v46 := Tryz.zeroValue98
  t105 := Tryz.underlying173
  a105 := Tryz.isAgg173
  z105 := Tryz.sizeOf173
  v105 := Tryz.zeroValue173
  t116 := Tryz.underlying146
  a116 := Tryz.isAgg146
  z116 := Tryz.sizeOf146
  t117 := Tryz.underlying147
  a117 := Tryz.isAgg147
  z117 := Tryz.sizeOf147
  v117 := Tryz.zeroValue147
  t119 := Tryz.underlying153
  a119 := Tryz.isAgg153
  z119 := Tryz.sizeOf153
  t124 := Tryz.underlying150
  a124 := Tryz.isAgg150
  z124 := Tryz.sizeOf150
  v124 := Tryz.zeroValue150
  t138 := Tryz.underlying155
  a138 := Tryz.isAgg155
  z138 := Tryz.sizeOf155
  v138 := Tryz.zeroValue155
  t139 := Tryz.underlying156
  a139 := Tryz.isAgg156
  z139 := Tryz.sizeOf156
  v139 := Tryz.zeroValue156
  g3 := by kernel_rfl
  g4 := by kernel_rfl }
open Go.RowKit in
theorem Tryz.strings_TrimRight_one (s : ByteArray) (c : UInt8) (hc : c.toNat < 128) (w : World) (hs : s.size ≤ 9223372036854775807) :
    Calls Tryz.prog 85 #[.string s, .string ⟨#[c]⟩] w fun e w' => e = .returned (.string ⟨(Lib.trimRightB s.data.toList c).toArray⟩) ∧ w' = w := Any.strings_TrimRight_one Tryz.lays162 s c hc w hs
end Go.Proofs.YtihdndaibmgoiaaGreatDoor.Pz
/-
  Contracts of the library, laid at this program by the kit's shelf tools.
-/
namespace Go.Proofs.YtihdndaibmgoiaaGreatDoor.Pz
open Go.Shelf
def Tryz.lays156_ren : Go.Shelf.Ren := ⟨fun | 156 => 21 | 165 => 76 | 166 => 77 | 169 => 78 | 240 => 123 | 241 => 124 | 276 => 153 | 277 => 154 | n => n, fun | 31 => 22 | 9 => 9 | 3 => 3 | 4 => 4 | 0 => 0 | 20 => 20 | 72 => 88 | 76 => 92 | 70 => 86 | 37 => 46 | 75 => 91 | 127 => 140 | 164 => 169 | 5 => 5 | 80 => 94 | n => n, fun | n => n⟩
theorem Tryz.lays156 : Go.Proofs.Lays.n156 Tryz.prog Tryz.lays156_ren := {
  mixed := by kernel_rfl
  f156 := Tryz.func21.trans (congrArg some (by kernel_rfl))
  f165 := Tryz.func76.trans (congrArg some (by kernel_rfl))
  f166 := Tryz.func77.trans (congrArg some (by kernel_rfl))
  f169 := Tryz.func78.trans (congrArg some (by kernel_rfl))
  f240 := Tryz.func123.trans (congrArg some (by kernel_rfl))
  f241 := Tryz.func124.trans (congrArg some (by kernel_rfl))
  f276 := Tryz.func153.trans (congrArg some (by kernel_rfl))
  f277 := Tryz.func154.trans (congrArg some (by kernel_rfl))
  t0 := Tryz.underlying0
  a0 := Tryz.isAgg0
  z0 := Tryz.sizeOf0
  v0 := Tryz.zeroValue0
  t3 := Tryz.underlying3
  a3 := Tryz.isAgg3
  z3 := Tryz.sizeOf3
  v3 := Tryz.zeroValue3
  t4 := Tryz.underlying4
  a4 := Tryz.isAgg4
  z4 := Tryz.sizeOf4
  v4 := Tryz.zeroValue4
  t9 := Tryz.underlying9
  a9 := Tryz.isAgg9
  z9 := Tryz.sizeOf9
  v9 := Tryz.zeroValue9
  t20 := Tryz.underlying20
  a20 := Tryz.isAgg20
  z20 := Tryz.sizeOf20
  v20 := Tryz.zeroValue20
  t31 := Tryz.underlying22
  a31 := Tryz.isAgg22
  z31 := Tryz.sizeOf22
  v31 := Tryz.zeroValue22
  t37 := Tryz.underlying46
  a37 := Tryz.isAgg46
  z37 := Tryz.sizeOf46
  v37 := Tryz.zeroValue46
  t70 := Tryz.underlying86
  a70 := Tryz.isAgg86
  z70 := Tryz.sizeOf86
  v70 := Tryz.zeroValue86
  t72 := Tryz.underlying88
  a72 := Tryz.isAgg88
  z72 := Tryz.sizeOf88
  v72 := Tryz.zeroValue88
  t75 := Tryz.underlying91
  a75 := Tryz.isAgg91
  z75 := Tryz.sizeOf91
  v75 := Tryz.zeroValue91
  t76 := Tryz.underlying92
  a76 := Tryz.isAgg92
  z76 := Tryz.sizeOf92
  v76 := Tryz.zeroValue92
  t127 := Tryz.underlying140
  a127 := Tryz.isAgg140
  z127 := Tryz.sizeOf140
  v127 := Tryz.zeroValue140
  t164 := Tryz.underlying169
  a164 := Tryz.isAgg169
  z164 := Tryz.sizeOf169
  v164 := Tryz.zeroValue169 }
theorem Tryz.Builder_Extra_156 : Builder.Extra Tryz.prog Tryz.lays156_ren := {
  sizeBuilder := by kernel_rfl
  liesBuilder := by kernel_rfl
  t5 := Tryz.underlying5
  a5 := Tryz.isAgg5
  z5 := Tryz.sizeOf5
  v5 := Tryz.zeroValue5
  infoByte := by kernel_rfl
  cellsByte := by kernel_rfl
  sizeByte := by kernel_rfl
  neB5 := by decide }
open Go.RowKit in
theorem Tryz.strings_Join (bk o c : Nat) (xs : List ByteArray) (sep : ByteArray) (w : World) (hcells : ∀ (j : Nat) x, xs[j]? = some x → w.cell? ⟨bk, o + j, none⟩ = some (.string x)) (hbk : bk < w.heap.size) (hN : xs.length ≤ 140737488355328) (hcap : xs.length ≤ c) (hlen : (Lib.join (xs.map (·.data.toList)) sep.data.toList).length ≤ 140737488355328) :
    Calls Tryz.prog 21 #[.slice (some ⟨bk, o, none⟩) xs.length c, .string sep] w fun e w' => e = .returned (.string ⟨(Lib.join (xs.map (·.data.toList)) sep.data.toList).toArray⟩) ∧ Below w.heap.size w w' := Any.strings_Join Tryz.lays156 Tryz.Builder_Extra_156 bk o c xs sep w hcells hbk hN hcap hlen
open Go.RowKit in
theorem Tryz.strings_Join_none (a : Option Addr) (c : Nat) (sep : ByteArray) (w : World) :
    Calls Tryz.prog 21 #[.slice a 0 c, .string sep] w fun e w' => e = .returned (.string ⟨#[]⟩) ∧ w' = w := Any.strings_Join_none Tryz.lays156 Tryz.Builder_Extra_156 a c sep w
end Go.Proofs.YtihdndaibmgoiaaGreatDoor.Pz
/-
  binary: what a field tells of bytes.
-/
namespace Go.Proofs.YtihdndaibmgoiaaGreatDoor.Pz
open Go.RowKit
attribute [local go_sem] Oper.semAt_some
theorem app_one_op {w : World} {o : Oper} {a : Act} {K : Act → World → Prop} {Q : Exit → Act → World → Prop} (s x : Operand)
    (ho : o.op = .call { callee := .builtin .append, args := #[s, x], argTypes := #[22, 22] })
    (B : Nat) (v : Value) (l : List Str) (q : Str) (hs : a.eval s = v) (hown : RowS B w v l)
    (hx : a.eval x = .slice (some ⟨w.heap.size, 0, none⟩) 1 1) (hl : l.length ≤ 10000000) (hB : B ≤ w.heap.size)
    (h : ∀ v' w', RowS B w' v' (l ++ [q]) → w.grownBy w' v.ownBlock → K (a.put o.dst v') w') :
    o.wp Tryz.prog a (w.alloc (.cells #[.string ⟨q.toArray⟩] 9)) K Q := by
  obtain ⟨i0, hi, hz0, hz1, hz2⟩ := info_parts Tryz.infoS
  have hown' : (w.alloc (.cells #[.string ⟨q.toArray⟩] 9)).ownsRow B 9 1 v l.length (strCells l) := World.ownsRow.alloc hown _
  refine wp_append_own _ s x 22 ho B 9 i0 (.string ⟨#[]⟩) 1 16 Tryz.underlying22 hi hz0 hz1 hz2 rfl (by decide) v l.length (strCells l) hs hown' ⟨w.heap.size, 0, none⟩ 1 1 [.string ⟨q.toArray⟩] hx rfl (World.news_of_block (heap_alloc_new _ _)) (strCells_one [q]) ?_ ?_ ?_ ?_
  · unfold maxLen; omega
  · omega
  · simp; omega
  · intro v' w' hrow hg _
    refine h v' w' ?_ ?_
    · show w'.ownsRow B 9 1 v' (l ++ [q]).length (strCells (l ++ [q]))
      rw [strCells_app, List.length_append]
      exact hrow
    · refine ⟨hg.os, hg.tape, hg.output, ?_, fun k hk hr => ?_⟩
      · have := hg.size; simp at this; omega
      · rw [hg.block k (by simp; omega) hr]
        exact Below.heap_alloc _ _ _ (by omega)
def clsB (c : UInt8) : Bool := c == 97 || c == 65 || c == 120
  || (textL c && c != 97 && c != 65 && c != 120 && widthL c == 0)
  || (!textL c && c != 120 && c != 97 && c != 65 && (widthL c == 1 || widthL c == 2 || widthL c == 4 || widthL c == 8))
theorem fld_class {c : UInt8} (hk : knownL c = true) (h64 : c ≠ 64) : c = 97 ∨ c = 65 ∨ c = 120 ∨ (textL c = true ∧ c ≠ 97 ∧ c ≠ 65 ∧ c ≠ 120 ∧ widthL c = 0) ∨ (textL c = false ∧ c ≠ 120 ∧ c ≠ 97 ∧ c ≠ 65 ∧ (widthL c = 1 ∨ widthL c = 2 ∨ widthL c = 4 ∨ widthL c = 8)) := by
  have h : (List.range 256).all (fun n => !knownL (UInt8.ofNat n) || UInt8.ofNat n == 64 || clsB (UInt8.ofNat n)) = true := by kernel_rfl
  have h2 := List.all_eq_true.1 h c.toNat (List.mem_range.2 c.toNat_lt)
  rw [UInt8.ofNat_toNat] at h2
  simp only [hk, Bool.not_true, Bool.false_or, Bool.or_eq_true, beq_iff_eq, h64, false_or] at h2
  unfold clsB at h2
  simp only [Bool.or_eq_true, Bool.and_eq_true, beq_iff_eq, bne_iff_ne, ne_eq, Bool.not_eq_true'] at h2
  rcases h2 with ((((h | h) | h) | h) | h)
  · exact .inl h
  · exact .inr (.inl h)
  · exact .inr (.inr (.inl h))
  · obtain ⟨⟨⟨⟨a1, a2⟩, a3⟩, a4⟩, a5⟩ := h
    exact .inr (.inr (.inr (.inl ⟨a1, a2, a3, a4, a5⟩)))
  · obtain ⟨⟨⟨⟨a1, a2⟩, a3⟩, a4⟩, a5⟩ := h
    exact .inr (.inr (.inr (.inr ⟨a1, a2, a3, a4, by omega⟩)))
theorem byte_is {c : UInt8} {d : UInt8} {k : Int} (h : c = d) (hk : (d.toNat : Int) = k) : ((c.toNat : Int) == k) = true := by rw [h, hk]; simp
theorem byte_is' {c : UInt8} {d : UInt8} {k : Int} (h : c = d) (hk : (d.toNat : Int) = k) : ((c.toNat : Int) != k) = false := by rw [h, hk]; simp
theorem trimZ_eq (s : Str) : Lib.trimRightS s [32, 0] = trimZ s := by
  unfold Lib.trimRightS trimZ
  congr 2
  funext c
  by_cases h1 : c = 32
  · subst h1; rfl
  · by_cases h2 : c = 0
    · subst h2; rfl
    · simp [h1, h2]
theorem trimR_fn (s : Str) (w : World) (hl : s.length ≤ 1000000) :
    Calls Tryz.prog 85 #[.string ⟨s.toArray⟩, .string ⟨#[32, 0]⟩] w fun e w' => e = .returned (.string ⟨(trimZ s).toArray⟩) ∧ Below w.heap.size w w' := by
  have h := Any.strings_TrimRight_laid Tryz.lays162 (by kernel_rfl) ⟨s.toArray⟩ ⟨#[32, 0]⟩ w (by rw [Lib.size_mk]; omega) (by decide) (ascii_of_all (by decide))
  rw [show (⟨s.toArray⟩ : ByteArray).data.toList = s from rfl, show (⟨#[32, 0]⟩ : ByteArray).data.toList = [32, 0] from rfl, trimZ_eq] at h
  exact h
theorem join_B : ∀ l : List Str, Lib.join l [32] = joinB l
  | [] => rfl
  | [a] => Lib.join_one a _
  | a :: b :: l => by
    have ih := join_B (b :: l)
    rw [Lib.join_cons] at ih
    rw [Lib.join_cons, joinB, ← ih]
    simp [Lib.joinTail]
theorem joinB_len : ∀ l : List Str, (joinB l).length ≤ sumT l + l.length
  | [] => Nat.le_refl _
  | [a] => by rw [joinB, sumT, sumT]; simp
  | a :: b :: l => by
    have := joinB_len (b :: l)
    rw [joinB, sumT, List.length_append, List.length_cons, List.length_cons]
    omega
theorem joinB_fn (l : List Str) (v : Value) (w : World) (hv : StrsAt w v l) (hb : sumT l ≤ 100000000) (hln : l.length ≤ 10000000) :
    Calls Tryz.prog 21 #[v, .string ⟨#[32]⟩] w fun e w' => e = .returned (.string ⟨(joinB l).toArray⟩) ∧ Below w.heap.size w w' := by
  obtain ⟨a, cap, rfl, hcap, hcell⟩ := hv
  cases l with
  | nil => exact (Tryz.strings_Join_none a cap ⟨#[32]⟩ w).mono fun e w' h => ⟨h.1, by rw [h.2]; exact Below.refl _ _⟩
  | cons x l =>
    obtain ⟨p, rfl, hbk, hc⟩ := hcell 0 (by simp)
    have hsp := World.cell?_spot hc
    obtain ⟨bk, o, spot⟩ := p
    obtain rfl : spot = none := by simpa [Addr.add] using hsp
    have hm : ((x :: l).map fun s : Str => (⟨s.toArray⟩ : ByteArray)).map (·.data.toList) = x :: l := by
      rw [List.map_map]
      conv => rhs; rw [← List.map_id (x :: l)]
      rfl
    have h := Tryz.strings_Join bk o cap ((x :: l).map fun s : Str => (⟨s.toArray⟩ : ByteArray)) ⟨#[32]⟩ w (fun j y hy => by
      rw [List.getElem?_map] at hy
      cases hj : (x :: l)[j]? with
      | none => rw [hj] at hy; cases hy
      | some z =>
        rw [hj] at hy
        have hy := Option.some.inj hy
        subst hy
        obtain ⟨hjl, hz⟩ := List.getElem?_eq_some_iff.1 hj
        obtain ⟨q, hq, _, hcq⟩ := hcell j hjl
        have hq := Option.some.inj hq
        subst hq
        rw [add_none, hz] at hcq
        exact hcq) hbk (by rw [List.length_map]; omega) (by rw [List.length_map]; exact hcap) (by
        rw [hm, show (⟨#[32]⟩ : ByteArray).data.toList = [32] from rfl, join_B]
        have := joinB_len (x :: l)
        omega)
    rw [hm, show (⟨#[32]⟩ : ByteArray).data.toList = [32] from rfl, join_B, List.length_map] at h
    exact h
theorem chunksE_eq (k : Nat) : ∀ (n : Nat) (s : Str), chunksE k n s = (List.range n).map fun i => (s.drop (k * i)).take k
  | 0, _ => rfl
  | n + 1, s => by
    rw [chunksE, chunksE_eq k n, List.range_succ_eq_map, List.map_cons, List.map_map]
    congr 1
    apply List.map_congr_left
    intro i _
    show ((s.drop k).drop (k * i)).take k = (s.drop (k * (i + 1))).take k
    rw [List.drop_drop, Nat.mul_succ, Nat.add_comm]
/-- the numbers of so many groups of bytes -/
def numsU (c : UInt8) (p : Bool) (k : Nat) (s : Str) (i : Nat) : List Str := (List.range i).map fun j => numberE c p ((s.drop (k * j)).take k)
theorem numsU_all (c : UInt8) (p : Bool) (k n : Nat) (s : Str) : (chunksE k n s).map (numberE c p) = numsU c p k s n := by
  rw [chunksE_eq, List.map_map]
  rfl
theorem numsU_snoc (c : UInt8) (p : Bool) (k : Nat) (s : Str) (i : Nat) : numsU c p k s (i + 1) = numsU c p k s i ++ [numberE c p ((s.drop (k * i)).take k)] := by
  unfold numsU
  rw [List.range_succ, List.map_append]
  rfl
theorem numsU_len (c : UInt8) (p : Bool) (k : Nat) (s : Str) (i : Nat) : (numsU c p k s i).length = i := by
  unfold numsU
  rw [List.length_map, List.length_range]
theorem numberE_len (c : UInt8) (p : Bool) (s : Str) (hs : s.length ≤ 8) : (numberE c p s).length ≤ 40 := by
  have h1 : ∀ (n : Nat) (b : Bool), n < 10 ^ 38 → (numText 10 n b).length ≤ 40 := by
    intro n b hn
    have h2 : (strOf 10 n).length ≤ 38 := by rw [strOf_length]; exact (dlen_le_iff 10 n 38 (by decide)).2 hn
    unfold numText
    split
    · simp
    · split
      · simp only [List.length_cons]; omega
      · omega
  have h3 : ∀ l : Str, l.length = s.length → ofLE l < 256 ^ 8 := fun l hl => Nat.lt_of_lt_of_le (ofLE_lt l) (Nat.pow_le_pow_right (by decide) (by omega))
  have h4 : (ordE (highL c) s).length = s.length := by
    unfold ordE
    split
    · exact List.length_reverse
    · rfl
  have h5 := h3 _ h4
  have h6 : (256 : Nat) ^ 8 = 18446744073709551616 := by decide
  have h7 : (10 : Nat) ^ 38 = 100000000000000000000000000000000000000 := by decide
  unfold numberE
  refine h1 _ _ ?_
  have hp : (2 : Nat) ^ (8 * s.length) ≤ 2 ^ 64 := Nat.pow_le_pow_right (by decide) (by omega)
  have hp2 : (2 : Nat) ^ 64 = 18446744073709551616 := by decide
  generalize ofLE (ordE (highL c) s) = v at *
  split
  · omega
  · unfold signedE
    generalize (2 : Nat) ^ (8 * s.length) = B at *
    split <;> omega
theorem numsU_sum (c : UInt8) (p : Bool) (k : Nat) (hk : k ≤ 8) (s : Str) : ∀ i, sumT (numsU c p k s i) ≤ 40 * i
  | 0 => Nat.le_refl _
  | i + 1 => by
    have h0 : ∀ a b : List Str, sumT (a ++ b) = sumT a + sumT b := by
      intro a b
      induction a with
      | nil => rw [List.nil_append, sumT]; omega
      | cons x a ih => rw [List.cons_append, sumT, sumT, ih]; omega
    have := numsU_sum c p k hk s i
    have h1 := numberE_len c p ((s.drop (k * i)).take k) (by rw [List.length_take]; omega)
    rw [numsU_snoc, h0, sumT, sumT]
    omega
/-- what a field tells of a text: what is told, how many bytes, whether there were enough -/
def unpkR (f : Fld) (s : Str) : Str × Nat × Bool :=
  if s.length < lenL f.letter (cntU f s.length) then ([], 0, false)
  else (toldE f (cntU f s.length) (s.take (lenL f.letter (cntU f s.length))), lenL f.letter (cntU f s.length), true)
def UnpkQ (f : Fld) (s : Str) (w : World) (e : Ending) (w' : World) : Prop := e = .returned (.tuple #[.string ⟨(unpkR f s).1.toArray⟩, .int .i64 ((unpkR f s).2.1 : Nat), .bool (unpkR f s).2.2]) ∧ Below w.heap.size w w'
theorem cntU_le (c : UInt8) (p : Bool) (n : Int) (hn : -2 ≤ n ∧ n ≤ 9999) (m : Nat) (hm : m ≤ 100000) : cntU ⟨c, p, n⟩ m ≤ 800000 := by
  unfold cntU oneC
  dsimp only
  split
  · split
    · omega
    · split
      · have := Nat.div_le_self (m * 8) (bitsL c)
        omega
      · have := Nat.div_le_self m (max 1 (widthL c))
        omega
  · split <;> omega
set_option maxRecDepth 100000 in
set_option maxHeartbeats 8000000 in
theorem unpacked_fn (c : UInt8) (p : Bool) (n : Int) (hn : -2 ≤ n ∧ n ≤ 9999) (hkn : knownL c = true) (h64 : c ≠ 64) (s : Str) (hs : s.length ≤ 100000) (w : World) (htab : Tab w) :
    Calls Tryz.prog 80 #[.agg #[.int .u8 (c.toNat : Nat), .bool p, .int .i64 n], .string ⟨s.toArray⟩] w (UnpkQ ⟨c, p, n⟩ s w) := by
  have hsz : (⟨s.toArray⟩ : ByteArray).size = s.length := Lib.size_mk _
  obtain ⟨N, hN⟩ : ∃ N, N = cntU ⟨c, p, n⟩ s.length := ⟨_, rfl⟩
  have hN8 : N ≤ 800000 := by rw [hN]; exact cntU_le c p n hn _ hs
  obtain ⟨w0, hw0⟩ : ∃ w0, w0 = w.alloc (.cells #[.int .u8 (c.toNat : Nat), .bool p, .int .i64 n] 79) := ⟨_, rfl⟩
  have hF0 : FBlk w.heap.size w0 ⟨c, p, n⟩ := ⟨by rw [hw0]; exact heap_alloc_new _ _⟩
  have hb0 : Below w.heap.size w w0 := by rw [hw0]; exact (Below.refl _ _).alloc (Nat.le_refl _) _
  have HONE := hid (one_fldC c p n w0)
  have HW0 := hid hw0
  have HF0 := hid hF0
  have HB0 := hid hb0
  have HN := hid hN
  have HT := hid htab
  have HCLS := hid (fld_class hkn h64)
  have c0 := hF0.c0
  have c1 := hF0.c1
  have c2 := hF0.c2
  clear hw0 hF0 hb0 hN htab hkn h64
  go_enter Tryz.func80, Tryz.ntmps80
  go_upto_if 15 with (rw [← HW0.out]; (with_reducible refine HONE.out.mono ?_); rintro e w1 ⟨rfl, hb1⟩; have hF1 := HF0.out.on hb1; have d0 := hF1.c0; have d1 := hF1.c1; have d2 := hF1.c2; have HF1 := hid hF1; have HB1 := hid (HB0.out.trans (hb1.mono HB0.out.size)); clear hF1 hb1)
  go_cut [7] from 16 to 104 (fun nv wx => nv = .int .i64 (N : Nat) ∧ FBlk w.heap.size wx ⟨c, p, n⟩ ∧ Below w.heap.size w wx)
  case first =>
    by_cases h2 : n = -2
    · subst h2
      have e2 : ((-2 : Int) == -2) = true := rfl
      rcases HCLS.out with h97 | h65 | h120 | ⟨htx, h97, h65, h120, hwd⟩ | ⟨htx, h120, h97, h65, hwd⟩
      · have y97 : ((c.toNat : Int) != 97) = false := byte_is' h97 rfl
        have y120 : ((c.toNat : Int) == 120) = false := byte_ne 120 (show c ≠ 120 from by rw [h97]; decide) rfl
        have htx : textL c = true := by rw [h97]; decide
        have hwd : widthL c = 0 := by rw [h97]; decide
        have HN2 := hid (show N = s.length by rw [HN.out]; unfold cntU; dsimp only; rw [if_pos rfl, if_neg (by rw [h97]; decide), if_neg (by rw [h97]; decide), hwd]; exact Nat.div_one _)
        have HWD := hid (show ∀ u, Calls Tryz.prog 121 #[.agg #[.int .u8 (c.toNat : Nat), .bool p, .int .i64 (-2)]] u fun e w' => e = .returned (.int .i64 0) ∧ Below u.heap.size u w' from fun u => by have h := width_fn c p (-2) u; rw [hwd] at h; exact h)
        have HTX := hid (show ∀ u, Calls Tryz.prog 122 #[.agg #[.int .u8 (c.toNat : Nat), .bool p, .int .i64 (-2)]] u fun e w' => e = .returned (.bool true) ∧ Below u.heap.size u w' from fun u => by have h := text_fn c p (-2) u; rw [htx] at h; exact h)
        clear htx hwd h97
        go_wp2_with (first | ((with_reducible refine (HWD.out _).mono ?_); rintro e w2 ⟨rfl, hb2⟩; have hF2 := HF1.out.on hb2; have g0 := hF2.c0; have g1 := hF2.c1; have g2 := hF2.c2; have HF2 := hid hF2; have HB2 := hid (HB1.out.trans (hb2.mono HB1.out.size)); clear hF2 hb2) | ((with_reducible refine (HTX.out _).mono ?_); rintro e w3 ⟨rfl, hb3⟩; have hF3 := HF2.out.on hb3; have k0 := hF3.c0; have k1 := hF3.c1; have k2 := hF3.c2; have HF3 := hid hF3; have HB3 := hid (HB2.out.trans (hb3.mono HB2.out.size)); clear hF3 hb3))
        go_meet
        case rel => exact ⟨congrArg (Value.int .i64) (by have := HN2.out; (try rw [show max (1 : Int) 8 = 8 from by decide]); (try rw [show max (1 : Int) (8 * 8) = 64 from by decide]); (try rw [show max (1 : Int) (8 * max 1 0) = 8 from by decide]); (try rw [show max (1 : Int) (8 * max 1 2) = 16 from by decide]); (try rw [show max (1 : Int) (8 * max 1 4) = 32 from by decide]); (try rw [show max (1 : Int) (8 * max 1 8) = 64 from by decide]); omega), HF3.out, HB3.out⟩
      · have y97 : ((c.toNat : Int) != 97) = true := byte_ne' 97 (show c ≠ 97 from by rw [h65]; decide) rfl
        have y65 : ((c.toNat : Int) != 65) = false := byte_is' h65 rfl
        have y120 : ((c.toNat : Int) == 120) = false := byte_ne 120 (show c ≠ 120 from by rw [h65]; decide) rfl
        have htx : textL c = true := by rw [h65]; decide
        have hwd : widthL c = 0 := by rw [h65]; decide
        have HN2 := hid (show N = s.length by rw [HN.out]; unfold cntU; dsimp only; rw [if_pos rfl, if_neg (by rw [h65]; decide), if_neg (by rw [h65]; decide), hwd]; exact Nat.div_one _)
        have HWD := hid (show ∀ u, Calls Tryz.prog 121 #[.agg #[.int .u8 (c.toNat : Nat), .bool p, .int .i64 (-2)]] u fun e w' => e = .returned (.int .i64 0) ∧ Below u.heap.size u w' from fun u => by have h := width_fn c p (-2) u; rw [hwd] at h; exact h)
        have HTX := hid (show ∀ u, Calls Tryz.prog 122 #[.agg #[.int .u8 (c.toNat : Nat), .bool p, .int .i64 (-2)]] u fun e w' => e = .returned (.bool true) ∧ Below u.heap.size u w' from fun u => by have h := text_fn c p (-2) u; rw [htx] at h; exact h)
        clear htx hwd h65
        go_wp2_with (first | ((with_reducible refine (HWD.out _).mono ?_); rintro e w2 ⟨rfl, hb2⟩; have hF2 := HF1.out.on hb2; have g0 := hF2.c0; have g1 := hF2.c1; have g2 := hF2.c2; have HF2 := hid hF2; have HB2 := hid (HB1.out.trans (hb2.mono HB1.out.size)); clear hF2 hb2) | ((with_reducible refine (HTX.out _).mono ?_); rintro e w3 ⟨rfl, hb3⟩; have hF3 := HF2.out.on hb3; have k0 := hF3.c0; have k1 := hF3.c1; have k2 := hF3.c2; have HF3 := hid hF3; have HB3 := hid (HB2.out.trans (hb3.mono HB2.out.size)); clear hF3 hb3))
        go_meet
        case rel => exact ⟨congrArg (Value.int .i64) (by have := HN2.out; (try rw [show max (1 : Int) 8 = 8 from by decide]); (try rw [show max (1 : Int) (8 * 8) = 64 from by decide]); (try rw [show max (1 : Int) (8 * max 1 0) = 8 from by decide]); (try rw [show max (1 : Int) (8 * max 1 2) = 16 from by decide]); (try rw [show max (1 : Int) (8 * max 1 4) = 32 from by decide]); (try rw [show max (1 : Int) (8 * max 1 8) = 64 from by decide]); omega), HF3.out, HB3.out⟩
      · have y120 : ((c.toNat : Int) == 120) = true := byte_is h120 rfl
        have htx : textL c = false := by rw [h120]; decide
        have hwd : widthL c = 0 := by rw [h120]; decide
        have HN2 := hid (show N = 1 by rw [HN.out]; unfold cntU; dsimp only; rw [if_pos rfl, if_pos (by rw [h120]; rfl)])
        have HWD := hid (show ∀ u, Calls Tryz.prog 121 #[.agg #[.int .u8 (c.toNat : Nat), .bool p, .int .i64 (-2)]] u fun e w' => e = .returned (.int .i64 0) ∧ Below u.heap.size u w' from fun u => by have h := width_fn c p (-2) u; rw [hwd] at h; exact h)
        have HTX := hid (show ∀ u, Calls Tryz.prog 122 #[.agg #[.int .u8 (c.toNat : Nat), .bool p, .int .i64 (-2)]] u fun e w' => e = .returned (.bool false) ∧ Below u.heap.size u w' from fun u => by have h := text_fn c p (-2) u; rw [htx] at h; exact h)
        clear htx hwd h120
        go_wp2_with (first | ((with_reducible refine (HWD.out _).mono ?_); rintro e w2 ⟨rfl, hb2⟩; have hF2 := HF1.out.on hb2; have g0 := hF2.c0; have g1 := hF2.c1; have g2 := hF2.c2; have HF2 := hid hF2; have HB2 := hid (HB1.out.trans (hb2.mono HB1.out.size)); clear hF2 hb2) | ((with_reducible refine (HTX.out _).mono ?_); rintro e w3 ⟨rfl, hb3⟩; have hF3 := HF2.out.on hb3; have k0 := hF3.c0; have k1 := hF3.c1; have k2 := hF3.c2; have HF3 := hid hF3; have HB3 := hid (HB2.out.trans (hb3.mono HB2.out.size)); clear hF3 hb3))
        go_meet
        case rel => exact ⟨congrArg (Value.int .i64) (by have := HN2.out; (try rw [show max (1 : Int) 8 = 8 from by decide]); (try rw [show max (1 : Int) (8 * 8) = 64 from by decide]); (try rw [show max (1 : Int) (8 * max 1 0) = 8 from by decide]); (try rw [show max (1 : Int) (8 * max 1 2) = 16 from by decide]); (try rw [show max (1 : Int) (8 * max 1 4) = 32 from by decide]); (try rw [show max (1 : Int) (8 * max 1 8) = 64 from by decide]); omega), HF3.out, HB3.out⟩
      · rcases bitsL_cases c with hbt | hbt
        · have y97 := byte_ne' 97 h97 rfl
          have y65 := byte_ne' 65 h65 rfl
          have y120 := byte_ne 120 h120 rfl
          have HN2 := hid (show N = s.length * 8 / 1 by rw [HN.out]; unfold cntU; dsimp only; rw [if_pos rfl, if_neg (by simpa using h120), if_pos (by rw [htx]; simp [h97, h65]), hbt])
          have HWD := hid (show ∀ u, Calls Tryz.prog 121 #[.agg #[.int .u8 (c.toNat : Nat), .bool p, .int .i64 (-2)]] u fun e w' => e = .returned (.int .i64 0) ∧ Below u.heap.size u w' from fun u => by have h := width_fn c p (-2) u; rw [hwd] at h; exact h)
          have HTX := hid (show ∀ u, Calls Tryz.prog 122 #[.agg #[.int .u8 (c.toNat : Nat), .bool p, .int .i64 (-2)]] u fun e w' => e = .returned (.bool true) ∧ Below u.heap.size u w' from fun u => by have h := text_fn c p (-2) u; rw [htx] at h; exact h)
          have HDG := hid (show ∀ u, Calls Tryz.prog 125 #[.int .u8 (c.toNat : Nat)] u fun e w' => e = .returned (.int .i64 1) ∧ w' = u from fun u => by have h := digitsOf_fn c u; rw [hbt] at h; exact h)
          clear htx h97 h65 h120 hwd hbt
          go_wp2_with (first | ((with_reducible refine (HWD.out _).mono ?_); rintro e w2 ⟨rfl, hb2⟩; have hF2 := HF1.out.on hb2; have g0 := hF2.c0; have g1 := hF2.c1; have g2 := hF2.c2; have HF2 := hid hF2; have HB2 := hid (HB1.out.trans (hb2.mono HB1.out.size)); clear hF2 hb2) | ((with_reducible refine (HTX.out _).mono ?_); rintro e w3 ⟨rfl, hb3⟩; have hF3 := HF2.out.on hb3; have k0 := hF3.c0; have k1 := hF3.c1; have k2 := hF3.c2; have HF3 := hid hF3; have HB3 := hid (HB2.out.trans (hb3.mono HB2.out.size)); clear hF3 hb3) | ((with_reducible refine (HDG.out _).mono ?_); rintro e w3 ⟨rfl, rfl⟩))
          go_meet
          case rel => exact ⟨congrArg (Value.int .i64) (by have := HN2.out; (try rw [show max (1 : Int) 8 = 8 from by decide]); (try rw [show max (1 : Int) (8 * 8) = 64 from by decide]); (try rw [show max (1 : Int) (8 * max 1 0) = 8 from by decide]); (try rw [show max (1 : Int) (8 * max 1 2) = 16 from by decide]); (try rw [show max (1 : Int) (8 * max 1 4) = 32 from by decide]); (try rw [show max (1 : Int) (8 * max 1 8) = 64 from by decide]); omega), HF3.out, HB3.out⟩
        · have y97 := byte_ne' 97 h97 rfl
          have y65 := byte_ne' 65 h65 rfl
          have y120 := byte_ne 120 h120 rfl
          have HN2 := hid (show N = s.length * 8 / 4 by rw [HN.out]; unfold cntU; dsimp only; rw [if_pos rfl, if_neg (by simpa using h120), if_pos (by rw [htx]; simp [h97, h65]), hbt])
          have HWD := hid (show ∀ u, Calls Tryz.prog 121 #[.agg #[.int .u8 (c.toNat : Nat), .bool p, .int .i64 (-2)]] u fun e w' => e = .returned (.int .i64 0) ∧ Below u.heap.size u w' from fun u => by have h := width_fn c p (-2) u; rw [hwd] at h; exact h)
          have HTX := hid (show ∀ u, Calls Tryz.prog 122 #[.agg #[.int .u8 (c.toNat : Nat), .bool p, .int .i64 (-2)]] u fun e w' => e = .returned (.bool true) ∧ Below u.heap.size u w' from fun u => by have h := text_fn c p (-2) u; rw [htx] at h; exact h)
          have HDG := hid (show ∀ u, Calls Tryz.prog 125 #[.int .u8 (c.toNat : Nat)] u fun e w' => e = .returned (.int .i64 4) ∧ w' = u from fun u => by have h := digitsOf_fn c u; rw [hbt] at h; exact h)
          clear htx h97 h65 h120 hwd hbt
          go_wp2_with (first | ((with_reducible refine (HWD.out _).mono ?_); rintro e w2 ⟨rfl, hb2⟩; have hF2 := HF1.out.on hb2; have g0 := hF2.c0; have g1 := hF2.c1; have g2 := hF2.c2; have HF2 := hid hF2; have HB2 := hid (HB1.out.trans (hb2.mono HB1.out.size)); clear hF2 hb2) | ((with_reducible refine (HTX.out _).mono ?_); rintro e w3 ⟨rfl, hb3⟩; have hF3 := HF2.out.on hb3; have k0 := hF3.c0; have k1 := hF3.c1; have k2 := hF3.c2; have HF3 := hid hF3; have HB3 := hid (HB2.out.trans (hb3.mono HB2.out.size)); clear hF3 hb3) | ((with_reducible refine (HDG.out _).mono ?_); rintro e w3 ⟨rfl, rfl⟩))
          go_meet
          case rel => exact ⟨congrArg (Value.int .i64) (by have := HN2.out; (try rw [show max (1 : Int) 8 = 8 from by decide]); (try rw [show max (1 : Int) (8 * 8) = 64 from by decide]); (try rw [show max (1 : Int) (8 * max 1 0) = 8 from by decide]); (try rw [show max (1 : Int) (8 * max 1 2) = 16 from by decide]); (try rw [show max (1 : Int) (8 * max 1 4) = 32 from by decide]); (try rw [show max (1 : Int) (8 * max 1 8) = 64 from by decide]); omega), HF3.out, HB3.out⟩
      · rcases hwd with hwd | hwd | hwd | hwd
        · have y120 := byte_ne 120 h120 rfl
          have HN2 := hid (show N = s.length / 1 by rw [HN.out]; unfold cntU; dsimp only; rw [if_pos rfl, if_neg (by simpa using h120), if_neg (by rw [htx]; simp), hwd]; rfl)
          have HWD := hid (show ∀ u, Calls Tryz.prog 121 #[.agg #[.int .u8 (c.toNat : Nat), .bool p, .int .i64 (-2)]] u fun e w' => e = .returned (.int .i64 1) ∧ Below u.heap.size u w' from fun u => by have h := width_fn c p (-2) u; rw [hwd] at h; exact h)
          have HTX := hid (show ∀ u, Calls Tryz.prog 122 #[.agg #[.int .u8 (c.toNat : Nat), .bool p, .int .i64 (-2)]] u fun e w' => e = .returned (.bool false) ∧ Below u.heap.size u w' from fun u => by have h := text_fn c p (-2) u; rw [htx] at h; exact h)
          clear htx h97 h65 h120 hwd
          go_wp2_with (first | ((with_reducible refine (HWD.out _).mono ?_); rintro e w2 ⟨rfl, hb2⟩; have hF2 := HF1.out.on hb2; have g0 := hF2.c0; have g1 := hF2.c1; have g2 := hF2.c2; have HF2 := hid hF2; have HB2 := hid (HB1.out.trans (hb2.mono HB1.out.size)); clear hF2 hb2) | ((with_reducible refine (HTX.out _).mono ?_); rintro e w3 ⟨rfl, hb3⟩; have hF3 := HF2.out.on hb3; have k0 := hF3.c0; have k1 := hF3.c1; have k2 := hF3.c2; have HF3 := hid hF3; have HB3 := hid (HB2.out.trans (hb3.mono HB2.out.size)); clear hF3 hb3))
          go_meet
          case rel => exact ⟨congrArg (Value.int .i64) (by have := HN2.out; (try rw [show max (1 : Int) 8 = 8 from by decide]); (try rw [show max (1 : Int) (8 * 8) = 64 from by decide]); (try rw [show max (1 : Int) (8 * max 1 0) = 8 from by decide]); (try rw [show max (1 : Int) (8 * max 1 2) = 16 from by decide]); (try rw [show max (1 : Int) (8 * max 1 4) = 32 from by decide]); (try rw [show max (1 : Int) (8 * max 1 8) = 64 from by decide]); omega), HF3.out, HB3.out⟩
        · have y120 := byte_ne 120 h120 rfl
          have HN2 := hid (show N = s.length / 2 by rw [HN.out]; unfold cntU; dsimp only; rw [if_pos rfl, if_neg (by simpa using h120), if_neg (by rw [htx]; simp), hwd]; rfl)
          have HWD := hid (show ∀ u, Calls Tryz.prog 121 #[.agg #[.int .u8 (c.toNat : Nat), .bool p, .int .i64 (-2)]] u fun e w' => e = .returned (.int .i64 2) ∧ Below u.heap.size u w' from fun u => by have h := width_fn c p (-2) u; rw [hwd] at h; exact h)
          have HTX := hid (show ∀ u, Calls Tryz.prog 122 #[.agg #[.int .u8 (c.toNat : Nat), .bool p, .int .i64 (-2)]] u fun e w' => e = .returned (.bool false) ∧ Below u.heap.size u w' from fun u => by have h := text_fn c p (-2) u; rw [htx] at h; exact h)
          clear htx h97 h65 h120 hwd
          go_wp2_with (first | ((with_reducible refine (HWD.out _).mono ?_); rintro e w2 ⟨rfl, hb2⟩; have hF2 := HF1.out.on hb2; have g0 := hF2.c0; have g1 := hF2.c1; have g2 := hF2.c2; have HF2 := hid hF2; have HB2 := hid (HB1.out.trans (hb2.mono HB1.out.size)); clear hF2 hb2) | ((with_reducible refine (HTX.out _).mono ?_); rintro e w3 ⟨rfl, hb3⟩; have hF3 := HF2.out.on hb3; have k0 := hF3.c0; have k1 := hF3.c1; have k2 := hF3.c2; have HF3 := hid hF3; have HB3 := hid (HB2.out.trans (hb3.mono HB2.out.size)); clear hF3 hb3))
          go_meet
          case rel => exact ⟨congrArg (Value.int .i64) (by have := HN2.out; (try rw [show max (1 : Int) 8 = 8 from by decide]); (try rw [show max (1 : Int) (8 * 8) = 64 from by decide]); (try rw [show max (1 : Int) (8 * max 1 0) = 8 from by decide]); (try rw [show max (1 : Int) (8 * max 1 2) = 16 from by decide]); (try rw [show max (1 : Int) (8 * max 1 4) = 32 from by decide]); (try rw [show max (1 : Int) (8 * max 1 8) = 64 from by decide]); omega), HF3.out, HB3.out⟩
        · have y120 := byte_ne 120 h120 rfl
          have HN2 := hid (show N = s.length / 4 by rw [HN.out]; unfold cntU; dsimp only; rw [if_pos rfl, if_neg (by simpa using h120), if_neg (by rw [htx]; simp), hwd]; rfl)
          have HWD := hid (show ∀ u, Calls Tryz.prog 121 #[.agg #[.int .u8 (c.toNat : Nat), .bool p, .int .i64 (-2)]] u fun e w' => e = .returned (.int .i64 4) ∧ Below u.heap.size u w' from fun u => by have h := width_fn c p (-2) u; rw [hwd] at h; exact h)
          have HTX := hid (show ∀ u, Calls Tryz.prog 122 #[.agg #[.int .u8 (c.toNat : Nat), .bool p, .int .i64 (-2)]] u fun e w' => e = .returned (.bool false) ∧ Below u.heap.size u w' from fun u => by have h := text_fn c p (-2) u; rw [htx] at h; exact h)
          clear htx h97 h65 h120 hwd
          go_wp2_with (first | ((with_reducible refine (HWD.out _).mono ?_); rintro e w2 ⟨rfl, hb2⟩; have hF2 := HF1.out.on hb2; have g0 := hF2.c0; have g1 := hF2.c1; have g2 := hF2.c2; have HF2 := hid hF2; have HB2 := hid (HB1.out.trans (hb2.mono HB1.out.size)); clear hF2 hb2) | ((with_reducible refine (HTX.out _).mono ?_); rintro e w3 ⟨rfl, hb3⟩; have hF3 := HF2.out.on hb3; have k0 := hF3.c0; have k1 := hF3.c1; have k2 := hF3.c2; have HF3 := hid hF3; have HB3 := hid (HB2.out.trans (hb3.mono HB2.out.size)); clear hF3 hb3))
          go_meet
          case rel => exact ⟨congrArg (Value.int .i64) (by have := HN2.out; (try rw [show max (1 : Int) 8 = 8 from by decide]); (try rw [show max (1 : Int) (8 * 8) = 64 from by decide]); (try rw [show max (1 : Int) (8 * max 1 0) = 8 from by decide]); (try rw [show max (1 : Int) (8 * max 1 2) = 16 from by decide]); (try rw [show max (1 : Int) (8 * max 1 4) = 32 from by decide]); (try rw [show max (1 : Int) (8 * max 1 8) = 64 from by decide]); omega), HF3.out, HB3.out⟩
        · have y120 := byte_ne 120 h120 rfl
          have HN2 := hid (show N = s.length / 8 by rw [HN.out]; unfold cntU; dsimp only; rw [if_pos rfl, if_neg (by simpa using h120), if_neg (by rw [htx]; simp), hwd]; rfl)
          have HWD := hid (show ∀ u, Calls Tryz.prog 121 #[.agg #[.int .u8 (c.toNat : Nat), .bool p, .int .i64 (-2)]] u fun e w' => e = .returned (.int .i64 8) ∧ Below u.heap.size u w' from fun u => by have h := width_fn c p (-2) u; rw [hwd] at h; exact h)
          have HTX := hid (show ∀ u, Calls Tryz.prog 122 #[.agg #[.int .u8 (c.toNat : Nat), .bool p, .int .i64 (-2)]] u fun e w' => e = .returned (.bool false) ∧ Below u.heap.size u w' from fun u => by have h := text_fn c p (-2) u; rw [htx] at h; exact h)
          clear htx h97 h65 h120 hwd
          go_wp2_with (first | ((with_reducible refine (HWD.out _).mono ?_); rintro e w2 ⟨rfl, hb2⟩; have hF2 := HF1.out.on hb2; have g0 := hF2.c0; have g1 := hF2.c1; have g2 := hF2.c2; have HF2 := hid hF2; have HB2 := hid (HB1.out.trans (hb2.mono HB1.out.size)); clear hF2 hb2) | ((with_reducible refine (HTX.out _).mono ?_); rintro e w3 ⟨rfl, hb3⟩; have hF3 := HF2.out.on hb3; have k0 := hF3.c0; have k1 := hF3.c1; have k2 := hF3.c2; have HF3 := hid hF3; have HB3 := hid (HB2.out.trans (hb3.mono HB2.out.size)); clear hF3 hb3))
          go_meet
          case rel => exact ⟨congrArg (Value.int .i64) (by have := HN2.out; (try rw [show max (1 : Int) 8 = 8 from by decide]); (try rw [show max (1 : Int) (8 * 8) = 64 from by decide]); (try rw [show max (1 : Int) (8 * max 1 0) = 8 from by decide]); (try rw [show max (1 : Int) (8 * max 1 2) = 16 from by decide]); (try rw [show max (1 : Int) (8 * max 1 4) = 32 from by decide]); (try rw [show max (1 : Int) (8 * max 1 8) = 64 from by decide]); omega), HF3.out, HB3.out⟩
    · have e2 : (n == -2) = false := by simpa using h2
      have HN2 := hid (show N = oneC ⟨c, p, n⟩ by rw [HN.out]; unfold cntU; rw [if_neg h2])
      go_wp2
      go_meet
      case rel => exact ⟨by rw [HN2.out], HF1.out, HB1.out⟩
  obtain ⟨rfl, hF2, hB2⟩ := hcut
  clear HF1 HB1 d0 d1 d2 HF0 HB0 HONE c0 c1 c2
  have c0 := hF2.c0
  have c1 := hF2.c1
  have c2 := hF2.c2
  obtain ⟨M, hM⟩ : ∃ M, M = lenL c N := ⟨_, rfl⟩
  have hMb : M ≤ 10000000 := by rw [hM]; exact lenL_le c N (by omega)
  have hlen := fun u => length_fn c p n N (by omega) u
  rw [← hM] at hlen
  have HLEN := hid hlen
  have HM := hid hM
  have HF2 := hid hF2
  have HB2 := hid hB2
  clear hF2 hB2 hlen hM
  by_cases hbig : s.length < M
  · have hbI : (s.length : Int) < (M : Int) := by omega
    have HRR := hid (show unpkR ⟨c, p, n⟩ s = ([], 0, false) by unfold unpkR; rw [← HN.out, ← HM.out, if_pos hbig])
    go_wp2_with ((with_reducible refine (HLEN.out _).mono ?_); rintro e w3 ⟨rfl, hb3⟩; have HB3 := hid (HB2.out.trans (hb3.mono HB2.out.size)); clear hb3)
    go_ret3
    exact ⟨by rw [HRR.out]; rfl, HB3.out⟩
  have hbI : ¬ ((s.length : Int) < (M : Int)) := by omega
  have hext : (⟨s.toArray⟩ : ByteArray).extract 0 M = ⟨(s.take M).toArray⟩ := by rw [Lib.extract_mk]; simp
  have hMs : (M : Int) ≤ (s.length : Int) := by omega
  obtain ⟨t, ht⟩ : ∃ t, t = s.take M := ⟨_, rfl⟩
  rw [← ht] at hext
  have htl : t.length = M := by rw [ht, List.length_take]; omega
  have htz : (⟨t.toArray⟩ : ByteArray).size = t.length := Lib.size_mk _
  have HRR := hid (show unpkR ⟨c, p, n⟩ s = (toldE ⟨c, p, n⟩ N t, M, true) by unfold unpkR; rw [← HN.out, ← HM.out, if_neg hbig, ← ht])
  rw [htl] at htz
  have HTL := hid htl
  clear hbig ht htl
  rcases HCLS.out with h97 | h65 | h120 | ⟨htx, h97, h65, h120, hwd⟩ | ⟨htx, h120, h97, h65, hwd⟩
  · have y97 : ((c.toNat : Int) == 97) = true := byte_is h97 rfl
    have HTD := hid (show toldE ⟨c, p, n⟩ N t = t by subst h97; rfl)
    clear h97
    go_wp2_with ((with_reducible refine (HLEN.out _).mono ?_); rintro e w3 ⟨rfl, hb3⟩; have hF3 := HF2.out.on hb3; have d0 := hF3.c0; have HB3 := hid (HB2.out.trans (hb3.mono HB2.out.size)); clear hF3 hb3)
    go_ret3
    exact ⟨by rw [HRR.out, HTD.out]; rfl, HB3.out⟩
  · have y97 : ((c.toNat : Int) == 97) = false := byte_ne 97 (show c ≠ 97 from by rw [h65]; decide) rfl
    have y120 : ((c.toNat : Int) == 120) = false := byte_ne 120 (show c ≠ 120 from by rw [h65]; decide) rfl
    have y65 : ((c.toNat : Int) == 65) = true := byte_is h65 rfl
    have HTD := hid (show toldE ⟨c, p, n⟩ N t = trimZ t by subst h65; rfl)
    have HTR := hid (fun u => trimR_fn t u (by have := HTL.out; omega))
    clear h65
    go_wp2_with (first | ((with_reducible refine (HLEN.out _).mono ?_); rintro e w3 ⟨rfl, hb3⟩; have hF3 := HF2.out.on hb3; have d0 := hF3.c0; have HB3 := hid (HB2.out.trans (hb3.mono HB2.out.size)); clear hF3 hb3) | ((with_reducible refine (HTR.out _).mono ?_); rintro e w4 ⟨rfl, hb4⟩; have HB4 := hid (HB3.out.trans (hb4.mono HB3.out.size)); clear hb4))
    go_ret3
    exact ⟨by rw [HRR.out, HTD.out]; rfl, HB4.out⟩
  · have y97 : ((c.toNat : Int) == 97) = false := byte_ne 97 (show c ≠ 97 from by rw [h120]; decide) rfl
    have y120 : ((c.toNat : Int) == 120) = true := byte_is h120 rfl
    have HTD := hid (show toldE ⟨c, p, n⟩ N t = t by subst h120; rfl)
    clear h120
    go_wp2_with ((with_reducible refine (HLEN.out _).mono ?_); rintro e w3 ⟨rfl, hb3⟩; have hF3 := HF2.out.on hb3; have d0 := hF3.c0; have HB3 := hid (HB2.out.trans (hb3.mono HB2.out.size)); clear hF3 hb3)
    go_ret3
    exact ⟨by rw [HRR.out, HTD.out]; rfl, HB3.out⟩
  · have y97 := byte_ne 97 h97 rfl
    have y120 := byte_ne 120 h120 rfl
    have y65 := byte_ne 65 h65 rfl
    have HTD := hid (show toldE ⟨c, p, n⟩ N t = tellE c t N by
      unfold toldE
      rw [if_neg (by simp [h97, h120]), if_neg (by simpa using h65), if_pos htx])
    have HTX := hid (show ∀ u, Calls Tryz.prog 122 #[.agg #[.int .u8 (c.toNat : Nat), .bool p, .int .i64 n]] u fun e w' => e = .returned (.bool true) ∧ Below u.heap.size u w' from fun u => by have h := text_fn c p n u; rw [htx] at h; exact h)
    have HDG := hid (fun u => digits_fn c p n t (by have := HTL.out; omega) N (by
      rw [HTL.out, HM.out]
      rcases bitsL_cases c with h | h
      · rw [h]; exact lenL_room1 h
      · rw [h]; exact lenL_room4 h htx h97 h65) hN8 u)
    clear htx h97 h65 h120 hwd
    go_wp2_with (first | ((with_reducible refine (HLEN.out _).mono ?_); rintro e w3 ⟨rfl, hb3⟩; have hF3 := HF2.out.on hb3; have d0 := hF3.c0; have d1 := hF3.c1; have d2 := hF3.c2; have HF3 := hid hF3; have HB3 := hid (HB2.out.trans (hb3.mono HB2.out.size)); clear hF3 hb3) | ((with_reducible refine (HTX.out _).mono ?_); rintro e w4 ⟨rfl, hb4⟩; have hF4 := HF3.out.on hb4; have x0 := hF4.c0; have x1 := hF4.c1; have x2 := hF4.c2; have HF4 := hid hF4; have HB4 := hid (HB3.out.trans (hb4.mono HB3.out.size)); clear hF4 hb4) | ((with_reducible refine (HDG.out _).mono ?_); rintro e w5 ⟨rfl, hb5⟩; have HB5 := hid (HB4.out.trans (hb5.mono HB4.out.size)); clear hb5))
    go_ret3
    exact ⟨by rw [HRR.out, HTD.out]; rfl, HB5.out⟩
  · have y97 := byte_ne 97 h97 rfl
    have y120 := byte_ne 120 h120 rfl
    have y65 := byte_ne 65 h65 rfl
    have HTX := hid (show ∀ u, Calls Tryz.prog 122 #[.agg #[.int .u8 (c.toNat : Nat), .bool p, .int .i64 n]] u fun e w' => e = .returned (.bool false) ∧ Below u.heap.size u w' from fun u => by have h := text_fn c p n u; rw [htx] at h; exact h)
    have HTD := hid (show toldE ⟨c, p, n⟩ N t = joinB (numsU c p (widthL c) t N) by
      unfold toldE
      rw [if_neg (by simp [h97, h120]), if_neg (by simpa using h65), if_neg (by rw [htx]; decide), numsU_all])
    have HML := hid (show M = widthL c * N by
      rw [HM.out]
      unfold lenL
      have g1 : ¬ ((c == 104 || c == 72) = true) := by
        intro h
        simp only [Bool.or_eq_true, beq_iff_eq] at h
        rcases h with rfl | rfl
        · exact absurd htx (by decide)
        · exact absurd htx (by decide)
      have g2 : ¬ ((c == 98 || c == 66) = true) := by
        intro h
        simp only [Bool.or_eq_true, beq_iff_eq] at h
        rcases h with rfl | rfl
        · exact absurd htx (by decide)
        · exact absurd htx (by decide)
      rw [if_neg g1, if_neg g2]
      congr 1
      omega)
    have HWF := hid (fun u => width_fn c p n u)
    have HNF := hid (fun (x : Str) (hx : x.length = 1 ∨ x.length = 2 ∨ x.length = 4 ∨ x.length = 8) u (hu : Tab u) => number_fn c p n x hx u hu)
    clear htx h97 h65 h120
    go_upto_block 3 with (first | ((with_reducible refine (HLEN.out _).mono ?_); rintro e w3 ⟨rfl, hb3⟩; have hF3 := HF2.out.on hb3; have d0 := hF3.c0; have d1 := hF3.c1; have d2 := hF3.c2; have HF3 := hid hF3; have HB3 := hid (HB2.out.trans (hb3.mono HB2.out.size)); clear hF3 hb3) | ((with_reducible refine (HTX.out _).mono ?_); rintro e w4 ⟨rfl, hb4⟩; have hF4 := HF3.out.on hb4; have HF4 := hid hF4; have HB4 := hid (HB3.out.trans (hb4.mono HB3.out.size)); clear hF4 hb4))
    clear y97 y120 y65 HTX HLEN d0 d1 d2 c0 c1 c2
    rcases hwd with hwd | hwd | hwd | hwd
    · rw [hwd] at HTD HML HWF
      have HWK := hid (show ∀ u, Calls Tryz.prog 121 #[.agg #[.int .u8 (c.toNat : Nat), .bool p, .int .i64 n]] u fun e w' => e = .returned (.int .i64 1) ∧ Below u.heap.size u w' from HWF.out)
      clear hwd HWF
      have HT4 := hid (HT.out.below HB4.out)
      go_wp2_with fail
      go_loopg [9, 10] M (fun k lv iv wr => ∃ (i o : Nat), o = 1 * i ∧ i ≤ N ∧ iv = .int .i64 (o : Nat) ∧ RowS w4.heap.size wr lv (numsU c p 1 t i) ∧ FBlk w.heap.size wr ⟨c, p, n⟩ ∧ Below w4.heap.size w4 wr ∧ k = M - o)
      case atStart => exact ⟨0, 0, rfl, Nat.zero_le _, rfl, RowS.nil _ _, HF4.out, Below.refl _ _, by omega⟩
      case round =>
        obtain ⟨i, o, hoe, hiN, rfl, hro, hF, hbl, hk⟩ := hrel
        replace hk := hk.symm
        subst hk
        have HOE := hid hoe
        have HRO := hid hro
        have HFF := hid hF
        have HBL := hid hbl
        obtain ⟨ao, co, he⟩ := hro.shape
        rw [numsU_len] at he
        subst he
        clear hoe hro hF hbl
        have hs4 := HBL.out.size
        rcases Nat.lt_or_ge i N with hlt | hge
        · have hoM : o + 1 ≤ M := by have := HOE.out; have := HML.out; omega
          have hltI : (o : Int) < (M : Int) := by omega
          have hc0 := HFF.out.c0
          have hc1 := HFF.out.c1
          have hc2 := HFF.out.c2
          obtain ⟨x, hx⟩ : ∃ x, x = (t.drop o).take 1 := ⟨_, rfl⟩
          have hxl : x.length = 1 := by rw [hx, List.length_take, List.length_drop, HTL.out]; omega
          have hext2 : (⟨t.toArray⟩ : ByteArray).extract o (o + 1) = ⟨x.toArray⟩ := by rw [Lib.extract_mk, hx, show o + 1 - o = 1 by omega]
          have hsn : numsU c p 1 t (i + 1) = numsU c p 1 t i ++ [numberE c p x] := by rw [numsU_snoc, hx, HOE.out]
          have HSN := hid hsn
          have HXL := hid hxl
          have HEXT := hid hext2
          clear hx hsn hxl hext2
          have S0 : Hid ((fun u : World => u.cell? ⟨w.heap.size, 0, none⟩ = some (.int .u8 (c.toNat : Nat)) ∧ u.cell? ⟨w.heap.size, 1, none⟩ = some (.bool p) ∧ u.cell? ⟨w.heap.size, 2, none⟩ = some (.int .i64 n)) wr.drew) := hid ⟨hc0, hc1, hc2⟩
          clear hc0 hc1 hc2
          go_upto_region 22 with fail
          refine U_begin (late := fun k => decide (11 ≤ k)) (S := fun u : World => u.cell? ⟨w.heap.size, 0, none⟩ = some (.int .u8 (c.toNat : Nat)) ∧ u.cell? ⟨w.heap.size, 1, none⟩ = some (.bool p) ∧ u.cell? ⟨w.heap.size, 2, none⟩ = some (.int .i64 n)) (by kernel_rfl) ?_
          refine U_take2 8 (i := 0) (v := .slice ao i co) rfl (by kernel_rfl) (by kernel_rfl) (by kernel_rfl) (by kernel_rfl) (by kernel_rfl) (fun _ _ _ h => h) (.inl ⟨rfl, fun u hu => (by go_simp)⟩) S0.out ?_
          refine U_take2 8 (i := 1) (v := .agg #[.int .u8 (c.toNat : Nat), .bool p, .int .i64 n]) rfl (by kernel_rfl) (by kernel_rfl) (by kernel_rfl) (by kernel_rfl) (by kernel_rfl) (fun _ _ _ h => h) (.inl ⟨rfl, fun u hu => (by obtain ⟨h1, h2, h3⟩ := hu; go_simp)⟩) S0.out ?_
          refine U_take2 8 (i := 2) (v := .string ⟨t.toArray⟩) rfl (by kernel_rfl) (by kernel_rfl) (by kernel_rfl) (by kernel_rfl) (by kernel_rfl) (fun _ _ _ h => h) (.inl ⟨rfl, fun u hu => (by go_simp)⟩) S0.out ?_
          refine U_take2 8 (i := 3) (v := .int .i64 (o : Nat)) rfl (by kernel_rfl) (by kernel_rfl) (by kernel_rfl) (by kernel_rfl) (by kernel_rfl) (fun _ _ _ h => h) (.inl ⟨rfl, fun u hu => (by go_simp)⟩) S0.out ?_
          refine U_take2 8 (i := 4) (v := .int .i64 (o : Nat)) rfl (by kernel_rfl) (by kernel_rfl) (by kernel_rfl) (by kernel_rfl) (by kernel_rfl) (fun _ _ _ h => h) (.inl ⟨rfl, fun u hu => (by go_simp)⟩) S0.out ?_
          refine U_take2 8 (i := 5) (v := .agg #[.int .u8 (c.toNat : Nat), .bool p, .int .i64 n]) rfl (by kernel_rfl) (by kernel_rfl) (by kernel_rfl) (by kernel_rfl) (by kernel_rfl) (fun _ _ _ h => h) (.inl ⟨rfl, fun u hu => (by obtain ⟨h1, h2, h3⟩ := hu; go_simp)⟩) S0.out ?_
          refine U_step (j := 6) (by kernel_rfl) rfl (fun K hK => ?_)
          go_simp
          (with_reducible refine (HWK.out _).mono ?_); rintro e w6 ⟨rfl, hb6⟩
          have HB6 := hid (show Below wr.heap.size wr w6 from (Below.refl _ wr).drew.trans hb6)
          have hF6 := HFF.out.on HB6.out
          have S6 : Hid ((fun u : World => u.cell? ⟨w.heap.size, 0, none⟩ = some (.int .u8 (c.toNat : Nat)) ∧ u.cell? ⟨w.heap.size, 1, none⟩ = some (.bool p) ∧ u.cell? ⟨w.heap.size, 2, none⟩ = some (.int .i64 n)) w6) := hid ⟨hF6.c0, hF6.c1, hF6.c2⟩
          refine hK.out _ _ (.inr S6.out) ?_
          clear hK K S0 hb6
          have HF6 := hid hF6
          clear hF6
          refine U_take2 8 (i := 7) (v := .int .i64 ((o : Int) + 1)) rfl (by kernel_rfl) (by kernel_rfl) (by kernel_rfl) (by kernel_rfl) (by kernel_rfl) (fun _ _ _ h => h) (.inl ⟨rfl, fun u hu => (by go_simp <;> exact IntWalk.i64_in _ (by omega))⟩) S6.out ?_
          refine U_take2 8 (i := 8) (v := .string ⟨x.toArray⟩) rfl (by kernel_rfl) (by kernel_rfl) (by kernel_rfl) (by kernel_rfl) (by kernel_rfl) (fun _ _ _ h => h) (.inl ⟨rfl, fun u hu => (by go_simp <;> (try rw [if_pos ⟨by omega, by omega⟩]) <;> (try rw [show ((o : Int) + 1).toNat = o + 1 by omega]) <;> (try rw [HEXT.out]) <;> (try rw [if_pos (show (o : Int) ≤ (o : Int) + 1 by omega)]) <;> (try rw [HEXT.out]))⟩) S6.out ?_
          refine U_step (j := 9) (by kernel_rfl) rfl (fun K hK => ?_)
          go_simp
          (with_reducible refine (HNF.out x (by have := HXL.out; omega) _ ((HT4.out.below (HBL.out.trans (HB6.out.mono hs4)))) ).mono ?_); rintro e w7 ⟨rfl, hb7⟩
          have HB7 := hid (show Below wr.heap.size wr w7 from HB6.out.trans (hb7.mono HB6.out.size))
          have hF7 := HFF.out.on HB7.out
          have S7 : Hid ((fun u : World => u.cell? ⟨w.heap.size, 0, none⟩ = some (.int .u8 (c.toNat : Nat)) ∧ u.cell? ⟨w.heap.size, 1, none⟩ = some (.bool p) ∧ u.cell? ⟨w.heap.size, 2, none⟩ = some (.int .i64 n)) w7) := hid ⟨hF7.c0, hF7.c1, hF7.c2⟩
          refine hK.out _ _ (.inr S7.out) ?_
          clear hK K S6 hb7
          have HF7 := hid hF7
          clear hF7
          refine U_step (j := 10) (by kernel_rfl) rfl (fun K hK => ?_)
          go_simp
          have hF8 := HF7.out.on (belowA w7 (.cells #[.string ⟨(numberE c p x).toArray⟩] 9))
          refine hK.out _ _ (.inr ⟨hF8.c0, hF8.c1, hF8.c2⟩) ?_
          clear hK K hF8
          refine U_step (j := 11) (by kernel_rfl) rfl (fun K hK => ?_)
          rw [if_pos (show Region.wanted _ _ = true by simp [Region.wanted])]
          have hsw : w4.heap.size ≤ w7.heap.size := Nat.le_trans hs4 HB7.out.size
          refine app_one_op (w := w7) (.tmp 90) (.tmp 100) rfl w4.heap.size (.slice ao i co) (numsU c p 1 t i) (numberE c p x) rfl (HRO.out.on HB7.out) rfl (by rw [numsU_len]; omega) hsw ?_
          intro v9 w9 hr9 hg9
          refine hK.out _ _ (.inl rfl) ?_
          clear hK K S7
          have HR9 := hid hr9
          have HB9 := hid (show Below w4.heap.size w4 w9 from (HBL.out.trans (HB7.out.mono hs4)).grown hg9 hsw (fun k hk => (HRO.out.lt k hk).2))
          have HF9 := hid (HF4.out.on HB9.out)
          clear hr9 hg9
          refine U_step (j := 12) (by kernel_rfl) rfl (fun K hK => ?_)
          go_simp
          refine hK.out _ _ (.inl rfl) ?_
          clear hK K
          refine U_done (by kernel_rfl) ?_ _
          have x0 := HF9.out.c0
          have x1 := HF9.out.c1
          have x2 := HF9.out.c2
          go_wp2_with ((with_reducible refine (HWK.out _).mono ?_); rintro e wz ⟨rfl, hbz⟩; have HBZ := hid hbz; clear hbz)
          go_roundg (M - (o + 1))
          case measure => omega
          case rel => exact ⟨i + 1, o + 1, by have := HOE.out; omega, hlt, by go_num, by rw [HSN.out]; exact HR9.out.on HBZ.out, HF9.out.on HBZ.out, HB9.out.trans (HBZ.out.mono HB9.out.size), rfl⟩
        · obtain rfl : i = N := by omega
          have hoM : ¬ ((o : Int) < (M : Int)) := by have := HOE.out; have := HML.out; omega
          have HJ := hid (joinB_fn _ _ wr HRO.out.strs (Nat.le_trans (numsU_sum c p 1 (by decide) t i) (by omega)) (by rw [numsU_len]; omega))
          go_wp2_with (go_at_call 21; refine HJ.out.mono ?_; rintro e w8 ⟨rfl, hb8⟩; have HB8 := hid hb8; clear hb8)
          go_ret3
          exact ⟨by rw [HRR.out, HTD.out]; rfl, (HB4.out.trans (HBL.out.mono HB4.out.size)).trans (HB8.out.mono (Nat.le_trans HB4.out.size hs4))⟩
    · rw [hwd] at HTD HML HWF
      have HWK := hid (show ∀ u, Calls Tryz.prog 121 #[.agg #[.int .u8 (c.toNat : Nat), .bool p, .int .i64 n]] u fun e w' => e = .returned (.int .i64 2) ∧ Below u.heap.size u w' from HWF.out)
      clear hwd HWF
      have HT4 := hid (HT.out.below HB4.out)
      go_wp2_with fail
      go_loopg [9, 10] M (fun k lv iv wr => ∃ (i o : Nat), o = 2 * i ∧ i ≤ N ∧ iv = .int .i64 (o : Nat) ∧ RowS w4.heap.size wr lv (numsU c p 2 t i) ∧ FBlk w.heap.size wr ⟨c, p, n⟩ ∧ Below w4.heap.size w4 wr ∧ k = M - o)
      case atStart => exact ⟨0, 0, rfl, Nat.zero_le _, rfl, RowS.nil _ _, HF4.out, Below.refl _ _, by omega⟩
      case round =>
        obtain ⟨i, o, hoe, hiN, rfl, hro, hF, hbl, hk⟩ := hrel
        replace hk := hk.symm
        subst hk
        have HOE := hid hoe
        have HRO := hid hro
        have HFF := hid hF
        have HBL := hid hbl
        obtain ⟨ao, co, he⟩ := hro.shape
        rw [numsU_len] at he
        subst he
        clear hoe hro hF hbl
        have hs4 := HBL.out.size
        rcases Nat.lt_or_ge i N with hlt | hge
        · have hoM : o + 2 ≤ M := by have := HOE.out; have := HML.out; omega
          have hltI : (o : Int) < (M : Int) := by omega
          have hc0 := HFF.out.c0
          have hc1 := HFF.out.c1
          have hc2 := HFF.out.c2
          obtain ⟨x, hx⟩ : ∃ x, x = (t.drop o).take 2 := ⟨_, rfl⟩
          have hxl : x.length = 2 := by rw [hx, List.length_take, List.length_drop, HTL.out]; omega
          have hext2 : (⟨t.toArray⟩ : ByteArray).extract o (o + 2) = ⟨x.toArray⟩ := by rw [Lib.extract_mk, hx, show o + 2 - o = 2 by omega]
          have hsn : numsU c p 2 t (i + 1) = numsU c p 2 t i ++ [numberE c p x] := by rw [numsU_snoc, hx, HOE.out]
          have HSN := hid hsn
          have HXL := hid hxl
          have HEXT := hid hext2
          clear hx hsn hxl hext2
          have S0 : Hid ((fun u : World => u.cell? ⟨w.heap.size, 0, none⟩ = some (.int .u8 (c.toNat : Nat)) ∧ u.cell? ⟨w.heap.size, 1, none⟩ = some (.bool p) ∧ u.cell? ⟨w.heap.size, 2, none⟩ = some (.int .i64 n)) wr.drew) := hid ⟨hc0, hc1, hc2⟩
          clear hc0 hc1 hc2
          go_upto_region 22 with fail
          refine U_begin (late := fun k => decide (11 ≤ k)) (S := fun u : World => u.cell? ⟨w.heap.size, 0, none⟩ = some (.int .u8 (c.toNat : Nat)) ∧ u.cell? ⟨w.heap.size, 1, none⟩ = some (.bool p) ∧ u.cell? ⟨w.heap.size, 2, none⟩ = some (.int .i64 n)) (by kernel_rfl) ?_
          refine U_take2 8 (i := 0) (v := .slice ao i co) rfl (by kernel_rfl) (by kernel_rfl) (by kernel_rfl) (by kernel_rfl) (by kernel_rfl) (fun _ _ _ h => h) (.inl ⟨rfl, fun u hu => (by go_simp)⟩) S0.out ?_
          refine U_take2 8 (i := 1) (v := .agg #[.int .u8 (c.toNat : Nat), .bool p, .int .i64 n]) rfl (by kernel_rfl) (by kernel_rfl) (by kernel_rfl) (by kernel_rfl) (by kernel_rfl) (fun _ _ _ h => h) (.inl ⟨rfl, fun u hu => (by obtain ⟨h1, h2, h3⟩ := hu; go_simp)⟩) S0.out ?_
          refine U_take2 8 (i := 2) (v := .string ⟨t.toArray⟩) rfl (by kernel_rfl) (by kernel_rfl) (by kernel_rfl) (by kernel_rfl) (by kernel_rfl) (fun _ _ _ h => h) (.inl ⟨rfl, fun u hu => (by go_simp)⟩) S0.out ?_
          refine U_take2 8 (i := 3) (v := .int .i64 (o : Nat)) rfl (by kernel_rfl) (by kernel_rfl) (by kernel_rfl) (by kernel_rfl) (by kernel_rfl) (fun _ _ _ h => h) (.inl ⟨rfl, fun u hu => (by go_simp)⟩) S0.out ?_
          refine U_take2 8 (i := 4) (v := .int .i64 (o : Nat)) rfl (by kernel_rfl) (by kernel_rfl) (by kernel_rfl) (by kernel_rfl) (by kernel_rfl) (fun _ _ _ h => h) (.inl ⟨rfl, fun u hu => (by go_simp)⟩) S0.out ?_
          refine U_take2 8 (i := 5) (v := .agg #[.int .u8 (c.toNat : Nat), .bool p, .int .i64 n]) rfl (by kernel_rfl) (by kernel_rfl) (by kernel_rfl) (by kernel_rfl) (by kernel_rfl) (fun _ _ _ h => h) (.inl ⟨rfl, fun u hu => (by obtain ⟨h1, h2, h3⟩ := hu; go_simp)⟩) S0.out ?_
          refine U_step (j := 6) (by kernel_rfl) rfl (fun K hK => ?_)
          go_simp
          (with_reducible refine (HWK.out _).mono ?_); rintro e w6 ⟨rfl, hb6⟩
          have HB6 := hid (show Below wr.heap.size wr w6 from (Below.refl _ wr).drew.trans hb6)
          have hF6 := HFF.out.on HB6.out
          have S6 : Hid ((fun u : World => u.cell? ⟨w.heap.size, 0, none⟩ = some (.int .u8 (c.toNat : Nat)) ∧ u.cell? ⟨w.heap.size, 1, none⟩ = some (.bool p) ∧ u.cell? ⟨w.heap.size, 2, none⟩ = some (.int .i64 n)) w6) := hid ⟨hF6.c0, hF6.c1, hF6.c2⟩
          refine hK.out _ _ (.inr S6.out) ?_
          clear hK K S0 hb6
          have HF6 := hid hF6
          clear hF6
          refine U_take2 8 (i := 7) (v := .int .i64 ((o : Int) + 2)) rfl (by kernel_rfl) (by kernel_rfl) (by kernel_rfl) (by kernel_rfl) (by kernel_rfl) (fun _ _ _ h => h) (.inl ⟨rfl, fun u hu => (by go_simp <;> exact IntWalk.i64_in _ (by omega))⟩) S6.out ?_
          refine U_take2 8 (i := 8) (v := .string ⟨x.toArray⟩) rfl (by kernel_rfl) (by kernel_rfl) (by kernel_rfl) (by kernel_rfl) (by kernel_rfl) (fun _ _ _ h => h) (.inl ⟨rfl, fun u hu => (by go_simp <;> (try rw [if_pos ⟨by omega, by omega⟩]) <;> (try rw [show ((o : Int) + 2).toNat = o + 2 by omega]) <;> (try rw [HEXT.out]) <;> (try rw [if_pos (show (o : Int) ≤ (o : Int) + 2 by omega)]) <;> (try rw [HEXT.out]))⟩) S6.out ?_
          refine U_step (j := 9) (by kernel_rfl) rfl (fun K hK => ?_)
          go_simp
          (with_reducible refine (HNF.out x (by have := HXL.out; omega) _ ((HT4.out.below (HBL.out.trans (HB6.out.mono hs4)))) ).mono ?_); rintro e w7 ⟨rfl, hb7⟩
          have HB7 := hid (show Below wr.heap.size wr w7 from HB6.out.trans (hb7.mono HB6.out.size))
          have hF7 := HFF.out.on HB7.out
          have S7 : Hid ((fun u : World => u.cell? ⟨w.heap.size, 0, none⟩ = some (.int .u8 (c.toNat : Nat)) ∧ u.cell? ⟨w.heap.size, 1, none⟩ = some (.bool p) ∧ u.cell? ⟨w.heap.size, 2, none⟩ = some (.int .i64 n)) w7) := hid ⟨hF7.c0, hF7.c1, hF7.c2⟩
          refine hK.out _ _ (.inr S7.out) ?_
          clear hK K S6 hb7
          have HF7 := hid hF7
          clear hF7
          refine U_step (j := 10) (by kernel_rfl) rfl (fun K hK => ?_)
          go_simp
          have hF8 := HF7.out.on (belowA w7 (.cells #[.string ⟨(numberE c p x).toArray⟩] 9))
          refine hK.out _ _ (.inr ⟨hF8.c0, hF8.c1, hF8.c2⟩) ?_
          clear hK K hF8
          refine U_step (j := 11) (by kernel_rfl) rfl (fun K hK => ?_)
          rw [if_pos (show Region.wanted _ _ = true by simp [Region.wanted])]
          have hsw : w4.heap.size ≤ w7.heap.size := Nat.le_trans hs4 HB7.out.size
          refine app_one_op (w := w7) (.tmp 90) (.tmp 100) rfl w4.heap.size (.slice ao i co) (numsU c p 2 t i) (numberE c p x) rfl (HRO.out.on HB7.out) rfl (by rw [numsU_len]; omega) hsw ?_
          intro v9 w9 hr9 hg9
          refine hK.out _ _ (.inl rfl) ?_
          clear hK K S7
          have HR9 := hid hr9
          have HB9 := hid (show Below w4.heap.size w4 w9 from (HBL.out.trans (HB7.out.mono hs4)).grown hg9 hsw (fun k hk => (HRO.out.lt k hk).2))
          have HF9 := hid (HF4.out.on HB9.out)
          clear hr9 hg9
          refine U_step (j := 12) (by kernel_rfl) rfl (fun K hK => ?_)
          go_simp
          refine hK.out _ _ (.inl rfl) ?_
          clear hK K
          refine U_done (by kernel_rfl) ?_ _
          have x0 := HF9.out.c0
          have x1 := HF9.out.c1
          have x2 := HF9.out.c2
          go_wp2_with ((with_reducible refine (HWK.out _).mono ?_); rintro e wz ⟨rfl, hbz⟩; have HBZ := hid hbz; clear hbz)
          go_roundg (M - (o + 2))
          case measure => omega
          case rel => exact ⟨i + 1, o + 2, by have := HOE.out; omega, hlt, by go_num, by rw [HSN.out]; exact HR9.out.on HBZ.out, HF9.out.on HBZ.out, HB9.out.trans (HBZ.out.mono HB9.out.size), rfl⟩
        · obtain rfl : i = N := by omega
          have hoM : ¬ ((o : Int) < (M : Int)) := by have := HOE.out; have := HML.out; omega
          have HJ := hid (joinB_fn _ _ wr HRO.out.strs (Nat.le_trans (numsU_sum c p 2 (by decide) t i) (by omega)) (by rw [numsU_len]; omega))
          go_wp2_with (go_at_call 21; refine HJ.out.mono ?_; rintro e w8 ⟨rfl, hb8⟩; have HB8 := hid hb8; clear hb8)
          go_ret3
          exact ⟨by rw [HRR.out, HTD.out]; rfl, (HB4.out.trans (HBL.out.mono HB4.out.size)).trans (HB8.out.mono (Nat.le_trans HB4.out.size hs4))⟩
    · rw [hwd] at HTD HML HWF
      have HWK := hid (show ∀ u, Calls Tryz.prog 121 #[.agg #[.int .u8 (c.toNat : Nat), .bool p, .int .i64 n]] u fun e w' => e = .returned (.int .i64 4) ∧ Below u.heap.size u w' from HWF.out)
      clear hwd HWF
      have HT4 := hid (HT.out.below HB4.out)
      go_wp2_with fail
      go_loopg [9, 10] M (fun k lv iv wr => ∃ (i o : Nat), o = 4 * i ∧ i ≤ N ∧ iv = .int .i64 (o : Nat) ∧ RowS w4.heap.size wr lv (numsU c p 4 t i) ∧ FBlk w.heap.size wr ⟨c, p, n⟩ ∧ Below w4.heap.size w4 wr ∧ k = M - o)
      case atStart => exact ⟨0, 0, rfl, Nat.zero_le _, rfl, RowS.nil _ _, HF4.out, Below.refl _ _, by omega⟩
      case round =>
        obtain ⟨i, o, hoe, hiN, rfl, hro, hF, hbl, hk⟩ := hrel
        replace hk := hk.symm
        subst hk
        have HOE := hid hoe
        have HRO := hid hro
        have HFF := hid hF
        have HBL := hid hbl
        obtain ⟨ao, co, he⟩ := hro.shape
        rw [numsU_len] at he
        subst he
        clear hoe hro hF hbl
        have hs4 := HBL.out.size
        rcases Nat.lt_or_ge i N with hlt | hge
        · have hoM : o + 4 ≤ M := by have := HOE.out; have := HML.out; omega
          have hltI : (o : Int) < (M : Int) := by omega
          have hc0 := HFF.out.c0
          have hc1 := HFF.out.c1
          have hc2 := HFF.out.c2
          obtain ⟨x, hx⟩ : ∃ x, x = (t.drop o).take 4 := ⟨_, rfl⟩
          have hxl : x.length = 4 := by rw [hx, List.length_take, List.length_drop, HTL.out]; omega
          have hext2 : (⟨t.toArray⟩ : ByteArray).extract o (o + 4) = ⟨x.toArray⟩ := by rw [Lib.extract_mk, hx, show o + 4 - o = 4 by omega]
          have hsn : numsU c p 4 t (i + 1) = numsU c p 4 t i ++ [numberE c p x] := by rw [numsU_snoc, hx, HOE.out]
          have HSN := hid hsn
          have HXL := hid hxl
          have HEXT := hid hext2
          clear hx hsn hxl hext2
          have S0 : Hid ((fun u : World => u.cell? ⟨w.heap.size, 0, none⟩ = some (.int .u8 (c.toNat : Nat)) ∧ u.cell? ⟨w.heap.size, 1, none⟩ = some (.bool p) ∧ u.cell? ⟨w.heap.size, 2, none⟩ = some (.int .i64 n)) wr.drew) := hid ⟨hc0, hc1, hc2⟩
          clear hc0 hc1 hc2
          go_upto_region 22 with fail
          refine U_begin (late := fun k => decide (11 ≤ k)) (S := fun u : World => u.cell? ⟨w.heap.size, 0, none⟩ = some (.int .u8 (c.toNat : Nat)) ∧ u.cell? ⟨w.heap.size, 1, none⟩ = some (.bool p) ∧ u.cell? ⟨w.heap.size, 2, none⟩ = some (.int .i64 n)) (by kernel_rfl) ?_
          refine U_take2 8 (i := 0) (v := .slice ao i co) rfl (by kernel_rfl) (by kernel_rfl) (by kernel_rfl) (by kernel_rfl) (by kernel_rfl) (fun _ _ _ h => h) (.inl ⟨rfl, fun u hu => (by go_simp)⟩) S0.out ?_
          refine U_take2 8 (i := 1) (v := .agg #[.int .u8 (c.toNat : Nat), .bool p, .int .i64 n]) rfl (by kernel_rfl) (by kernel_rfl) (by kernel_rfl) (by kernel_rfl) (by kernel_rfl) (fun _ _ _ h => h) (.inl ⟨rfl, fun u hu => (by obtain ⟨h1, h2, h3⟩ := hu; go_simp)⟩) S0.out ?_
          refine U_take2 8 (i := 2) (v := .string ⟨t.toArray⟩) rfl (by kernel_rfl) (by kernel_rfl) (by kernel_rfl) (by kernel_rfl) (by kernel_rfl) (fun _ _ _ h => h) (.inl ⟨rfl, fun u hu => (by go_simp)⟩) S0.out ?_
          refine U_take2 8 (i := 3) (v := .int .i64 (o : Nat)) rfl (by kernel_rfl) (by kernel_rfl) (by kernel_rfl) (by kernel_rfl) (by kernel_rfl) (fun _ _ _ h => h) (.inl ⟨rfl, fun u hu => (by go_simp)⟩) S0.out ?_
          refine U_take2 8 (i := 4) (v := .int .i64 (o : Nat)) rfl (by kernel_rfl) (by kernel_rfl) (by kernel_rfl) (by kernel_rfl) (by kernel_rfl) (fun _ _ _ h => h) (.inl ⟨rfl, fun u hu => (by go_simp)⟩) S0.out ?_
          refine U_take2 8 (i := 5) (v := .agg #[.int .u8 (c.toNat : Nat), .bool p, .int .i64 n]) rfl (by kernel_rfl) (by kernel_rfl) (by kernel_rfl) (by kernel_rfl) (by kernel_rfl) (fun _ _ _ h => h) (.inl ⟨rfl, fun u hu => (by obtain ⟨h1, h2, h3⟩ := hu; go_simp)⟩) S0.out ?_
          refine U_step (j := 6) (by kernel_rfl) rfl (fun K hK => ?_)
          go_simp
          (with_reducible refine (HWK.out _).mono ?_); rintro e w6 ⟨rfl, hb6⟩
          have HB6 := hid (show Below wr.heap.size wr w6 from (Below.refl _ wr).drew.trans hb6)
          have hF6 := HFF.out.on HB6.out
          have S6 : Hid ((fun u : World => u.cell? ⟨w.heap.size, 0, none⟩ = some (.int .u8 (c.toNat : Nat)) ∧ u.cell? ⟨w.heap.size, 1, none⟩ = some (.bool p) ∧ u.cell? ⟨w.heap.size, 2, none⟩ = some (.int .i64 n)) w6) := hid ⟨hF6.c0, hF6.c1, hF6.c2⟩
          refine hK.out _ _ (.inr S6.out) ?_
          clear hK K S0 hb6
          have HF6 := hid hF6
          clear hF6
          refine U_take2 8 (i := 7) (v := .int .i64 ((o : Int) + 4)) rfl (by kernel_rfl) (by kernel_rfl) (by kernel_rfl) (by kernel_rfl) (by kernel_rfl) (fun _ _ _ h => h) (.inl ⟨rfl, fun u hu => (by go_simp <;> exact IntWalk.i64_in _ (by omega))⟩) S6.out ?_
          refine U_take2 8 (i := 8) (v := .string ⟨x.toArray⟩) rfl (by kernel_rfl) (by kernel_rfl) (by kernel_rfl) (by kernel_rfl) (by kernel_rfl) (fun _ _ _ h => h) (.inl ⟨rfl, fun u hu => (by go_simp <;> (try rw [if_pos ⟨by omega, by omega⟩]) <;> (try rw [show ((o : Int) + 4).toNat = o + 4 by omega]) <;> (try rw [HEXT.out]) <;> (try rw [if_pos (show (o : Int) ≤ (o : Int) + 4 by omega)]) <;> (try rw [HEXT.out]))⟩) S6.out ?_
          refine U_step (j := 9) (by kernel_rfl) rfl (fun K hK => ?_)
          go_simp
          (with_reducible refine (HNF.out x (by have := HXL.out; omega) _ ((HT4.out.below (HBL.out.trans (HB6.out.mono hs4)))) ).mono ?_); rintro e w7 ⟨rfl, hb7⟩
          have HB7 := hid (show Below wr.heap.size wr w7 from HB6.out.trans (hb7.mono HB6.out.size))
          have hF7 := HFF.out.on HB7.out
          have S7 : Hid ((fun u : World => u.cell? ⟨w.heap.size, 0, none⟩ = some (.int .u8 (c.toNat : Nat)) ∧ u.cell? ⟨w.heap.size, 1, none⟩ = some (.bool p) ∧ u.cell? ⟨w.heap.size, 2, none⟩ = some (.int .i64 n)) w7) := hid ⟨hF7.c0, hF7.c1, hF7.c2⟩
          refine hK.out _ _ (.inr S7.out) ?_
          clear hK K S6 hb7
          have HF7 := hid hF7
          clear hF7
          refine U_step (j := 10) (by kernel_rfl) rfl (fun K hK => ?_)
          go_simp
          have hF8 := HF7.out.on (belowA w7 (.cells #[.string ⟨(numberE c p x).toArray⟩] 9))
          refine hK.out _ _ (.inr ⟨hF8.c0, hF8.c1, hF8.c2⟩) ?_
          clear hK K hF8
          refine U_step (j := 11) (by kernel_rfl) rfl (fun K hK => ?_)
          rw [if_pos (show Region.wanted _ _ = true by simp [Region.wanted])]
          have hsw : w4.heap.size ≤ w7.heap.size := Nat.le_trans hs4 HB7.out.size
          refine app_one_op (w := w7) (.tmp 90) (.tmp 100) rfl w4.heap.size (.slice ao i co) (numsU c p 4 t i) (numberE c p x) rfl (HRO.out.on HB7.out) rfl (by rw [numsU_len]; omega) hsw ?_
          intro v9 w9 hr9 hg9
          refine hK.out _ _ (.inl rfl) ?_
          clear hK K S7
          have HR9 := hid hr9
          have HB9 := hid (show Below w4.heap.size w4 w9 from (HBL.out.trans (HB7.out.mono hs4)).grown hg9 hsw (fun k hk => (HRO.out.lt k hk).2))
          have HF9 := hid (HF4.out.on HB9.out)
          clear hr9 hg9
          refine U_step (j := 12) (by kernel_rfl) rfl (fun K hK => ?_)
          go_simp
          refine hK.out _ _ (.inl rfl) ?_
          clear hK K
          refine U_done (by kernel_rfl) ?_ _
          have x0 := HF9.out.c0
          have x1 := HF9.out.c1
          have x2 := HF9.out.c2
          go_wp2_with ((with_reducible refine (HWK.out _).mono ?_); rintro e wz ⟨rfl, hbz⟩; have HBZ := hid hbz; clear hbz)
          go_roundg (M - (o + 4))
          case measure => omega
          case rel => exact ⟨i + 1, o + 4, by have := HOE.out; omega, hlt, by go_num, by rw [HSN.out]; exact HR9.out.on HBZ.out, HF9.out.on HBZ.out, HB9.out.trans (HBZ.out.mono HB9.out.size), rfl⟩
        · obtain rfl : i = N := by omega
          have hoM : ¬ ((o : Int) < (M : Int)) := by have := HOE.out; have := HML.out; omega
          have HJ := hid (joinB_fn _ _ wr HRO.out.strs (Nat.le_trans (numsU_sum c p 4 (by decide) t i) (by omega)) (by rw [numsU_len]; omega))
          go_wp2_with (go_at_call 21; refine HJ.out.mono ?_; rintro e w8 ⟨rfl, hb8⟩; have HB8 := hid hb8; clear hb8)
          go_ret3
          exact ⟨by rw [HRR.out, HTD.out]; rfl, (HB4.out.trans (HBL.out.mono HB4.out.size)).trans (HB8.out.mono (Nat.le_trans HB4.out.size hs4))⟩
    · rw [hwd] at HTD HML HWF
      have HWK := hid (show ∀ u, Calls Tryz.prog 121 #[.agg #[.int .u8 (c.toNat : Nat), .bool p, .int .i64 n]] u fun e w' => e = .returned (.int .i64 8) ∧ Below u.heap.size u w' from HWF.out)
      clear hwd HWF
      have HT4 := hid (HT.out.below HB4.out)
      go_wp2_with fail
      go_loopg [9, 10] M (fun k lv iv wr => ∃ (i o : Nat), o = 8 * i ∧ i ≤ N ∧ iv = .int .i64 (o : Nat) ∧ RowS w4.heap.size wr lv (numsU c p 8 t i) ∧ FBlk w.heap.size wr ⟨c, p, n⟩ ∧ Below w4.heap.size w4 wr ∧ k = M - o)
      case atStart => exact ⟨0, 0, rfl, Nat.zero_le _, rfl, RowS.nil _ _, HF4.out, Below.refl _ _, by omega⟩
      case round =>
        obtain ⟨i, o, hoe, hiN, rfl, hro, hF, hbl, hk⟩ := hrel
        replace hk := hk.symm
        subst hk
        have HOE := hid hoe
        have HRO := hid hro
        have HFF := hid hF
        have HBL := hid hbl
        obtain ⟨ao, co, he⟩ := hro.shape
        rw [numsU_len] at he
        subst he
        clear hoe hro hF hbl
        have hs4 := HBL.out.size
        rcases Nat.lt_or_ge i N with hlt | hge
        · have hoM : o + 8 ≤ M := by have := HOE.out; have := HML.out; omega
          have hltI : (o : Int) < (M : Int) := by omega
          have hc0 := HFF.out.c0
          have hc1 := HFF.out.c1
          have hc2 := HFF.out.c2
          obtain ⟨x, hx⟩ : ∃ x, x = (t.drop o).take 8 := ⟨_, rfl⟩
          have hxl : x.length = 8 := by rw [hx, List.length_take, List.length_drop, HTL.out]; omega
          have hext2 : (⟨t.toArray⟩ : ByteArray).extract o (o + 8) = ⟨x.toArray⟩ := by rw [Lib.extract_mk, hx, show o + 8 - o = 8 by omega]
          have hsn : numsU c p 8 t (i + 1) = numsU c p 8 t i ++ [numberE c p x] := by rw [numsU_snoc, hx, HOE.out]
          have HSN := hid hsn
          have HXL := hid hxl
          have HEXT := hid hext2
          clear hx hsn hxl hext2
          have S0 : Hid ((fun u : World => u.cell? ⟨w.heap.size, 0, none⟩ = some (.int .u8 (c.toNat : Nat)) ∧ u.cell? ⟨w.heap.size, 1, none⟩ = some (.bool p) ∧ u.cell? ⟨w.heap.size, 2, none⟩ = some (.int .i64 n)) wr.drew) := hid ⟨hc0, hc1, hc2⟩
          clear hc0 hc1 hc2
          go_upto_region 22 with fail
          refine U_begin (late := fun k => decide (11 ≤ k)) (S := fun u : World => u.cell? ⟨w.heap.size, 0, none⟩ = some (.int .u8 (c.toNat : Nat)) ∧ u.cell? ⟨w.heap.size, 1, none⟩ = some (.bool p) ∧ u.cell? ⟨w.heap.size, 2, none⟩ = some (.int .i64 n)) (by kernel_rfl) ?_
          refine U_take2 8 (i := 0) (v := .slice ao i co) rfl (by kernel_rfl) (by kernel_rfl) (by kernel_rfl) (by kernel_rfl) (by kernel_rfl) (fun _ _ _ h => h) (.inl ⟨rfl, fun u hu => (by go_simp)⟩) S0.out ?_
          refine U_take2 8 (i := 1) (v := .agg #[.int .u8 (c.toNat : Nat), .bool p, .int .i64 n]) rfl (by kernel_rfl) (by kernel_rfl) (by kernel_rfl) (by kernel_rfl) (by kernel_rfl) (fun _ _ _ h => h) (.inl ⟨rfl, fun u hu => (by obtain ⟨h1, h2, h3⟩ := hu; go_simp)⟩) S0.out ?_
          refine U_take2 8 (i := 2) (v := .string ⟨t.toArray⟩) rfl (by kernel_rfl) (by kernel_rfl) (by kernel_rfl) (by kernel_rfl) (by kernel_rfl) (fun _ _ _ h => h) (.inl ⟨rfl, fun u hu => (by go_simp)⟩) S0.out ?_
          refine U_take2 8 (i := 3) (v := .int .i64 (o : Nat)) rfl (by kernel_rfl) (by kernel_rfl) (by kernel_rfl) (by kernel_rfl) (by kernel_rfl) (fun _ _ _ h => h) (.inl ⟨rfl, fun u hu => (by go_simp)⟩) S0.out ?_
          refine U_take2 8 (i := 4) (v := .int .i64 (o : Nat)) rfl (by kernel_rfl) (by kernel_rfl) (by kernel_rfl) (by kernel_rfl) (by kernel_rfl) (fun _ _ _ h => h) (.inl ⟨rfl, fun u hu => (by go_simp)⟩) S0.out ?_
          refine U_take2 8 (i := 5) (v := .agg #[.int .u8 (c.toNat : Nat), .bool p, .int .i64 n]) rfl (by kernel_rfl) (by kernel_rfl) (by kernel_rfl) (by kernel_rfl) (by kernel_rfl) (fun _ _ _ h => h) (.inl ⟨rfl, fun u hu => (by obtain ⟨h1, h2, h3⟩ := hu; go_simp)⟩) S0.out ?_
          refine U_step (j := 6) (by kernel_rfl) rfl (fun K hK => ?_)
          go_simp
          (with_reducible refine (HWK.out _).mono ?_); rintro e w6 ⟨rfl, hb6⟩
          have HB6 := hid (show Below wr.heap.size wr w6 from (Below.refl _ wr).drew.trans hb6)
          have hF6 := HFF.out.on HB6.out
          have S6 : Hid ((fun u : World => u.cell? ⟨w.heap.size, 0, none⟩ = some (.int .u8 (c.toNat : Nat)) ∧ u.cell? ⟨w.heap.size, 1, none⟩ = some (.bool p) ∧ u.cell? ⟨w.heap.size, 2, none⟩ = some (.int .i64 n)) w6) := hid ⟨hF6.c0, hF6.c1, hF6.c2⟩
          refine hK.out _ _ (.inr S6.out) ?_
          clear hK K S0 hb6
          have HF6 := hid hF6
          clear hF6
          refine U_take2 8 (i := 7) (v := .int .i64 ((o : Int) + 8)) rfl (by kernel_rfl) (by kernel_rfl) (by kernel_rfl) (by kernel_rfl) (by kernel_rfl) (fun _ _ _ h => h) (.inl ⟨rfl, fun u hu => (by go_simp <;> exact IntWalk.i64_in _ (by omega))⟩) S6.out ?_
          refine U_take2 8 (i := 8) (v := .string ⟨x.toArray⟩) rfl (by kernel_rfl) (by kernel_rfl) (by kernel_rfl) (by kernel_rfl) (by kernel_rfl) (fun _ _ _ h => h) (.inl ⟨rfl, fun u hu => (by go_simp <;> (try rw [if_pos ⟨by omega, by omega⟩]) <;> (try rw [show ((o : Int) + 8).toNat = o + 8 by omega]) <;> (try rw [HEXT.out]) <;> (try rw [if_pos (show (o : Int) ≤ (o : Int) + 8 by omega)]) <;> (try rw [HEXT.out]))⟩) S6.out ?_
          refine U_step (j := 9) (by kernel_rfl) rfl (fun K hK => ?_)
          go_simp
          (with_reducible refine (HNF.out x (by have := HXL.out; omega) _ ((HT4.out.below (HBL.out.trans (HB6.out.mono hs4)))) ).mono ?_); rintro e w7 ⟨rfl, hb7⟩
          have HB7 := hid (show Below wr.heap.size wr w7 from HB6.out.trans (hb7.mono HB6.out.size))
          have hF7 := HFF.out.on HB7.out
          have S7 : Hid ((fun u : World => u.cell? ⟨w.heap.size, 0, none⟩ = some (.int .u8 (c.toNat : Nat)) ∧ u.cell? ⟨w.heap.size, 1, none⟩ = some (.bool p) ∧ u.cell? ⟨w.heap.size, 2, none⟩ = some (.int .i64 n)) w7) := hid ⟨hF7.c0, hF7.c1, hF7.c2⟩
          refine hK.out _ _ (.inr S7.out) ?_
          clear hK K S6 hb7
          have HF7 := hid hF7
          clear hF7
          refine U_step (j := 10) (by kernel_rfl) rfl (fun K hK => ?_)
          go_simp
          have hF8 := HF7.out.on (belowA w7 (.cells #[.string ⟨(numberE c p x).toArray⟩] 9))
          refine hK.out _ _ (.inr ⟨hF8.c0, hF8.c1, hF8.c2⟩) ?_
          clear hK K hF8
          refine U_step (j := 11) (by kernel_rfl) rfl (fun K hK => ?_)
          rw [if_pos (show Region.wanted _ _ = true by simp [Region.wanted])]
          have hsw : w4.heap.size ≤ w7.heap.size := Nat.le_trans hs4 HB7.out.size
          refine app_one_op (w := w7) (.tmp 90) (.tmp 100) rfl w4.heap.size (.slice ao i co) (numsU c p 8 t i) (numberE c p x) rfl (HRO.out.on HB7.out) rfl (by rw [numsU_len]; omega) hsw ?_
          intro v9 w9 hr9 hg9
          refine hK.out _ _ (.inl rfl) ?_
          clear hK K S7
          have HR9 := hid hr9
          have HB9 := hid (show Below w4.heap.size w4 w9 from (HBL.out.trans (HB7.out.mono hs4)).grown hg9 hsw (fun k hk => (HRO.out.lt k hk).2))
          have HF9 := hid (HF4.out.on HB9.out)
          clear hr9 hg9
          refine U_step (j := 12) (by kernel_rfl) rfl (fun K hK => ?_)
          go_simp
          refine hK.out _ _ (.inl rfl) ?_
          clear hK K
          refine U_done (by kernel_rfl) ?_ _
          have x0 := HF9.out.c0
          have x1 := HF9.out.c1
          have x2 := HF9.out.c2
          go_wp2_with ((with_reducible refine (HWK.out _).mono ?_); rintro e wz ⟨rfl, hbz⟩; have HBZ := hid hbz; clear hbz)
          go_roundg (M - (o + 8))
          case measure => omega
          case rel => exact ⟨i + 1, o + 8, by have := HOE.out; omega, hlt, by go_num, by rw [HSN.out]; exact HR9.out.on HBZ.out, HF9.out.on HBZ.out, HB9.out.trans (HBZ.out.mono HB9.out.size), rfl⟩
        · obtain rfl : i = N := by omega
          have hoM : ¬ ((o : Int) < (M : Int)) := by have := HOE.out; have := HML.out; omega
          have HJ := hid (joinB_fn _ _ wr HRO.out.strs (Nat.le_trans (numsU_sum c p 8 (by decide) t i) (by omega)) (by rw [numsU_len]; omega))
          go_wp2_with (go_at_call 21; refine HJ.out.mono ?_; rintro e w8 ⟨rfl, hb8⟩; have HB8 := hid hb8; clear hb8)
          go_ret3
          exact ⟨by rw [HRR.out, HTD.out]; rfl, (HB4.out.trans (HBL.out.mono HB4.out.size)).trans (HB8.out.mono (Nat.le_trans HB4.out.size hs4))⟩
end Go.Proofs.YtihdndaibmgoiaaGreatDoor.Pz
/-
  binary: Unpack.
-/
namespace Go.Proofs.YtihdndaibmgoiaaGreatDoor.Pz
open Go.RowKit Go.Shelf Go.Sort
attribute [local go_sem] Oper.semAt_some
theorem app_oneIn {F : Fence} {nF : Nat} {w : World} {N : Nat} (hN : w.heap.size = N) {ops : Array Oper} {rest : List Oper} {o : Oper} {a : Act} {Q : Exit → Act → World → Prop} (hgd : o.guard = none) (s x : Operand)
    (ho : o.op = .call { callee := .builtin .append, args := #[s, x], argTypes := #[22, 22] }) (B : Nat) (v : Value) (l : List Str) (q : Str)
    (hs : a.eval s = v) (hown : RowS B w v l) (hx : a.eval x = .slice (some ⟨N, 0, none⟩) 1 1) (hB : B ≤ w.heap.size) (hl : l.length ≤ 10000000)
    (h : ∀ v' w', RowS B w' v' (l ++ [q]) → w.grownBy w' v.ownBlock → (∀ g, v'.ownBlock = some g → v.ownBlock = some g ∨ w.heap.size ≤ g) → wpListIn F nF Tryz.prog ops Q rest (a.put o.dst v') w') :
    wpListIn F nF Tryz.prog ops Q (o :: rest) a (w.alloc (.cells #[.string ⟨q.toArray⟩] 9)) := by
  obtain ⟨i0, hi, hz0, hz1, hz2⟩ := info_parts Tryz.infoS
  subst hN
  have hown' : (w.alloc (.cells #[.string ⟨q.toArray⟩] 9)).ownsRow B 9 1 v l.length (strCells l) := World.ownsRow.alloc hown _
  refine wpListIn_append_own_at _ hgd s x 22 ho B 9 i0 (.string ⟨#[]⟩) 1 16 Tryz.underlying22 hi hz0 hz1 hz2 rfl (by decide) v l.length (strCells l) hs hown' ⟨w.heap.size, 0, none⟩ 1 1 [.string ⟨q.toArray⟩] hx rfl (cell_one_new _ _ _) (strCells_one [q]) ?_ ?_ ?_ ?_
  · unfold maxLen; omega
  · omega
  · simp; omega
  · intro v' w' hrow hg _ hat
    refine h v' w' ?_ ?_ ?_
    · show w'.ownsRow B 9 1 v' (l ++ [q]).length (strCells (l ++ [q]))
      rw [strCells_app, List.length_append]
      exact hrow
    · refine ⟨hg.os, hg.tape, hg.output, ?_, fun k hk hr => ?_⟩
      · have := hg.size; simp at this; omega
      · rw [hg.block k (by simp; omega) hr]
        exact Below.heap_alloc _ _ _ (by omega)
    · intro g hgv
      rcases hat with h2 | h2
      · exact .inl (by rw [← h2]; exact hgv)
      · rw [h2] at hgv
        have := Option.some.inj hgv
        simp at this
        exact .inr (by omega)
/-- the cells of the text and of the results -/
structure UBase (b : Nat) (s : Str) (v : Value) (W : World) : Prop where
  sc : W.heap[b]? = some (.cells #[.string ⟨s.toArray⟩] 9 (0, 0))
  lc : W.heap[b + 1]? = some (.cells #[v] 22 (0, 0))
  dc : W.heap[b + 1 + 1]? = some (.cells #[.bool false] 4 (0, 0))
  ec : W.heap[b + 1 + 1 + 1]? = some (.cells #[.int .i64 0] 27 (0, 0))
section
variable {b : Nat} {s : Str} {v : Value} {W W' : World}
theorem UBase.lt (h : UBase b s v W) : b + 1 + 1 + 1 < W.heap.size := (Array.getElem?_eq_some_iff.1 h.ec).1
theorem UBase.on {B : Nat} (h : UBase b s v W) (hb : Below B W W') (hB : b + 1 + 1 + 1 < B) : UBase b s v W' := ⟨(hb.block _ (by omega)).trans h.sc, (hb.block _ (by omega)).trans h.lc, (hb.block _ (by omega)).trans h.dc, (hb.block _ hB).trans h.ec⟩
theorem UBase.cs (h : UBase b s v W) : W.cell? ⟨b, 0, none⟩ = some (.string ⟨s.toArray⟩) := by rw [Lib.cell_of_heap h.sc]; rfl
theorem UBase.cl (h : UBase b s v W) : W.cell? ⟨b + 1, 0, none⟩ = some v := by rw [Lib.cell_of_heap h.lc]; rfl
theorem UBase.cd (h : UBase b s v W) : W.cell? ⟨b + 1 + 1, 0, none⟩ = some (.bool false) := by rw [Lib.cell_of_heap h.dc]; rfl
theorem UBase.ce (h : UBase b s v W) : W.cell? ⟨b + 1 + 1 + 1, 0, none⟩ = some (.int .i64 0) := by rw [Lib.cell_of_heap h.ec]; rfl
theorem UBase.fl (h : UBase b s v W) : W.frozen? ⟨b + 1, 0, none⟩ = false := Lib.frozen_of_heap h.lc 0
theorem UBase.fd (h : UBase b s v W) : W.frozen? ⟨b + 1 + 1, 0, none⟩ = false := Lib.frozen_of_heap h.dc 0
theorem UBase.fe (h : UBase b s v W) : W.frozen? ⟨b + 1 + 1 + 1, 0, none⟩ = false := Lib.frozen_of_heap h.ec 0
theorem UBase.set {g : Nat} (h : UBase b s v W) (x : Value) (h0 : g ≠ b) (h1 : g ≠ b + 1) (h2 : g ≠ b + 1 + 1) (h3 : g ≠ b + 1 + 1 + 1) : UBase b s v (W.setCell ⟨g, 0, none⟩ x) :=
  ⟨(Below.heap_setCell _ _ _ _ (fun e => h0 e.symm)).trans h.sc, (Below.heap_setCell _ _ _ _ (fun e => h1 e.symm)).trans h.lc, (Below.heap_setCell _ _ _ _ (fun e => h2 e.symm)).trans h.dc, (Below.heap_setCell _ _ _ _ (fun e => h3 e.symm)).trans h.ec⟩
end
/-- what Unpack returns -/
def UnpackQ (y s : Str) (w : World) (e : Ending) (w' : World) : Prop := ∃ v, e = .returned (.tuple #[v, .bool (unpackRes y s).2.1, .int .i64 (unpackRes y s).2.2]) ∧ RowS w.heap.size w' v (unpackRes y s).1 ∧ Below w.heap.size w w'
set_option maxRecDepth 100000 in
theorem unpack_end0 {y s : Str} {b : Nat} {w W : World} {v : Value} {L : List Str} {d : Bool} {z : Int} {T : Array Value} (hb : b = w.heap.size) (h1 : W.heap[b + 1]? = some (.cells #[v] 22 (0, 0))) (h2 : W.heap[b + 1 + 1]? = some (.cells #[.bool d] 4 (0, 0))) (h3 : W.heap[b + 1 + 1 + 1]? = some (.cells #[.int .i64 z] 27 (0, 0)))
    (hrow : RowS b W v L) (hlow : Below b w W) (hsp : unpackRes y s = (L, d, z)) (h4 : T[4]? = some (.pointer (some ⟨b + 1, 0, none⟩))) (h5 : T[5]? = some (.pointer (some ⟨b + 1 + 1, 0, none⟩))) (h6 : T[6]? = some (.pointer (some ⟨b + 1 + 1 + 1, 0, none⟩))) :
    bodyPostM Fence.wide 5 Tryz.prog Tryz.f22 (UnpackQ y s w) Exit.ret { tmps := T, defers := [] } W := by
  have c1 : W.cell? ⟨b + 1, 0, none⟩ = some v := by rw [Lib.cell_of_heap h1]; rfl
  have c2 : W.cell? ⟨b + 1 + 1, 0, none⟩ = some (.bool d) := by rw [Lib.cell_of_heap h2]; rfl
  have c3 : W.cell? ⟨b + 1 + 1 + 1, 0, none⟩ = some (.int .i64 z) := by rw [Lib.cell_of_heap h3]; rfl
  obtain ⟨a, c, rfl⟩ := hrow.shape
  refine ⟨.tuple #[.slice a L.length c, .bool d, .int .i64 z], ?_, .slice a L.length c, by rw [hsp], by rw [hsp, ← hb]; exact hrow, ?_⟩
  · simp [results, Tryz.results22, asAddr, go_sem, c1, c2, c3, h4, h5, h6]
  · rw [← hb]
    exact hlow
set_option maxRecDepth 100000 in
theorem unpack_end {y s : Str} {b D : Nat} {w W : World} {v : Value} {L : List Str} {d : Bool} {z : Int} {T : Array Value} (hb : b = w.heap.size) (hD : b + 1 + 1 + 1 < D) (h1 : W.heap[b + 1]? = some (.cells #[v] 22 (0, 0))) (h2 : W.heap[b + 1 + 1]? = some (.cells #[.bool d] 4 (0, 0))) (h3 : W.heap[b + 1 + 1 + 1]? = some (.cells #[.int .i64 z] 27 (0, 0)))
    (hrow : RowS b W v L) (hK : W.heap[D]? = some (.deferred (some []))) (hlow : Below b w W) (hsp : unpackRes y s = (L, d, z)) (h4 : T[4]? = some (.pointer (some ⟨b + 1, 0, none⟩))) (h5 : T[5]? = some (.pointer (some ⟨b + 1 + 1, 0, none⟩))) (h6 : T[6]? = some (.pointer (some ⟨b + 1 + 1 + 1, 0, none⟩))) :
    bodyPostM Fence.wide 5 Tryz.prog Tryz.f22 (UnpackQ y s w) Exit.ret { tmps := T, defers := [{ target := .collected D, args := #[] }] } W := by
  refine ⟨by simp, .inl ⟨_, _, rfl, run_takeDeferred hK, ?_⟩⟩
  refine unpack_end0 (W := W.putObj D (.deferred none)) hb ((World.putObj_heap_other (by omega)).trans h1) ((World.putObj_heap_other (by omega)).trans h2) ((World.putObj_heap_other (by omega)).trans h3) ?_ ?_ hsp h4 h5 h6
  · exact ownsRow_heap2 hrow fun g cur _ hc => (World.putObj_heap_other (fun e => by rw [e, hK] at hc; cases hc)).trans hc
  · exact hlow.trans ⟨rfl, rfl, rfl, by rw [World.putObj_size]; exact Nat.le_refl _, fun k hk => World.putObj_heap_other (by omega)⟩
/-- Unpack's cells, and what is told so far -/
structure USt (b q M : Nat) (s : Str) (w W : World) (v : Value) (l : List Str) (at0 : Nat) : Prop where
  num : b + 1 + 1 + 1 < q ∧ q + 1 < M ∧ M ≤ W.heap.size
  base : UBase b s v W
  ac : W.heap[q]? = some (.cells #[.int .i64 (at0 : Nat)] 3 (0, 0))
  row : RowS M W v l
  low : Below b w W
section
variable {b q M : Nat} {s : Str} {v : Value} {w W W' : World} {l : List Str} {at0 : Nat}
theorem USt.on (h : USt b q M s w W v l at0) (hb : Below W.heap.size W W') : USt b q M s w W' v l at0 := by
  obtain ⟨n1, n2, n3⟩ := h.num
  exact ⟨⟨n1, n2, Nat.le_trans n3 hb.size⟩, h.base.on hb (by omega), (hb.block _ (by omega)).trans h.ac, h.row.on hb, h.low.trans (hb.mono (by omega))⟩
theorem RowS.setO {B g : Nat} {u : Value} {l : List Str} (h : RowS B W u l) (x : Value) (hg : g < B) : RowS B (W.setCell ⟨g, 0, none⟩ x) u l := ownsRow_heap h fun g' hg' => Below.heap_setCell _ _ _ _ (by have := (h.lt g' hg').2; show g' ≠ g; omega)
theorem USt.setAt (h : USt b q M s w W v l at0) (x : Nat) : USt b q M s w (W.setCell ⟨q, 0, none⟩ (.int .i64 (x : Nat))) v l x := by
  obtain ⟨n1, n2, n3⟩ := h.num
  exact ⟨⟨n1, n2, by simpa [World.setCell] using n3⟩, h.base.set _ (by omega) (by omega) (by omega) (by omega), heap_set_one h.ac _, h.row.setO _ (by omega), h.low.setCell (by show b ≤ q; omega) _⟩
/-- behind an append, whose answer is stored -/
theorem USt.setL (h : USt b q M s w W v l at0) {v' : Value} {l' : List Str} (hr : RowS M W' v' l') (hg : W.grownBy W' v.ownBlock) : USt b q M s w (W'.setCell ⟨b + 1, 0, none⟩ v') v' l' at0 := by
  obtain ⟨n1, n2, n3⟩ := h.num
  have old : ∀ g, g < M → W'.heap[g]? = W.heap[g]? := fun g hl => hg.block g (by omega) fun e => by have := (h.row.lt g e.symm).2; omega
  have ne : ∀ g, g < M → g ≠ b + 1 → (W'.setCell ⟨b + 1, 0, none⟩ v').heap[g]? = W.heap[g]? := fun g hl hn => (Below.heap_setCell _ _ _ _ (fun e => hn e)).trans (old g hl)
  refine ⟨⟨n1, n2, by have := hg.size; simp [World.setCell]; omega⟩, ⟨(ne _ (by omega) (by omega)).trans h.base.sc, heap_set_one ((old (b + 1) (by omega)).trans h.base.lc) _, (ne _ (by omega) (by omega)).trans h.base.dc, (ne _ (by omega) (by omega)).trans h.base.ec⟩, (ne _ (by omega) (by omega)).trans h.ac, hr.setO _ (by omega), ?_⟩
  exact (h.low.grown hg (by omega) (fun g e => by have := (h.row.lt g e).2; omega)).setCell (by show b ≤ b + 1; omega) _
theorem USt.ca (h : USt b q M s w W v l at0) : W.cell? ⟨q, 0, none⟩ = some (.int .i64 (at0 : Nat)) := by rw [Lib.cell_of_heap h.ac]; rfl
theorem USt.fa (h : USt b q M s w W v l at0) : W.frozen? ⟨q, 0, none⟩ = false := Lib.frozen_of_heap h.ac 0
end
theorem unpackGo_cons (f : Fld) (fs : List Fld) (s : Str) (at0 : Nat) (l : List Str) : unpackGo (f :: fs) s at0 l =
    if f.letter == 64 then (if s.length < (if f.count = -2 then s.length else f.count.toNat) then (l, false) else unpackGo fs s (if f.count = -2 then s.length else f.count.toNat) l)
    else if (unpkR f (s.drop at0)).2.2 then unpackGo fs s (at0 + (unpkR f (s.drop at0)).2.1) (if takesL f.letter then l ++ [(unpkR f (s.drop at0)).1] else l) else (l, false) := by
  unfold unpkR
  rw [unpackGo]
  by_cases h : (f.letter == 64) = true
  · rw [if_pos h, if_pos h]
  · rw [if_neg h, if_neg h]
    dsimp only
    rw [List.length_drop]
    by_cases h2 : s.length - at0 < lenL f.letter (cntU f (s.length - at0))
    · rw [if_pos h2, if_pos h2, if_neg (by simp)]
    · rw [if_neg h2, if_neg h2, if_pos rfl]
theorem unpkR_le {f : Fld} {s : Str} (h : (unpkR f s).2.2 = true) : (unpkR f s).2.1 ≤ s.length := by
  unfold unpkR at h ⊢
  split
  · rename_i h1
    rw [if_pos h1] at h
    cases h
  · show lenL f.letter (cntU f s.length) ≤ s.length
    omega
/-- between two fields -/
structure UAt (b q M : Nat) (w : World) (y s : Str) (pre : List (FldIn y)) (W : World) : Prop where
  st : ∃ (v : Value) (l : List Str) (at0 : Nat), USt b q M s w W v l at0 ∧ at0 ≤ s.length ∧ l.length ≤ pre.length ∧ ∀ rest, fldsE y = pre.map Subtype.val ++ rest → unpackGo (fldsE y) s 0 [] = unpackGo rest s at0 l
/-- bytes lack -/
structure UEnd (b M : Nat) (w : World) (y s : Str) (pre : List (FldIn y)) (W : World) : Prop where
  st : ∃ (v : Value) (l : List Str), W.heap[b + 1]? = some (.cells #[v] 22 (0, 0)) ∧ W.heap[b + 1 + 1]? = some (.cells #[.bool false] 4 (0, 0)) ∧ W.heap[b + 1 + 1 + 1]? = some (.cells #[.int .i64 0] 27 (0, 0)) ∧ RowS M W v l ∧ ∀ rest, fldsE y = pre.map Subtype.val ++ rest → unpackGo (fldsE y) s 0 [] = (l, false)
  low : Below b w W
theorem UAt.own {b q M B : Nat} {w : World} {y s : Str} (hB : M ≤ B) (hbw : b ≤ w.heap.size) : OwnFrom B (UAt b q M w y s) := by
  rintro pre X Y row ⟨v, l, at0, h, hk⟩ hg hr
  obtain ⟨n1, n2, n3⟩ := h.num
  exact ⟨v, l, at0, ⟨⟨n1, n2, Nat.le_trans n3 hg.size⟩, ⟨cells_turn hg hr h.base.sc, cells_turn hg hr h.base.lc, cells_turn hg hr h.base.dc, cells_turn hg hr h.base.ec⟩, cells_turn hg hr h.ac, ownsRow_heap2 h.row fun g cur _ hc => cells_turn hg hr hc, below_turn h.low hbw hg (fun r e => ⟨by have := (hr r e).1; omega, (hr r e).2⟩)⟩, hk⟩
theorem UEnd.own {b M B : Nat} {w : World} {y s : Str} (hB : b ≤ B) (hbw : b ≤ w.heap.size) : OwnFrom B (UEnd b M w y s) := by
  rintro pre X Y row ⟨⟨v, l, h1, h2, h3, h4, h5⟩, hlow⟩ hg hr
  exact ⟨⟨v, l, cells_turn hg hr h1, cells_turn hg hr h2, cells_turn hg hr h3, ownsRow_heap2 h4 fun g cur _ hc => cells_turn hg hr hc, h5⟩, below_turn hlow hbw hg (fun r e => ⟨Nat.le_trans hB (hr r e).1, (hr r e).2⟩)⟩
theorem USt.stop {b q M : Nat} {s y : Str} {v : Value} {w W : World} {l : List Str} {at0 : Nat} {pre : List (FldIn y)} (h : USt b q M s w W v l at0) (hres : ∀ rest, fldsE y = pre.map Subtype.val ++ rest → unpackGo (fldsE y) s 0 [] = (l, false)) :
    UEnd b M w y s pre (((W.setCell ⟨b + 1, 0, none⟩ v).setCell ⟨b + 1 + 1, 0, none⟩ (.bool false)).setCell ⟨b + 1 + 1 + 1, 0, none⟩ (.int .i64 0)) := by
  obtain ⟨n1, n2, n3⟩ := h.num
  refine ⟨⟨v, l, ?_, ?_, ?_, ((h.row.setO _ (by omega)).setO _ (by omega)).setO _ (by omega), hres⟩, ((h.low.setCell (by show b ≤ b + 1; omega) _).setCell (by show b ≤ b + 1 + 1; omega) _).setCell (by show b ≤ b + 1 + 1 + 1; omega) _⟩
  · exact (Below.heap_setCell _ _ _ _ (by show b + 1 ≠ b + 1 + 1 + 1; omega)).trans ((Below.heap_setCell _ _ _ _ (by show b + 1 ≠ b + 1 + 1; omega)).trans (heap_set_one h.base.lc _))
  · exact (Below.heap_setCell _ _ _ _ (by show b + 1 + 1 ≠ b + 1 + 1 + 1; omega)).trans (heap_set_one ((Below.heap_setCell _ _ _ _ (by show b + 1 + 1 ≠ b + 1; omega)).trans h.base.dc) _)
  · exact heap_set_one ((Below.heap_setCell _ _ _ _ (by show b + 1 + 1 + 1 ≠ b + 1 + 1; omega)).trans ((Below.heap_setCell _ _ _ _ (by show b + 1 + 1 + 1 ≠ b + 1; omega)).trans h.base.ec)) _
set_option maxRecDepth 100000 in
set_option maxHeartbeats 1500000 in
theorem unpack_fn (y s : Str) (hy : y.length ≤ 100000) (hs : s.length ≤ 100000) (w : World) (htab : Tab w) :
    Calls Tryz.prog 22 #[.string ⟨y.toArray⟩, .string ⟨s.toArray⟩] w (UnpackQ y s w) := by
  have hsz : (⟨s.toArray⟩ : ByteArray).size = s.length := Lib.size_mk _
  refine (callsIn_wide (n := 5)).1 ?_
  refine callsIn_of_wp_marks Tryz.func22 rfl trivial ?_ rfl
  simp only [Tryz.ntmps22, List.size_toArray, List.length_cons, List.length_nil, Nat.reduceAdd, Nat.reduceSub, Array.replicate_succ, Array.replicate_zero, List.push_toArray, List.append_toArray, List.nil_append, List.cons_append]
  obtain ⟨W0, hW0⟩ : ∃ W0, W0 = (((w.alloc (.cells #[.string ⟨s.toArray⟩] 9)).alloc (.cells #[.slice none 0 0] 22)).alloc (.cells #[.bool false] 4)).alloc (.cells #[.int .i64 0] 27) := ⟨_, rfl⟩
  have hs0 : W0.heap.size = w.heap.size + 1 + 1 + 1 + 1 := by rw [hW0]; simp
  have h0 : W0.heap[w.heap.size]? = some (.cells #[.string ⟨s.toArray⟩] 9 (0, 0)) := by
    rw [hW0, Below.heap_alloc _ _ _ (by simp <;> omega), Below.heap_alloc _ _ _ (by simp <;> omega), Below.heap_alloc _ _ _ (by simp)]; exact heap_alloc_new _ _
  have h1 : W0.heap[w.heap.size + 1]? = some (.cells #[.slice none 0 0] 22 (0, 0)) := by
    rw [hW0, Below.heap_alloc _ _ _ (by simp <;> omega), Below.heap_alloc _ _ _ (by simp)]
    simpa using heap_alloc_new (w.alloc (.cells #[.string ⟨s.toArray⟩] 9)) (.cells #[.slice none 0 0] 22)
  have h2 : W0.heap[w.heap.size + 1 + 1]? = some (.cells #[.bool false] 4 (0, 0)) := by
    rw [hW0, Below.heap_alloc _ _ _ (by simp)]
    simpa using heap_alloc_new ((w.alloc (.cells #[.string ⟨s.toArray⟩] 9)).alloc (.cells #[.slice none 0 0] 22)) (.cells #[.bool false] 4)
  have h3 : W0.heap[w.heap.size + 1 + 1 + 1]? = some (.cells #[.int .i64 0] 27 (0, 0)) := by
    rw [hW0]
    simpa using heap_alloc_new (((w.alloc (.cells #[.string ⟨s.toArray⟩] 9)).alloc (.cells #[.slice none 0 0] 22)).alloc (.cells #[.bool false] 4)) (.cells #[.int .i64 0] 27)
  have hb0 : Below w.heap.size w W0 := by rw [hW0]; exact ((((Below.refl _ _).alloc (Nat.le_refl _) _).alloc (by simp) _).alloc (by simp; omega) _).alloc (by simp; omega) _
  have HV := hid (valid_fn y (by omega) W0)
  have HW0 := hid hW0
  have HB0 := hid hb0
  have HS0 := hid hs0
  have HT := hid htab
  obtain ⟨ok, hok⟩ : ∃ ok, ok = validE y := ⟨_, rfl⟩
  rw [← hok] at HV
  have HP := hid hok
  have HPB := hid (show UBase w.heap.size s (.slice none 0 0) W0 from ⟨h0, h1, h2, h3⟩)
  clear hW0 h0 h1 h2 h3 hb0 hs0 hok htab
  cases ok with
  | false =>
    have HRS := hid (show unpackRes y s = ([], false, 2) by unfold unpackRes; rw [← HP.out]; rfl)
    gi_wp2_with (refine ⟨trivial, ?_⟩; gi_at_call 79; rw [← HW0.out]; refine (callsIn_wide.2 HV.out).mono ?_; rintro e w1 ⟨rfl, hb1⟩; have hp1 := HPB.out.on hb1 (by rw [HS0.out]; omega); have q1 := hp1.cl; have q2 := hp1.fl; have q3 := hp1.cd; have q4 := hp1.fd; have q5 := hp1.ce; have q6 := hp1.fe; have HP1 := hid hp1; have HB1 := hid hb1; clear hp1 hb1)
    refine unpack_end0 (b := w.heap.size) (v := .slice none 0 0) (L := []) (d := false) (z := 2) rfl ?_ ?_ ?_ (RowS.nil _ _) ?_ HRS.out rfl rfl rfl
    · exact (Below.heap_setCell _ _ _ _ (by show w.heap.size + 1 ≠ w.heap.size + 1 + 1 + 1; omega)).trans ((Below.heap_setCell _ _ _ _ (by show w.heap.size + 1 ≠ w.heap.size + 1 + 1; omega)).trans (heap_set_one HP1.out.lc _))
    · exact (Below.heap_setCell _ _ _ _ (by show w.heap.size + 1 + 1 ≠ w.heap.size + 1 + 1 + 1; omega)).trans (heap_set_one ((Below.heap_setCell _ _ _ _ (by show w.heap.size + 1 + 1 ≠ w.heap.size + 1; omega)).trans HP1.out.dc) _)
    · exact heap_set_one ((Below.heap_setCell _ _ _ _ (by show w.heap.size + 1 + 1 + 1 ≠ w.heap.size + 1 + 1; omega)).trans ((Below.heap_setCell _ _ _ _ (by show w.heap.size + 1 + 1 + 1 ≠ w.heap.size + 1; omega)).trans HP1.out.ec)) _
    · exact (((HB0.out.trans (HB1.out.mono (by rw [HS0.out]; omega))).setCell (by show w.heap.size ≤ w.heap.size + 1; omega) _).setCell (by show w.heap.size ≤ w.heap.size + 1 + 1; omega) _).setCell (by show w.heap.size ≤ w.heap.size + 1 + 1 + 1; omega) _
  | true =>
    have hFD := fun u => fields_fn y u
    have HFD := hid hFD
    clear hFD
    gi_wp2_with (refine ⟨trivial, ?_⟩; gi_at_call 79; rw [← HW0.out]; refine (callsIn_wide.2 HV.out).mono ?_; rintro e w2 ⟨rfl, hb1⟩; have hp1 := HPB.out.on hb1 (by rw [HS0.out]; omega); have HP1 := hid hp1; have HB2 := hid (HB0.out.trans (hb1.mono HB0.out.size)); clear hp1 hb1)
    obtain ⟨w3, hw3⟩ : ∃ w3, w3 = w2.alloc (.cells #[.int .i64 0] 3) := ⟨_, rfl⟩
    rw [← hw3]
    obtain ⟨q, hq⟩ : ∃ q, q = w2.heap.size := ⟨_, rfl⟩
    have hz3 : w3.heap.size = q + 1 := by rw [hw3, hq]; simp
    have ha3 : w3.heap[q]? = some (.cells #[.int .i64 0] 3 (0, 0)) := by rw [hw3, hq]; exact heap_alloc_new _ _
    have hb3 : Below w2.heap.size w2 w3 := by rw [hw3]; exact belowA _ _
    have hlt1 := HP1.out.lt
    have hp3 := HP1.out.on hb3 hlt1
    have hlow3 : Below w.heap.size w w3 := HB2.out.trans (hb3.mono HB2.out.size)
    rw [← hq]
    have hqb : w.heap.size + 1 + 1 + 1 < q := by omega
    have HP3 := hid hp3
    have HA3 := hid ha3
    have HLOW3 := hid hlow3
    have HZ3 := hid hz3
    clear hw3 hq hz3 ha3 hb3 hp3 hlow3 hlt1 HB2 HP1 HPB HW0 HB0 HS0 HV
    refine ⟨trivial, (callsIn_wide.2 (HFD.out w3)).mono ?_⟩
    rintro e w4 ⟨rfl, hbe, hep, hsz4⟩
    rw [HZ3.out] at hep hsz4
    rw [HZ3.out]
    gi_wp2
    obtain ⟨b, hb⟩ : ∃ b, b = w.heap.size := ⟨_, rfl⟩
    have HBE := hid hb
    have hbw1 : b ≤ w.heap.size := by omega
    have hI0 : UAt b q w4.heap.size w y s [] w4 := by
      refine ⟨.slice none 0 0, [], 0, USt.mk ⟨by omega, by omega, Nat.le_refl _⟩ ?_ ?_ (RowS.nil _ _) ?_, Nat.zero_le _, Nat.le_refl _, fun rest hr => by rw [hr]; rfl⟩
      · rw [hb]; exact HP3.out.on hbe (by rw [HZ3.out]; omega)
      · exact (hbe.block _ (by rw [HZ3.out]; omega)).trans HA3.out
      · rw [hb]; exact HLOW3.out.trans (hbe.mono (by rw [HZ3.out]; omega))
    rw [← hb] at hqb ⊢
    have HFL := hid (flds_len _ y (Nat.le_refl _))
    clear HP3 HA3 HLOW3 hbe HFD hb HZ3
    refine wpIn_rangeFunc_ownH rfl (by omega) (gf := 120) (lb := #[.pointer (some ⟨q + 1, 0, none⟩)]) rfl trivial (enters_of Tryz.func120 (by kernel_rfl) rfl)
      (fields_stopsI (B := b) (by omega) _ hep (by omega)) KpF.trans (fun W l o o' hl h h1 h2 => ⟨belowK_b (w := w4) (by omega) W l o o' hl h h1 h2, World.putObj_heap_other (by omega)⟩) (Below.refl _ _) (fun _ => rfl)
      (UAt b q w4.heap.size w y s) (fun c pre W => c = .ret ∧ UEnd b w4.heap.size w y s pre W)
      (UAt.own (B := w4.heap.size) (Nat.le_refl _) hbw1) (fun c s' X Y row h hg hr => ⟨h.1, UEnd.own (B := w4.heap.size) (by omega) hbw1 s' X Y row h.2 hg hr⟩) hI0
      (fun x a' W => ∃ Bx, w4.heap.size ≤ Bx ∧ W.heap[Bx]? = some (.cells #[.int .u8 (x.1.letter.toNat : Nat), .bool x.1.plain, .int .i64 x.1.count] 79 (0, 0)) ∧ a' = { tmps := #[.string ⟨y.toArray⟩, .string ⟨s.toArray⟩, undef, .pointer (some ⟨b, 0, none⟩), .pointer (some ⟨b + 1, 0, none⟩), .pointer (some ⟨b + 1 + 1, 0, none⟩), .pointer (some ⟨b + 1 + 1 + 1, 0, none⟩), .pointer (some ⟨q, 0, none⟩), .pointer (some ⟨Bx, 0, none⟩), undef, undef, undef, .string ⟨y.toArray⟩, .bool true, .bool false, .string ⟨y.toArray⟩, .func (.func 120) #[] #[.pointer (some ⟨q + 1, 0, none⟩)], fldV x.1, undef, undef, undef, undef, undef, undef, undef, undef, undef, undef, undef, undef, undef, undef, undef, undef, undef, undef, undef, undef, undef, undef, undef, undef, undef, undef, undef, undef, undef, undef, undef, undef, undef, undef, undef, undef], defers := [] })
      (fun x a' s' X Y row h hg hr => by obtain ⟨Bx, h1, h2, h3⟩ := h; exact ⟨Bx, h1, cells_turn hg hr h2, h3⟩) ?assign ?body ?done ?stop
    case assign =>
      rintro l pre ⟨x, hxs⟩ W K hi hK
      unfold encF fldV
      gi_wp2
      obtain ⟨v, ll, at0, hst, hrest⟩ := id hi.st
      obtain ⟨n1, n2, n3⟩ := hst.num
      exact hK _ _ ((KeepsOthers.alloc _ _).from _) (KpF.of (belowA _ _) (by omega) (by omega)) ((UAt.own (B := w4.heap.size) (Nat.le_refl _) hbw1).alloc _ hi) ⟨W.heap.size, n3, heap_alloc_new _ _, rfl⟩
    case body =>
      rintro l pre ⟨⟨c, pl, n⟩, hxs⟩ a' W hl hr hi ⟨Bx, hBx, hX, rfl⟩ hlt
      clear hsz4
      dsimp only at hX
      have hok := valid_ok HP.out.symm _ hxs
      have x0 : W.cell? ⟨Bx, 0, none⟩ = some (.int .u8 (c.toNat : Nat)) := by rw [Lib.cell_of_heap hX]; rfl
      have x1 : W.cell? ⟨Bx, 1, none⟩ = some (.bool pl) := by rw [Lib.cell_of_heap hX]; rfl
      have x2 : W.cell? ⟨Bx, 2, none⟩ = some (.int .i64 n) := by rw [Lib.cell_of_heap hX]; rfl
      obtain ⟨v, ll, at0, hst, hat, hll, hrest⟩ := hi.st
      have HF : Hid (FBlk Bx W ⟨c, pl, n⟩) := hid ⟨hX⟩
      have hll2 : ll.length ≤ 1000000 := by have := HFL.out; omega
      have hll3 : ll.length ≤ (pre ++ [(⟨⟨c, pl, n⟩, hxs⟩ : FldIn y)]).length := by simp; omega
      have hll4 : ll.length + 1 ≤ (pre ++ [(⟨⟨c, pl, n⟩, hxs⟩ : FldIn y)]).length := by simp; omega
      obtain ⟨va, vc, he⟩ := hst.row.shape
      obtain ⟨nl, hnl⟩ : ∃ nl, nl = ll.length := ⟨_, rfl⟩
      rw [← hnl] at he
      have HNL := hid hnl
      have HST := hid hst
      have HREST := hid hrest
      obtain ⟨o1, o2, o3, o4, o5⟩ := hok
      dsimp only at o1 o2 o3 o4 o5
      clear hi hrest hX hst hnl
      subst he
      obtain ⟨n1, n2, n3⟩ := HST.out.num
      have c0 := HST.out.base.cs
      have c1 := HST.out.base.cl
      have c2 := HST.out.base.fl
      have c3 := HST.out.base.cd
      have c4 := HST.out.base.fd
      have c5 := HST.out.base.ce
      have c6 := HST.out.base.fe
      have c7 := HST.out.ca
      have c8 := HST.out.fa
      have HLL := hid (And.intro hll2 (And.intro hll3 hll4))
      clear hll hll2 hll3 hll4 hlt
      unfold fldV
      dsimp only
      by_cases h64 : c = 64
      · have y64 : ((c.toNat : Int) == 64) = true := by rw [h64]; rfl
        have hgo : ∀ to' : Nat, (to' = if n = -2 then s.length else n.toNat) → ∀ rest, fldsE y = (pre ++ [(⟨⟨c, pl, n⟩, hxs⟩ : FldIn y)]).map Subtype.val ++ rest → unpackGo (fldsE y) s 0 [] = if s.length < to' then (ll, false) else unpackGo rest s to' ll := fun to' ht rest hr => by
          subst ht
          rw [HREST.out (⟨c, pl, n⟩ :: rest) (hr.trans (by simp)), unpackGo_cons, if_pos (by rw [h64]; rfl)]
        have HGO := hid hgo
        have hne1 := o5 h64
        clear hgo h64
        by_cases hn : n = -2
        · have yn : (n == (-2 : Int)) = true := by rw [hn]; rfl
          have HGO2 := hid (HGO.out s.length (by rw [if_pos hn]))
          have HNN := hid hn
          clear hn
          gi_wp2
          rw [setCell_two]
          refine ⟨(KeepsOthers.setCell _ _ _).from _, ⟨(Below.refl _ _).setCell (by show b ≤ q; omega) _, Below.heap_setCell _ _ _ _ (by show q + 1 ≠ q; omega)⟩, ⟨_, ll, s.length, HST.out.setAt s.length, Nat.le_refl _, HLL.out.2.1, fun rest hr => ?_⟩⟩
          rw [HGO2.out rest hr, if_neg (by omega)]
        · have yn : (n == (-2 : Int)) = false := by simp; omega
          obtain ⟨N, hN⟩ : ∃ N : Nat, n = (N : Int) := ⟨n.toNat, by omega⟩
          have HGO2 := hid (HGO.out N (by rw [if_neg hn, hN]; rfl))
          clear HGO
          subst hN
          clear hn
          by_cases hbig : s.length < N
          · have hbI : (s.length : Int) < (N : Int) := by omega
            gi_wp2
            refine ⟨((((KeepsOthers.setCell _ _ _).trans (KeepsOthers.setCell _ _ _)).trans (KeepsOthers.setCell _ _ _)).trans (KeepsOthers.setCell _ _ _)).from _, rfl, (HST.out.setAt N).stop fun rest hr => ?_⟩
            rw [HGO2.out rest hr, if_pos hbig]
          · have hbI : ¬ ((s.length : Int) < (N : Int)) := by omega
            gi_wp2
            refine ⟨(KeepsOthers.setCell _ _ _).from _, ⟨(Below.refl _ _).setCell (by show b ≤ q; omega) _, Below.heap_setCell _ _ _ _ (by show q + 1 ≠ q; omega)⟩, ⟨_, ll, N, HST.out.setAt N, by omega, HLL.out.2.1, fun rest hr => ?_⟩⟩
            rw [HGO2.out rest hr, if_neg hbig]
      · have y64 : ((c.toNat : Int) == 64) = false := byte_ne 64 h64 rfl
        obtain ⟨t, ht⟩ : ∃ t, t = s.drop at0 := ⟨_, rfl⟩
        have htl : t.length = s.length - at0 := by rw [ht, List.length_drop]
        have haT : At s t at0 := ⟨by omega, ht.symm⟩
        have hext := haT.all
        have hatI : (at0 : Int) ≤ (s.length : Int) := by omega
        obtain ⟨r, hr0⟩ : ∃ r, r = unpkR ⟨c, pl, n⟩ t := ⟨_, rfl⟩
        have hgo : ∀ rest, fldsE y = (pre ++ [(⟨⟨c, pl, n⟩, hxs⟩ : FldIn y)]).map Subtype.val ++ rest → unpackGo (fldsE y) s 0 [] = if r.2.2 then unpackGo rest s (at0 + r.2.1) (if takesL c then ll ++ [r.1] else ll) else (ll, false) := fun rest hr => by
          rw [HREST.out (⟨c, pl, n⟩ :: rest) (hr.trans (by simp)), unpackGo_cons, if_neg (by simpa using h64), ← ht, ← hr0]
        have HGO := hid hgo
        have HUF := hid (fun u (hu : Tab u) => by have h := unpacked_fn c pl n ⟨o3, o4⟩ o1 h64 t (by omega) u hu; unfold UnpkQ at h; rw [← hr0] at h; exact h)
        have hrle : r.2.2 = true → at0 + r.2.1 ≤ s.length := fun h => by
          have := unpkR_le (f := ⟨c, pl, n⟩) (s := t) (by rw [← hr0]; exact h)
          rw [← hr0] at this
          omega
        have HRLE := hid hrle
        obtain ⟨r1, sz, ok⟩ := r
        dsimp only at HGO HUF HRLE
        have HTW := hid (HT.out.below (show Below w.heap.size w W from by rw [← HBE.out]; exact HST.out.low))
        have HEXT := hid hext
        clear hgo hr0 hrle ht htl haT h64 hext
        gi_upto_region 12 with fail
        have S0 : Hid ((fun u : World => u.cell? ⟨Bx, 0, none⟩ = some (.int .u8 (c.toNat : Nat)) ∧ u.cell? ⟨Bx, 1, none⟩ = some (.bool pl) ∧ u.cell? ⟨Bx, 2, none⟩ = some (.int .i64 n) ∧ u.cell? ⟨b, 0, none⟩ = some (.string ⟨s.toArray⟩) ∧ u.cell? ⟨q, 0, none⟩ = some (.int .i64 (at0 : Nat))) W.drew) := hid ⟨x0, x1, x2, c0, c7⟩
        refine U_beginR (late := fun k => decide (12 ≤ k)) (S := fun u : World => u.cell? ⟨Bx, 0, none⟩ = some (.int .u8 (c.toNat : Nat)) ∧ u.cell? ⟨Bx, 1, none⟩ = some (.bool pl) ∧ u.cell? ⟨Bx, 2, none⟩ = some (.int .i64 n) ∧ u.cell? ⟨b, 0, none⟩ = some (.string ⟨s.toArray⟩) ∧ u.cell? ⟨q, 0, none⟩ = some (.int .i64 (at0 : Nat))) (fun _ _ h => h) (by kernel_rfl) (by kernel_rfl) ?_
        refine U_take2 8 (i := 0) (v := .agg #[.int .u8 (c.toNat : Nat), .bool pl, .int .i64 n]) rfl (by kernel_rfl) (by kernel_rfl) (by kernel_rfl) (by kernel_rfl) (by kernel_rfl) (fun _ _ _ h => h) (.inl ⟨rfl, fun u hu => (by obtain ⟨h1, h2, h3, h4, h5⟩ := hu; go_simp)⟩) S0.out ?_
        refine U_take2 8 (i := 1) (v := .string ⟨s.toArray⟩) rfl (by kernel_rfl) (by kernel_rfl) (by kernel_rfl) (by kernel_rfl) (by kernel_rfl) (fun _ _ _ h => h) (.inl ⟨rfl, fun u hu => (by obtain ⟨h1, h2, h3, h4, h5⟩ := hu; go_simp)⟩) S0.out ?_
        refine U_take2 8 (i := 2) (v := .int .i64 (at0 : Nat)) rfl (by kernel_rfl) (by kernel_rfl) (by kernel_rfl) (by kernel_rfl) (by kernel_rfl) (fun _ _ _ h => h) (.inl ⟨rfl, fun u hu => (by obtain ⟨h1, h2, h3, h4, h5⟩ := hu; go_simp)⟩) S0.out ?_
        refine U_take2 8 (i := 3) (v := .string ⟨t.toArray⟩) rfl (by kernel_rfl) (by kernel_rfl) (by kernel_rfl) (by kernel_rfl) (by kernel_rfl) (fun _ _ _ h => h) (.inl ⟨rfl, fun u hu => (by go_simp <;> (try rw [if_pos ⟨by omega, by omega⟩]) <;> (try rw [HEXT.out]))⟩) S0.out ?_
        refine U_step (j := 4) (by kernel_rfl) rfl (fun K hK => ?_)
        go_simp
        (with_reducible refine (HUF.out _ (HTW.out.below ((Below.refl _ _).drew))).mono ?_); rintro e w6 ⟨rfl, hb6⟩
        have hb6' : Below W.heap.size W w6 := (Below.refl _ W).drew.trans hb6
        have hst6 := HST.out.on hb6'
        have S6 : Hid ((fun u : World => u.cell? ⟨Bx, 0, none⟩ = some (.int .u8 (c.toNat : Nat)) ∧ u.cell? ⟨Bx, 1, none⟩ = some (.bool pl) ∧ u.cell? ⟨Bx, 2, none⟩ = some (.int .i64 n) ∧ u.cell? ⟨b, 0, none⟩ = some (.string ⟨s.toArray⟩) ∧ u.cell? ⟨q, 0, none⟩ = some (.int .i64 (at0 : Nat))) w6) := by
          have hF6 := HF.out.on hb6'
          exact hid ⟨hF6.c0, hF6.c1, hF6.c2, hst6.base.cs, hst6.ca⟩
        refine hK.out _ _ (.inr S6.out) ?_
        clear hK K S0
        have HB6 := hid hb6'
        have HST6 := hid hst6
        have HF6 := hid (HF.out.on hb6')
        have d1 := hst6.base.cl
        have d2 := hst6.base.fl
        have d3 := hst6.base.cd
        have d4 := hst6.base.fd
        have d5 := hst6.base.ce
        have d6 := hst6.base.fe
        clear hb6 hb6' hst6
        refine U_take2 8 (i := 5) (v := .tuple #[.string ⟨r1.toArray⟩, .int .i64 (sz : Nat), .bool ok]) rfl (by kernel_rfl) (by kernel_rfl) (by kernel_rfl) (by kernel_rfl) (by kernel_rfl) (fun _ _ _ h => h) (.inl ⟨rfl, fun u hu => (by go_simp)⟩) S6.out ?_
        refine U_take2 8 (i := 6) (v := .string ⟨r1.toArray⟩) rfl (by kernel_rfl) (by kernel_rfl) (by kernel_rfl) (by kernel_rfl) (by kernel_rfl) (fun _ _ _ h => h) (.inl ⟨rfl, fun u hu => (by go_simp)⟩) S6.out ?_
        refine U_take2 8 (i := 7) (v := .int .i64 (sz : Nat)) rfl (by kernel_rfl) (by kernel_rfl) (by kernel_rfl) (by kernel_rfl) (by kernel_rfl) (fun _ _ _ h => h) (.inl ⟨rfl, fun u hu => (by go_simp)⟩) S6.out ?_
        refine U_take2 8 (i := 8) (v := .bool ok) rfl (by kernel_rfl) (by kernel_rfl) (by kernel_rfl) (by kernel_rfl) (by kernel_rfl) (fun _ _ _ h => h) (.inl ⟨rfl, fun u hu => (by go_simp)⟩) S6.out ?_
        refine U_take2 8 (i := 9) (v := .string ⟨r1.toArray⟩) rfl (by kernel_rfl) (by kernel_rfl) (by kernel_rfl) (by kernel_rfl) (by kernel_rfl) (fun _ _ _ h => h) (.inl ⟨rfl, fun u hu => (by go_simp)⟩) S6.out ?_
        refine U_take2 8 (i := 10) (v := .int .i64 (sz : Nat)) rfl (by kernel_rfl) (by kernel_rfl) (by kernel_rfl) (by kernel_rfl) (by kernel_rfl) (fun _ _ _ h => h) (.inl ⟨rfl, fun u hu => (by go_simp)⟩) S6.out ?_
        refine U_take2 8 (i := 11) (v := .bool ok) rfl (by kernel_rfl) (by kernel_rfl) (by kernel_rfl) (by kernel_rfl) (by kernel_rfl) (fun _ _ _ h => h) (.inl ⟨rfl, fun u hu => (by go_simp)⟩) S6.out ?_
        refine U_done (by kernel_rfl) ?_ _
        clear S6
        cases ok with
        | false =>
          gi_wp2
          refine ⟨((((KeepsOthers.of_below HB6.out).trans (KeepsOthers.setCell _ _ _)).trans (KeepsOthers.setCell _ _ _)).trans (KeepsOthers.setCell _ _ _)).from _, rfl, HST6.out.stop fun rest hr => ?_⟩
          rw [HGO.out rest hr, if_neg (by decide)]
        | true =>
          have hrle := HRLE.out rfl
          have g0 := HF6.out.c0
          have g1 := HF6.out.c1
          have g2 := HF6.out.c2
          have hsz6 := HB6.out.size
          have hTK := fun u => taking_fn c pl n u
          cases htk : takesL c with
          | false =>
            have HGO2 := hid (show ∀ rest, fldsE y = (pre ++ [(⟨⟨c, pl, n⟩, hxs⟩ : FldIn y)]).map Subtype.val ++ rest → unpackGo (fldsE y) s 0 [] = unpackGo rest s (at0 + sz) ll from fun rest hr => by rw [HGO.out rest hr, if_pos rfl, htk]; rfl)
            rw [htk] at hTK
            have HTK := hid hTK
            clear htk hTK HGO
            gi_wp2_with ((with_reducible refine And.intro ?_ ?_); exact trivial; gi_at_call 81; refine (calls_round (HTK.out _)).mono ?_; rintro e w7 ⟨rfl, hb7⟩; have hs7 := HST6.out.on hb7; have k7 := hs7.ca; have f7 := hs7.fa; have HB7 := hid hb7; have HS7 := hid hs7; clear hb7 hs7)
            have hs7 := HB7.out.size
            refine ⟨(((KeepsOthers.of_below HB6.out).trans (KeepsOthers.of_below HB7.out)).trans (KeepsOthers.setCell _ _ _)).from _, KpF.trans (KpF.of (HB6.out.trans (HB7.out.mono hsz6)) (by omega) (by omega)) ⟨(Below.refl _ _).setCell (by show b ≤ q; omega) _, Below.heap_setCell _ _ _ _ (by show q + 1 ≠ q; omega)⟩, ⟨.slice va nl vc, ll, at0 + sz, ?_, hrle, HLL.out.2.1, HGO2.out⟩⟩
            have h9 := HS7.out.setAt (at0 + sz)
            rw [Int.natCast_add] at h9
            exact h9
          | true =>
            have HGO2 := hid (show ∀ rest, fldsE y = (pre ++ [(⟨⟨c, pl, n⟩, hxs⟩ : FldIn y)]).map Subtype.val ++ rest → unpackGo (fldsE y) s 0 [] = unpackGo rest s (at0 + sz) (ll ++ [r1]) from fun rest hr => by rw [HGO.out rest hr, if_pos rfl, htk]; rfl)
            rw [htk] at hTK
            have HTK := hid hTK
            clear htk hTK HGO
            have hnl6 : ll.length ≤ 10000000 := by have := HLL.out.1; omega
            gi_wp2_with (first | ((with_reducible refine And.intro ?_ ?_); exact trivial; gi_at_call 81; refine (calls_round (HTK.out _)).mono ?_; rintro e w7 ⟨rfl, hb7⟩; have hs7 := HST6.out.on hb7; have k7 := hs7.base.cl; have HB7 := hid hb7; have HS7 := hid hs7; clear hb7 hs7) | (gi_at_builtin; refine app_oneIn rfl rfl (.tmp 46) (.tmp 48) rfl w4.heap.size _ _ r1 rfl HS7.out.row rfl HS7.out.num.2.2 hnl6 ?_; intro v9 w9 hr9 hg9 hv9; have e9 := (hg9.block (b + 1) (by have := HS7.out.num; omega) (fun e => by have := (HS7.out.row.lt _ e.symm).2; have := HS7.out.num; omega)).trans HS7.out.base.lc; have k9 := Lib.cell_of_heap e9; have f9 := Lib.frozen_of_heap e9 0; have hs9 := HS7.out.setL hr9 hg9; have m9 := hs9.ca; have p9 := hs9.fa; have HG9 := hid hg9; obtain ⟨a9, c9, h9⟩ := hr9.shape; obtain ⟨n9, hn9⟩ : ∃ n9, n9 = (ll ++ [r1]).length := ⟨_, rfl⟩; rw [← hn9] at h9; have HS9 := hid hs9; clear hr9 hg9 hv9 e9 hs9 hn9; subst h9))
            have hs7 := HB7.out.size
            have hko := ((KeepsOthers.of_below HB6.out).trans (KeepsOthers.of_below HB7.out)).trans (KeepsOthers.of_grownBy HG9.out fun j o e ho => by obtain ⟨_, cur, hc⟩ := ownsRow_lt HS7.out.row j e; rw [hc] at ho; cases ho; rfl)
            have hb9 : Below b w7 w9 := (Below.refl b w7).grown HG9.out (by omega) (fun g e => by have := HS7.out.row.lt g e; omega)
            have hp9 : w9.heap[q + 1]? = w7.heap[q + 1]? := HG9.out.block _ (by omega) fun e => by have := (HS7.out.row.lt _ e.symm).2; omega
            refine ⟨((hko.trans (KeepsOthers.setCell _ _ _)).trans (KeepsOthers.setCell _ _ _)).from _, KpF.trans (KpF.of (HB6.out.trans (HB7.out.mono hsz6)) (by omega) (by omega)) ⟨(hb9.setCell (by show b ≤ b + 1; omega) _).setCell (by show b ≤ q; omega) _, ?_⟩, ⟨.slice a9 n9 c9, ll ++ [r1], at0 + sz, ?h9, hrle, by rw [List.length_append, List.length_singleton]; exact HLL.out.2.2, HGO2.out⟩⟩
            case h9 =>
              have h9 := HS9.out.setAt (at0 + sz)
              rw [Int.natCast_add] at h9
              exact h9
            exact (Below.heap_setCell _ _ _ _ (by show q + 1 ≠ q; omega)).trans ((Below.heap_setCell _ _ _ _ (by show q + 1 ≠ b + 1; omega)).trans hp9)
    case done =>
      rintro D xs W hD hxs hi hK
      obtain ⟨v, l, at0, hst, hat, hll, hrest⟩ := hi.st
      have c1 := hst.base.cl
      have c2 := hst.base.fl
      have c3 := hst.base.cd
      have c4 := hst.base.fd
      have c5 := hst.base.ce
      have c6 := hst.base.fe
      have hlt := hst.base.lt
      obtain ⟨va, vc, hve⟩ := hst.row.shape
      obtain ⟨nl, hnl⟩ : ∃ nl, nl = l.length := ⟨_, rfl⟩
      rw [← hnl] at hve
      subst hve
      have hres : unpackRes y s = (l, true, 0) := by
        have h9 := hrest [] (by rw [hxs]; simp)
        unfold unpackRes
        rw [← HP.out, if_pos rfl, h9]
        rfl
      have HST := hid hst
      have HRES := hid hres
      have HK := hid hK
      clear hst hrest hres hi hK hnl
      gi_wp2
      obtain ⟨n1, n2, n3⟩ := HST.out.num
      refine unpack_end (b := b) (v := .slice va nl vc) (L := l) (d := true) (z := 0) HBE.out (by omega) ?_ ?_ ?_ ?_ ?_ ?_ HRES.out rfl rfl rfl
      · exact (Below.heap_setCell _ _ _ _ (by show b + 1 ≠ b + 1 + 1 + 1; omega)).trans ((Below.heap_setCell _ _ _ _ (by show b + 1 ≠ b + 1 + 1; omega)).trans (heap_set_one HST.out.base.lc _))
      · exact (Below.heap_setCell _ _ _ _ (by show b + 1 + 1 ≠ b + 1 + 1 + 1; omega)).trans (heap_set_one ((Below.heap_setCell _ _ _ _ (by show b + 1 + 1 ≠ b + 1; omega)).trans HST.out.base.dc) _)
      · exact heap_set_one ((Below.heap_setCell _ _ _ _ (by show b + 1 + 1 + 1 ≠ b + 1 + 1; omega)).trans ((Below.heap_setCell _ _ _ _ (by show b + 1 + 1 + 1 ≠ b + 1; omega)).trans HST.out.base.ec)) _
      · exact (((HST.out.row.setO _ (by omega)).setO _ (by omega)).setO _ (by omega)).mono (by omega)
      · exact (((KeepsOthers.setCell _ _ _).trans (KeepsOthers.setCell _ _ _)).trans (KeepsOthers.setCell _ _ _)).same D _ HK.out rfl
      · exact ((HST.out.low.setCell (by show b ≤ b + 1; omega) _).setCell (by show b ≤ b + 1 + 1; omega) _).setCell (by show b ≤ b + 1 + 1 + 1; omega) _
    case stop =>
      rintro D c pre W hD hpre ⟨rfl, he⟩ hK
      obtain ⟨v, l, h1, h2, h3, hrow, h4⟩ := he.st
      obtain ⟨rest, hrest⟩ := hpre
      have hres : unpackRes y s = (l, false, 0) := by
        unfold unpackRes
        rw [← HP.out, if_pos rfl, h4 rest hrest.symm]
      gi_wp2
      exact unpack_end HBE.out (by omega) h1 h2 h3 (hrow.mono (by omega)) hK he.low hres rfl rfl rfl
end Go.Proofs.YtihdndaibmgoiaaGreatDoor.Pz
