/-
  Part K14 of the proofs of this seat: contracts of functions and plain facts, merged from 4 texts.
-/
import Derived.Shelf.Strings.OnBuilder
import Derived.Ground.MpProg
import Derived.Shelf.Strings.Search3
import Derived.Shelf.LaysM
import Derived.Test.YtihdndaibmgoiaaGreatDoorProg
import Derived.Deep.CutBlock
import Derived.Test.YtihdndaibmgoiaaGreatDoorK0
import Derived.Test.YtihdndaibmgoiaaGreatDoorK1
import Derived.Test.YtihdndaibmgoiaaGreatDoorK2
import Derived.Test.YtihdndaibmgoiaaGreatDoorK3
import Derived.Test.YtihdndaibmgoiaaGreatDoorK4
import Derived.Test.YtihdndaibmgoiaaGreatDoorK5
import Derived.Test.YtihdndaibmgoiaaGreatDoorK6
import Derived.Test.YtihdndaibmgoiaaGreatDoorK7
import Derived.Test.YtihdndaibmgoiaaGreatDoorK8
import Derived.Test.YtihdndaibmgoiaaGreatDoorK9
import Derived.Test.YtihdndaibmgoiaaGreatDoorK12
import Derived.Test.YtihdndaibmgoiaaGreatDoorK13
/-
  Digits packed into bytes, plain: hexadecimal ones are unhexE, bits are the bytes they make; base64 read by bits.
-/
namespace Go.Proofs.YtihdndaibmgoiaaGreatDoor.Pz
open Go.RowKit
theorem unhexE_uneven : ∀ (s : Str), s.length % 2 = 1 → unhexE s = none
  | [], h => absurd h (by simp)
  | [_], _ => rfl
  | a :: b :: t, h => by
    have ih := unhexE_uneven t (by simp only [List.length_cons] at h; omega)
    rw [unhexE, ih]
    split <;> rfl
theorem nib_or : ∀ a, a < 16 → ∀ b, b < 16 → ((0 : UInt8) ||| UInt8.ofNat (a <<< 4 % 256)) ||| UInt8.ofNat (b <<< 0 % 256) = UInt8.ofNat (a * 16 + b) := by decide
theorem set_mid (pre : Str) (x y : UInt8) (post : Str) : (pre ++ x :: post).set pre.length y = pre ++ y :: post := by
  rw [List.set_append_right _ _ (Nat.le_refl _), Nat.sub_self]
  rfl
theorem get_mid (pre : Str) (x : UInt8) (post : Str) : (pre ++ x :: post).getD pre.length 0 = x := by
  rw [List.getD_eq_getElem?_getD, List.getElem?_append_right (Nat.le_refl _), Nat.sub_self]
  rfl
theorem dig_unhex (N : Nat) : ∀ (m : Nat) (l pre : Str), l.length = 2 * m → 2 * pre.length + l.length ≤ N → digE 72 N (2 * pre.length) l (pre ++ List.replicate m 0) = (unhexE l).map (pre ++ ·)
  | 0, l, pre, hl, _ => by
    obtain rfl : l = [] := List.eq_nil_of_length_eq_zero hl
    show some (pre ++ []) = some (pre ++ [])
    rfl
  | m + 1, [], pre, hl, _ => absurd hl (by simp)
  | m + 1, [_], pre, hl, _ => absurd hl (by simp only [List.length_cons, List.length_nil]; omega)
  | m + 1, a :: b :: t, pre, hl, hN => by
    have ht : t.length = 2 * m := by simp only [List.length_cons] at hl; omega
    have hN2 : 2 * pre.length + t.length + 2 ≤ N := by simp only [List.length_cons] at hN; omega
    rw [unhexE, digE]
    by_cases ha : 16 ≤ valH a
    · rw [if_pos (show 2 ^ bitsL 72 ≤ valH a from ha), if_pos (Or.inl (by omega))]
      rfl
    · rw [if_neg (show ¬ 2 ^ bitsL 72 ≤ valH a from ha), if_pos (by omega)]
      have e1 : 2 * pre.length * bitsL 72 / 8 = pre.length := by show 2 * pre.length * 4 / 8 = _; omega
      have e2 : shiftL 72 (2 * pre.length) (bitsL 72) = 4 := by show 4 * (1 - 2 * pre.length % 2) = 4; omega
      rw [e1, e2, List.replicate_succ, get_mid, set_mid, digE]
      by_cases hb : 16 ≤ valH b
      · rw [if_pos (show 2 ^ bitsL 72 ≤ valH b from hb), if_pos (Or.inr (by omega))]
        rfl
      · rw [if_neg (show ¬ 2 ^ bitsL 72 ≤ valH b from hb), if_pos (by omega), if_neg (by omega)]
        have e3 : (2 * pre.length + 1) * bitsL 72 / 8 = pre.length := by show (2 * pre.length + 1) * 4 / 8 = _; omega
        have e4 : shiftL 72 (2 * pre.length + 1) (bitsL 72) = 0 := by show 4 * (1 - (2 * pre.length + 1) % 2) = 0; omega
        rw [e3, e4, get_mid, set_mid, nib_or _ (by omega) _ (by omega)]
        obtain ⟨c, hc⟩ : ∃ c, c = UInt8.ofNat (valH a * 16 + valH b) := ⟨_, rfl⟩
        rw [← hc]
        have ih := dig_unhex N m t (pre ++ [c]) ht (by rw [List.length_append]; simp only [List.length_cons, List.length_nil]; omega)
        rw [List.length_append, show 2 * (pre.length + [c].length) = 2 * pre.length + 1 + 1 from rfl, List.append_assoc] at ih
        rw [show c :: List.replicate m 0 = [c] ++ List.replicate m 0 from rfl, ih]
        cases unhexE t with
        | none => rfl
        | some r => simp
theorem dig_hex (s : Str) (h : s.length % 2 = 0) : digE 72 s.length 0 s (List.replicate ((s.length + 1) / 2) 0) = unhexE s := by
  have h1 := dig_unhex s.length (s.length / 2) s [] (by omega) (by simp)
  rw [show (s.length + 1) / 2 = s.length / 2 by omega]
  refine h1.trans ?_
  cases unhexE s <;> rfl
/-- bits put into bytes -/
def vF (f : Nat → Nat) (i : Nat) : Nat → Nat
  | 0 => 0
  | j + 1 => 2 * vF f i j + f (i + j)
theorem vF_lt (f : Nat → Nat) (hf : ∀ t, f t < 2) (i : Nat) : ∀ j, vF f i j < 2 ^ j
  | 0 => Nat.zero_lt_one
  | j + 1 => by
    have h := vF_lt f hf i j
    have h2 := hf (i + j)
    rw [vF, Nat.pow_succ]
    omega
def remB (f : Nat → Nat) (T i : Nat) : Str := (List.range (T - i)).map fun t => hexD (f (i + t))
theorem remB_step (f : Nat → Nat) {T i : Nat} (h : i < T) : remB f T i = hexD (f i) :: remB f T (i + 1) := by
  unfold remB
  rw [show T - i = (T - (i + 1)) + 1 by omega, List.range_succ_eq_map, List.map_cons, List.map_map]
  congr 1
  apply List.map_congr_left
  intro t _
  show hexD (f (i + (t + 1))) = hexD (f (i + 1 + t))
  rw [show i + (t + 1) = i + 1 + t by omega]
theorem bit_or : ∀ j, j < 8 → ∀ q, q < 2 ^ j → ∀ a, a < 2 → UInt8.ofNat (q * 2 ^ (8 - j)) ||| UInt8.ofNat (a <<< (7 - j) % 256) = UInt8.ofNat ((2 * q + a) * 2 ^ (8 - (j + 1))) := by
  have h : (List.range 8).all (fun j => (List.range (2 ^ j)).all fun q => (List.range 2).all fun a => UInt8.ofNat (q * 2 ^ (8 - j)) ||| UInt8.ofNat (a <<< (7 - j) % 256) == UInt8.ofNat ((2 * q + a) * 2 ^ (8 - (j + 1)))) = true := by kernel_rfl
  intro j hj q hq a ha
  have h1 := List.all_eq_true.1 h j (List.mem_range.2 hj)
  have h2 := List.all_eq_true.1 h1 q (List.mem_range.2 hq)
  have h3 := List.all_eq_true.1 h2 a (List.mem_range.2 ha)
  exact eq_of_beq h3
theorem bit_step (f : Nat → Nat) (hf : ∀ t, f t < 2) {N k j : Nat} (pre post : Str) (q : Nat) (hk : pre.length = k) (hj : j < 8) (hN : 8 * k + j < N) (hq : q < 2 ^ j) :
    digE 66 N (8 * k + j) (remB f N (8 * k + j)) (pre ++ UInt8.ofNat (q * 2 ^ (8 - j)) :: post) = digE 66 N (8 * k + j + 1) (remB f N (8 * k + j + 1)) (pre ++ UInt8.ofNat ((2 * q + f (8 * k + j)) * 2 ^ (8 - (j + 1))) :: post) := by
  have hb := hf (8 * k + j)
  rw [remB_step f hN, digE, valH_hexD _ (by omega), if_neg (show ¬ 2 ^ bitsL 66 ≤ f (8 * k + j) by show ¬ 2 ≤ _; omega), if_pos hN]
  have e1 : (8 * k + j) * bitsL 66 / 8 = pre.length := by show (8 * k + j) * 1 / 8 = _; omega
  have e2 : shiftL 66 (8 * k + j) (bitsL 66) = 7 - j := by show 1 * (7 - (8 * k + j) % 8) = _; omega
  rw [e1, e2, get_mid, set_mid, bit_or j hj q hq _ hb]
theorem byte_steps (f : Nat → Nat) (hf : ∀ t, f t < 2) {N k : Nat} (pre post : Str) (hk : pre.length = k) (hN : 8 * k + 8 ≤ N) : ∀ j, j ≤ 8 →
    digE 66 N (8 * k) (remB f N (8 * k)) (pre ++ 0 :: post) = digE 66 N (8 * k + j) (remB f N (8 * k + j)) (pre ++ UInt8.ofNat (vF f (8 * k) j * 2 ^ (8 - j)) :: post)
  | 0, _ => by
    rw [vF, Nat.zero_mul]
    rfl
  | j + 1, hj => by
    rw [byte_steps f hf pre post hk hN j (by omega), bit_step f hf pre post _ hk (by omega) (by omega) (vF_lt f hf _ j)]
    rfl
def pkB (f : Nat → Nat) (n : Nat) : Str := (List.range n).map fun k => UInt8.ofNat (vF f (8 * k) 8)
theorem pkB_len (f : Nat → Nat) (n : Nat) : (pkB f n).length = n := by
  unfold pkB
  rw [List.length_map, List.length_range]
theorem pkB_snoc (f : Nat → Nat) (n : Nat) : pkB f (n + 1) = pkB f n ++ [UInt8.ofNat (vF f (8 * n) 8)] := by
  unfold pkB
  rw [List.range_succ, List.map_append]
  rfl
theorem all_bits (f : Nat → Nat) (hf : ∀ t, f t < 2) (n : Nat) : ∀ (m k : Nat), k + m = n → digE 66 (8 * n) (8 * k) (remB f (8 * n) (8 * k)) (pkB f k ++ List.replicate m 0) = some (pkB f n)
  | 0, k, h => by
    obtain rfl : k = n := h
    unfold remB
    rw [Nat.sub_self]
    show some (pkB f k ++ []) = _
    rw [List.append_nil]
  | m + 1, k, h => by
    rw [List.replicate_succ, byte_steps f hf (pkB f k) (List.replicate m 0) (pkB_len f k) (by omega) 8 (Nat.le_refl _)]
    have ih := all_bits f hf n m (k + 1) (by omega)
    rw [pkB_snoc, List.append_assoc, show 8 * (k + 1) = 8 * k + 8 from rfl] at ih
    rw [show (2 : Nat) ^ (8 - 8) = 1 from rfl, Nat.mul_one]
    exact ih
theorem dig_bits (f : Nat → Nat) (hf : ∀ t, f t < 2) (n : Nat) : digE 66 (8 * n) 0 (remB f (8 * n) 0) (List.replicate n 0) = some (pkB f n) := all_bits f hf n n 0 (Nat.zero_add n)
theorem vF_congr {f g : Nat → Nat} {i : Nat} : ∀ j, (∀ t, t < i + j → f t = g t) → vF f i j = vF g i j
  | 0, _ => rfl
  | j + 1, h => by rw [vF, vF, vF_congr j (fun t ht => h t (by omega)), h (i + j) (by omega)]
theorem pkB_congr {f g : Nat → Nat} (n : Nat) (h : ∀ t, t < 8 * n → f t = g t) : pkB f n = pkB g n := by
  unfold pkB
  apply List.map_congr_left
  intro k hk
  have := List.mem_range.1 hk
  rw [vF_congr 8 (fun t ht => h t (by omega))]
theorem pkB_bits (y : Str) : pkB (bitS y) y.length = y := by
  apply List.ext_getElem
  · exact pkB_len _ _
  · intro k h1 h2
    have e : (pkB (bitS y) y.length)[k] = UInt8.ofNat (vF (bitS y) (8 * k) 8) :=
      (List.getElem_map (l := List.range y.length) (i := k) (h := h1) fun k => UInt8.ofNat (vF (bitS y) (8 * k) 8)).trans (by rw [List.getElem_range])
    rw [e]
    obtain ⟨x, hx⟩ : ∃ x, x = y[k] := ⟨_, rfl⟩
    have hg : y.getD k 0 = x := by rw [hx, List.getD_eq_getElem?_getD, List.getElem?_eq_getElem h2]; rfl
    have hb : ∀ j, j < 8 → bitS y (8 * k + j) = x.toNat / 2 ^ (7 - j) % 2 := fun j hj => by
      unfold bitS
      rw [show (8 * k + j) / 8 = k by omega, show (8 * k + j) % 8 = j by omega, hg]
    have hl := x.toNat_lt
    have hv : vF (bitS y) (8 * k) 8 = x.toNat := by
      show 2 * (2 * (2 * (2 * (2 * (2 * (2 * (2 * 0 + bitS y (8 * k + 0)) + bitS y (8 * k + 1)) + bitS y (8 * k + 2)) + bitS y (8 * k + 3)) + bitS y (8 * k + 4)) + bitS y (8 * k + 5)) + bitS y (8 * k + 6)) + bitS y (8 * k + 7) = _
      rw [hb 0 (by decide), hb 1 (by decide), hb 2 (by decide), hb 3 (by decide), hb 4 (by decide), hb 5 (by decide), hb 6 (by decide), hb 7 (by decide)]
      obtain ⟨n, hn⟩ : ∃ n, n = x.toNat := ⟨_, rfl⟩
      rw [← hn] at hl ⊢
      have s0 : 2 * 0 + n / 2 ^ (7 - 0) % 2 = n / 128 := by show 2 * 0 + n / 128 % 2 = _; omega
      have s1 : 2 * (n / 128) + n / 2 ^ (7 - 1) % 2 = n / 64 := by show 2 * (n / 128) + n / 64 % 2 = _; omega
      have s2 : 2 * (n / 64) + n / 2 ^ (7 - 2) % 2 = n / 32 := by show 2 * (n / 64) + n / 32 % 2 = _; omega
      have s3 : 2 * (n / 32) + n / 2 ^ (7 - 3) % 2 = n / 16 := by show 2 * (n / 32) + n / 16 % 2 = _; omega
      have s4 : 2 * (n / 16) + n / 2 ^ (7 - 4) % 2 = n / 8 := by show 2 * (n / 16) + n / 8 % 2 = _; omega
      have s5 : 2 * (n / 8) + n / 2 ^ (7 - 5) % 2 = n / 4 := by show 2 * (n / 8) + n / 4 % 2 = _; omega
      have s6 : 2 * (n / 4) + n / 2 ^ (7 - 6) % 2 = n / 2 := by show 2 * (n / 4) + n / 2 % 2 = _; omega
      have s7 : 2 * (n / 2) + n / 2 ^ (7 - 7) % 2 = n := by show 2 * (n / 2) + n / 1 % 2 = _; omega
      rw [s0, s1, s2, s3, s4, s5, s6, s7]
    rw [hv, UInt8.ofNat_toNat, hx]
/-- the value of a sign, 0 where it is none -/
def valI (c : UInt8) : Nat := (valB c).getD 0
theorem valI_lt (c : UInt8) : valI c < 64 := by
  unfold valI
  cases h : valB c with
  | none => decide
  | some d =>
    unfold valB at h
    split at h
    · rename_i hm
      have := List.idxOf_lt_length_iff.2 hm
      rw [← Option.some.inj h]
      exact Nat.lt_of_lt_of_le this (by decide)
    · cases h
def sb (s : Str) (t : Nat) : Nat := valI (s.getD (t / 6) 0) / 2 ^ (5 - t % 6) % 2
theorem sb_lt (s : Str) (t : Nat) : sb s t < 2 := Nat.mod_lt _ (by decide)
theorem six_lt (s : Str) (k : Nat) : six s k < 64 := Nat.mod_lt _ (by decide)
theorem six_bit (y : Str) (k j : Nat) (hj : j < 6) : six y k / 2 ^ (5 - j) % 2 = bitS y (6 * k + j) := by
  rw [← six_eq]
  have h0 := bitS_lt y (6 * k + 0)
  have h1 := bitS_lt y (6 * k + 1)
  have h2 := bitS_lt y (6 * k + 2)
  have h3 := bitS_lt y (6 * k + 3)
  have h4 := bitS_lt y (6 * k + 4)
  have h5 := bitS_lt y (6 * k + 5)
  show (2 * (2 * (2 * (2 * (2 * (2 * 0 + bitS y (6 * k + 0)) + bitS y (6 * k + 1)) + bitS y (6 * k + 2)) + bitS y (6 * k + 3)) + bitS y (6 * k + 4)) + bitS y (6 * k + 5)) / 2 ^ (5 - j) % 2 = _
  match j, hj with
  | 0, _ => simp only [Nat.reduceSub, Nat.reducePow]; omega
  | 1, _ => simp only [Nat.reduceSub, Nat.reducePow]; omega
  | 2, _ => simp only [Nat.reduceSub, Nat.reducePow]; omega
  | 3, _ => simp only [Nat.reduceSub, Nat.reducePow]; omega
  | 4, _ => simp only [Nat.reduceSub, Nat.reducePow]; omega
  | 5, _ => simp only [Nat.reduceSub, Nat.reducePow]; omega
theorem sb_b64 (y : Str) (t : Nat) (h : t < 8 * y.length) : sb (b64E y) t = bitS y t := by
  unfold sb
  have hk : t / 6 < sixN y.length := by unfold sixN; omega
  have e : (b64E y).getD (t / 6) 0 = b64L (six y (t / 6)) := by
    rw [b64E_sixes, List.getD_eq_getElem?_getD, List.getElem?_append_left (by rw [sixes_len]; exact hk), List.getElem?_eq_getElem (by rw [sixes_len]; exact hk), sixes_at]
    rfl
  have e2 : valI (b64L (six y (t / 6))) = six y (t / 6) := by
    unfold valI
    rw [valB_b64L _ (six_lt _ _)]
    rfl
  rw [e, e2, six_bit y _ _ (Nat.mod_lt _ (by decide)), show 6 * (t / 6) + t % 6 = t by omega]
/-- read by bits: if a text is told in base64 it is found at one of three lengths -/
theorem unb_found (s y : Str) (h : b64E y = s) : ∃ cut, cut < 3 ∧ cut ≤ 6 * s.length / 8 ∧ pkB (sb s) (6 * s.length / 8 - cut) = y := by
  have hl := b64E_len y
  rw [h] at hl
  refine ⟨(y.length + 2) / 3 * 3 - y.length, by omega, by omega, ?_⟩
  rw [show 6 * s.length / 8 - ((y.length + 2) / 3 * 3 - y.length) = y.length by omega]
  rw [pkB_congr y.length (g := bitS y) (fun t ht => by rw [← h]; exact sb_b64 y t ht)]
  exact pkB_bits y
def bitsU (s : Str) (n : Nat) : Str := (List.range n).map fun t => hexD (sb s t)
theorem bitsU_len (s : Str) (n : Nat) : (bitsU s n).length = n := by
  unfold bitsU
  rw [List.length_map, List.length_range]
theorem bitsU_snoc (s : Str) (n : Nat) : bitsU s (n + 1) = bitsU s n ++ [hexD (sb s n)] := by
  unfold bitsU
  rw [List.range_succ, List.map_append]
  rfl
theorem bitsU_take (s : Str) {m n : Nat} (h : m ≤ n) : (bitsU s n).take m = bitsU s m := by
  unfold bitsU
  rw [← List.map_take, List.take_range, Nat.min_eq_left h]
theorem bitsU_rem (s : Str) (n : Nat) : bitsU s n = remB (sb s) n 0 := by
  unfold bitsU remB
  rw [Nat.sub_zero]
  apply List.map_congr_left
  intro t _
  rw [Nat.zero_add]
end Go.Proofs.YtihdndaibmgoiaaGreatDoor.Pz
/-
  Contracts of the library, laid at this program by the kit's shelf tools.
-/
namespace Go.Proofs.YtihdndaibmgoiaaGreatDoor.Pz
open Go.Shelf
def Tryz.lays159_ren : Go.Shelf.Ren := ⟨fun | 159 => 173 | 165 => 76 | 166 => 77 | 167 => 91 | 169 => 78 | 230 => 136 | 204 => 190 | 240 => 123 | 241 => 124 | 197 => 161 | 118 => 162 | 168 => 163 | 270 => 164 | 262 => 165 | 276 => 153 | 277 => 154 | 260 => 184 | 242 => 185 | 313 => 186 | 278 => 205 | 274 => 206 | 275 => 207 | n => n, fun | 9 => 9 | 4 => 4 | 3 => 3 | 5 => 5 | 72 => 88 | 0 => 0 | 76 => 92 | 75 => 91 | 107 => 158 | 70 => 86 | 20 => 20 | 37 => 46 | 127 => 140 | 21 => 21 | 105 => 173 | 164 => 169 | 162 => 191 | 203 => 189 | 119 => 153 | 46 => 98 | 139 => 156 | 138 => 155 | 51 => 97 | 160 => 210 | 208 => 230 | 206 => 228 | 80 => 94 | n => n, fun | 13 => 3 | 3 => 0 | 4 => 1 | n => n⟩
theorem Tryz.lays159 : Go.Proofs.Lays.n159 Tryz.prog Tryz.lays159_ren := {
  mixed := by kernel_rfl
  f118 := Tryz.func162.trans (congrArg some (by kernel_rfl))
  f159 := Tryz.func173.trans (congrArg some (by kernel_rfl))
  f165 := Tryz.func76.trans (congrArg some (by kernel_rfl))
  f166 := Tryz.func77.trans (congrArg some (by kernel_rfl))
  f167 := Tryz.func91.trans (congrArg some (by kernel_rfl))
  f168 := Tryz.func163.trans (congrArg some (by kernel_rfl))
  f169 := Tryz.func78.trans (congrArg some (by kernel_rfl))
  f197 := Tryz.func161.trans (congrArg some (by kernel_rfl))
  f204 := Tryz.func190.trans (congrArg some (by kernel_rfl))
  f230 := Tryz.func136.trans (congrArg some (by kernel_rfl))
  f240 := Tryz.func123.trans (congrArg some (by kernel_rfl))
  f241 := Tryz.func124.trans (congrArg some (by kernel_rfl))
  f242 := Tryz.func185.trans (congrArg some (by kernel_rfl))
  f260 := Tryz.func184.trans (congrArg some (by kernel_rfl))
  f262 := Tryz.func165.trans (congrArg some (by kernel_rfl))
  f270 := Tryz.func164.trans (congrArg some (by kernel_rfl))
  f274 := Tryz.func206.trans (congrArg some (by kernel_rfl))
  f275 := Tryz.func207.trans (congrArg some (by kernel_rfl))
  f276 := Tryz.func153.trans (congrArg some (by kernel_rfl))
  f277 := Tryz.func154.trans (congrArg some (by kernel_rfl))
  f278 := Tryz.func205.trans (congrArg some (by kernel_rfl))
  f313 := Tryz.func186.trans (congrArg some (by kernel_rfl))
  t0 := Tryz.underlying0
  a0 := Tryz.isAgg0
  z0 := Tryz.sizeOf0
  v0 := Tryz.zeroValue0
  t3 := Tryz.underlying3
  a3 := Tryz.isAgg3
  z3 := Tryz.sizeOf3
  v3 := Tryz.zeroValue3
  t4 := Tryz.underlying4
  a4 := Tryz.isAgg4
  z4 := Tryz.sizeOf4
  v4 := Tryz.zeroValue4
  t5 := Tryz.underlying5
  a5 := Tryz.isAgg5
  z5 := Tryz.sizeOf5
  v5 := Tryz.zeroValue5
  t9 := Tryz.underlying9
  a9 := Tryz.isAgg9
  z9 := Tryz.sizeOf9
  v9 := Tryz.zeroValue9
  t20 := Tryz.underlying20
  a20 := Tryz.isAgg20
  z20 := Tryz.sizeOf20
  v20 := Tryz.zeroValue20
  t21 := Tryz.underlying21
  a21 := Tryz.isAgg21
  z21 := Tryz.sizeOf21
  v21 := Tryz.zeroValue21
  t37 := Tryz.underlying46
  a37 := Tryz.isAgg46
  z37 := Tryz.sizeOf46
  v37 := Tryz.zeroValue46
  t46 := Tryz.underlying98
  a46 := Tryz.isAgg98
  z46 := Tryz.sizeOf98
  v46 := Tryz.zeroValue98
  t51 := Tryz.underlying97
  a51 := Tryz.isAgg97
  z51 := Tryz.sizeOf97
  v51 := Tryz.zeroValue97
  t70 := Tryz.underlying86
  a70 := Tryz.isAgg86
  z70 := Tryz.sizeOf86
  v70 := Tryz.zeroValue86
  t72 := Tryz.underlying88
  a72 := Tryz.isAgg88
  z72 := Tryz.sizeOf88
  v72 := Tryz.zeroValue88
  t75 := Tryz.underlying91
  a75 := Tryz.isAgg91
  z75 := Tryz.sizeOf91
  v75 := Tryz.zeroValue91
  t76 := Tryz.underlying92
  a76 := Tryz.isAgg92
  z76 := Tryz.sizeOf92
  v76 := Tryz.zeroValue92
  t105 := Tryz.underlying173
  a105 := Tryz.isAgg173
  z105 := Tryz.sizeOf173
  v105 := Tryz.zeroValue173
  t107 := Tryz.underlying158
  a107 := Tryz.isAgg158
  z107 := Tryz.sizeOf158
  v107 := Tryz.zeroValue158
  t119 := Tryz.underlying153
  a119 := Tryz.isAgg153
  z119 := Tryz.sizeOf153
  t127 := Tryz.underlying140
  a127 := Tryz.isAgg140
  z127 := Tryz.sizeOf140
  v127 := Tryz.zeroValue140
  t138 := Tryz.underlying155
  a138 := Tryz.isAgg155
  z138 := Tryz.sizeOf155
  v138 := Tryz.zeroValue155
  t139 := Tryz.underlying156
  a139 := Tryz.isAgg156
  z139 := Tryz.sizeOf156
  v139 := Tryz.zeroValue156
  t160 := Tryz.underlying210
  a160 := Tryz.isAgg210
  z160 := Tryz.sizeOf210
  v160 := Tryz.zeroValue210
  t162 := Tryz.underlying191
  a162 := Tryz.isAgg191
  z162 := Tryz.sizeOf191
  v162 := Tryz.zeroValue191
  t164 := Tryz.underlying169
  a164 := Tryz.isAgg169
  z164 := Tryz.sizeOf169
  v164 := Tryz.zeroValue169
  t203 := Tryz.underlying189
  a203 := Tryz.isAgg189
  z203 := Tryz.sizeOf189
  v203 := Tryz.zeroValue189
  t206 := Tryz.underlying228
  a206 := Tryz.isAgg228
  z206 := Tryz.sizeOf228
  v206 := Tryz.zeroValue228
  t208 := Tryz.underlying230
  a208 := Tryz.isAgg230
  z208 := Tryz.sizeOf230
  v208 := Tryz.zeroValue230
  g3 := by kernel_rfl
  g4 := by kernel_rfl
  g13 := by kernel_rfl }
theorem Tryz.Builder_Extra_159 : Builder.Extra Tryz.prog Tryz.lays159_ren := {
  sizeBuilder := by kernel_rfl
  liesBuilder := by kernel_rfl
  t5 := Tryz.underlying5
  a5 := Tryz.isAgg5
  z5 := Tryz.sizeOf5
  v5 := Tryz.zeroValue5
  infoByte := by kernel_rfl
  cellsByte := by kernel_rfl
  sizeByte := by kernel_rfl
  neB5 := by decide }
open Go.RowKit in
theorem Tryz.strings_ToLower_ascii (s : ByteArray) (w : World) (hs : s.size ≤ 140737488355328) (hascii : ∀ (j : Nat) (b : UInt8), s.data.toList[j]? = some b → b.toNat < 128) :
    Calls Tryz.prog 173 #[.string s] w fun e w' => e = .returned (.string ⟨(Lib.toLowerA s.data.toList).toArray⟩) ∧ Below w.heap.size w w' := Any.strings_ToLower_ascii Tryz.lays159 Tryz.Builder_Extra_159 s w hs hascii
def Tryz.lays143_ren : Go.Shelf.Ren := ⟨fun | 143 => 102 | 219 => 142 | 217 => 139 | 225 => 170 | 224 => 171 | 267 => 172 | 266 => 167 | 314 => 189 | n => n, fun | 9 => 9 | 3 => 3 | 4 => 4 | 5 => 5 | 46 => 98 | 146 => 192 | 51 => 97 | n => n, fun | 1 => 2 | n => n⟩
theorem Tryz.lays143 : Go.Proofs.Lays.n143 Tryz.prog Tryz.lays143_ren := {
  mixed := by kernel_rfl
  f143 := Tryz.func102.trans (congrArg some (by kernel_rfl))
  f217 := Tryz.func139.trans (congrArg some (by kernel_rfl))
  f219 := Tryz.func142.trans (congrArg some (by kernel_rfl))
  f224 := Tryz.func171.trans (congrArg some (by kernel_rfl))
  f225 := Tryz.func170.trans (congrArg some (by kernel_rfl))
  f266 := Tryz.func167.trans (congrArg some (by kernel_rfl))
  f267 := Tryz.func172.trans (congrArg some (by kernel_rfl))
  f314 := Tryz.func189.trans (congrArg some (by kernel_rfl))
  t3 := Tryz.underlying3
  a3 := Tryz.isAgg3
  z3 := Tryz.sizeOf3
  v3 := Tryz.zeroValue3
  t4 := Tryz.underlying4
  a4 := Tryz.isAgg4
  z4 := Tryz.sizeOf4
  v4 := Tryz.zeroValue4
  t5 := Tryz.underlying5
  a5 := Tryz.isAgg5
  z5 := Tryz.sizeOf5
  v5 := Tryz.zeroValue5
  t9 := Tryz.underlying9
  a9 := Tryz.isAgg9
  z9 := Tryz.sizeOf9
  v9 := Tryz.zeroValue9
  t46 := Tryz.underlying98
  a46 := Tryz.isAgg98
  z46 := Tryz.sizeOf98
  v46 := Tryz.zeroValue98
  t51 := Tryz.underlying97
  a51 := Tryz.isAgg97
  z51 := Tryz.sizeOf97
  v51 := Tryz.zeroValue97
  t146 := Tryz.underlying192
  a146 := Tryz.isAgg192
  z146 := Tryz.sizeOf192
  v146 := Tryz.zeroValue192
  g1 := by kernel_rfl }
open Go.RowKit Go.Lib in
theorem Tryz.strings_Index_one (s : ByteArray) (c : UInt8) (w : World) :
    Calls Tryz.prog 102 #[.string s, .string ⟨#[c]⟩] w fun e w' => e = .returned (.int .i64 (Lib.indexByte s.data.toList c)) ∧ w' = w := Any.strings_Index_one Tryz.lays143 s c w
end Go.Proofs.YtihdndaibmgoiaaGreatDoor.Pz
/-
  The reference 10: digit, packed.
-/
namespace Go.Proofs.YtihdndaibmgoiaaGreatDoor.Pz
open Go.RowKit
attribute [local go_sem] Oper.semAt_some
/-- what the reference's digit answers: the number, -1 if there is none; of the byte's lower seven bits -/
def dgI (c : UInt8) : Int := if valH (UInt8.ofNat (c.toNat % 128)) < 16 then (valH (UInt8.ofNat (c.toNat % 128)) : Nat) else -1
theorem digit_index (c : UInt8) : Lib.indexByte [48, 49, 50, 51, 52, 53, 54, 55, 56, 57, 97, 98, 99, 100, 101, 102] (Lib.lowerB (UInt8.ofNat (c.toNat % 128))) = dgI c := by
  have h : (List.range 256).all (fun n => Lib.indexByte [48, 49, 50, 51, 52, 53, 54, 55, 56, 57, 97, 98, 99, 100, 101, 102] (Lib.lowerB (UInt8.ofNat (n % 128))) == (if valH (UInt8.ofNat (n % 128)) < 16 then ((valH (UInt8.ofNat (n % 128)) : Nat) : Int) else -1)) = true := by kernel_rfl
  have h2 := List.all_eq_true.1 h c.toNat (List.mem_range.2 c.toNat_lt)
  unfold dgI
  simpa using h2
theorem and127 (c : UInt8) : Go.bits .and .u8 (c.toNat : Int) 127 = (((UInt8.ofNat (c.toNat % 128)).toNat : Nat) : Int) := by
  have h : (List.range 256).all (fun n => Go.bits .and .u8 (n : Int) 127 == (((UInt8.ofNat (n % 128)).toNat : Nat) : Int)) = true := by kernel_rfl
  have h2 := List.all_eq_true.1 h c.toNat (List.mem_range.2 c.toNat_lt)
  simpa using h2
set_option maxRecDepth 100000 in
set_option maxHeartbeats 2000000 in
theorem digitR_fn (c : UInt8) (w : World) : Calls Tryz.prog 143 #[.int .u8 (c.toNat : Nat)] w fun e w' => e = .returned (.int .i64 (dgI c)) ∧ Below w.heap.size w w' := by
  have hand := and127 c
  have hdi := digit_index c
  obtain ⟨b, hb⟩ : ∃ b, b = UInt8.ofNat (c.toNat % 128) := ⟨_, rfl⟩
  have hbl : b.toNat < 128 := by rw [hb, ofNat_lt2 (by omega)]; omega
  obtain ⟨R, hR⟩ : ∃ R, R = dgI c := ⟨_, rfl⟩
  rw [← hb] at hand hdi
  rw [← hR] at hdi ⊢
  obtain ⟨w1, hw1⟩ : ∃ w1, w1 = w.alloc (.cells #[.int .u8 (b.toNat : Nat)] 5) := ⟨_, rfl⟩
  have hcv := run_convert_bytes_back (P := Tryz.prog) w1 46 9 5 ⟨w.heap.size, 0, none⟩ 1 [b] Tryz.underlying46 Tryz.underlying5 Tryz.underlying9 (fun k hk => by
    rw [hw1, add_none, Nat.zero_add, Lib.cell_of_heap (heap_alloc_new _ _)]
    match k, hk with
    | 0, _ => rfl)
  have HB1 := hid (show Below w.heap.size w w1 by rw [hw1]; exact (Below.refl _ _).alloc (Nat.le_refl _) _)
  have HL := hid (fun u => Tryz.strings_ToLower_ascii ⟨[b].toArray⟩ u (by rw [Lib.size_mk]; show 1 ≤ 140737488355328; decide) (fun j x hj => by
    have hj : ([b] : Str)[j]? = some x := hj
    match j, hj with
    | 0, hj => simp at hj; rw [← hj]; exact hbl))
  have HLL := hid (show ∀ u, Calls Tryz.prog 173 #[.string ⟨[b].toArray⟩] u fun e w' => e = .returned (.string ⟨#[Lib.lowerB b]⟩) ∧ Below u.heap.size u w' from HL.out)
  have HI := hid (show ∀ u, Calls Tryz.prog 102 #[.string ⟨#[48, 49, 50, 51, 52, 53, 54, 55, 56, 57, 97, 98, 99, 100, 101, 102]⟩, .string ⟨#[Lib.lowerB b]⟩] u fun e w' => e = .returned (.int .i64 R) ∧ w' = u from fun u => by
    have h := Tryz.strings_Index_one ⟨#[48, 49, 50, 51, 52, 53, 54, 55, 56, 57, 97, 98, 99, 100, 101, 102]⟩ (Lib.lowerB b) u
    rw [← hdi]
    exact h)
  rw [hw1, show ([b] : Str).length = 1 from rfl] at hcv
  have HW1 := hid hw1
  clear hb hR hdi HL hw1
  go_enter Tryz.func143, Tryz.ntmps143
  go_wp2_with (first | (go_at_call 173; (with_reducible refine (HLL.out _).mono ?_); rintro e w3 ⟨rfl, hb3⟩; rw [← HW1.out] at hb3; have HB3 := hid (HB1.out.trans (hb3.mono HB1.out.size)); clear hb3) | (go_at_call 102; (with_reducible refine (HI.out _).mono ?_); rintro e w4 ⟨rfl, rfl⟩))
  go_ret
  exact ⟨rfl, HB3.out⟩
theorem dgI_big {d : UInt8} (h : d.toNat < 128) (hv : 16 ≤ valH d) : dgI d = -1 := by
  unfold dgI
  rw [Nat.mod_eq_of_lt h, UInt8.ofNat_toNat, if_neg (by omega)]
theorem dgI_small {d : UInt8} (hv : valH d < 16) : d.toNat < 128 ∧ dgI d = (valH d : Nat) := by
  have h : d.toNat < 128 := by
    unfold valH at hv
    split at hv
    · omega
    · split at hv
      · omega
      · split at hv
        · omega
        · omega
  refine ⟨h, ?_⟩
  unfold dgI
  rw [Nat.mod_eq_of_lt h, UInt8.ofNat_toNat, if_pos hv]
theorem valH_le (d : UInt8) : valH d ≤ 16 := by
  unfold valH
  split
  · omega
  · split
    · omega
    · split <;> omega
def PkdQ (r : Option Str) (w : World) (e : Ending) (w' : World) : Prop := ∃ v, e = .returned (.tuple #[v, .bool r.isSome]) ∧ RowY w.heap.size w' v (r.getD []) ∧ Below w.heap.size w w'
set_option maxRecDepth 1000000 in
set_option maxHeartbeats 8000000 in
theorem packed2R_fn (c : UInt8) (p : Bool) (n : Int) (hbits : bitsL c = 4) (hg : grt c = (c == 72 || c == 66)) (s : Str) (hs : s.length ≤ 100000) (hn : -2 ≤ n ∧ n ≤ 800000) (w : World) :
    Calls Tryz.prog 103 #[.agg #[.int .u8 (c.toNat : Nat), .bool p, .int .i64 n], .string ⟨s.toArray⟩, .int .i64 2] w (PkdQ (digE c (cntT ⟨c, p, n⟩ s) 0 s (List.replicate ((cntT ⟨c, p, n⟩ s + 1) / 2) 0)) w) := by
  have hsz : (⟨s.toArray⟩ : ByteArray).size = s.length := Lib.size_mk _
  obtain ⟨N, hN⟩ : ∃ N, N = cntT ⟨c, p, n⟩ s := ⟨_, rfl⟩
  obtain ⟨M, hM⟩ : ∃ M, M = (N + 1) / 2 := ⟨_, rfl⟩
  rw [← hN, ← hM]
  have hN1 := hid (fun (h : n = -1) => show N = 1 by rw [hN]; unfold cntT oneC; subst h; rfl)
  have hN2 := hid (fun (h : n = -2) => show N = s.length by rw [hN]; unfold cntT; subst h; rfl)
  have hN3 := hid (fun (h : 0 ≤ n) => show (N : Int) = n by
    rw [hN]; unfold cntT oneC; dsimp only
    rw [if_neg (by omega), if_neg (by omega)]; omega)
  have hN9 : N ≤ 800000 := by
    rcases (show n = -1 ∨ n = -2 ∨ 0 ≤ n by omega) with h | h | h
    · rw [hN1.out h]; decide
    · rw [hN2.out h]; omega
    · have := hN3.out h; omega
  obtain ⟨R, hR⟩ : ∃ R, R = digE c N 0 s (List.replicate M 0) := ⟨_, rfl⟩
  rw [← hR]
  have HR := hid hR
  obtain ⟨w0, hw0⟩ : ∃ w0, w0 = w.alloc (.cells #[.int .u8 (c.toNat : Nat), .bool p, .int .i64 n] 103) := ⟨_, rfl⟩
  have c0 : w0.cell? ⟨w.heap.size, 0, none⟩ = some (.int .u8 (c.toNat : Nat)) := by rw [hw0, Lib.cell_of_heap (heap_alloc_new _ _)]; rfl
  have c2 : w0.cell? ⟨w.heap.size, 2, none⟩ = some (.int .i64 n) := by rw [hw0, Lib.cell_of_heap (heap_alloc_new _ _)]; rfl
  have HC0 := hid c0
  have HB0 := hid (show Below w.heap.size w w0 by rw [hw0]; exact (Below.refl _ _).alloc (Nat.le_refl _) _)
  have HZ0 := hid (show w.heap.size < w0.heap.size by rw [hw0]; simp)
  have HGR := hid (fun u => great_fn c u)
  have HG := hid hg
  have HBITS := hid hbits
  have HW0 := hid hw0
  have HMN := hid hM
  clear hw0 hbits hR hg hN hM c0
  unfold PkdQ
  go_enter Tryz.func103, Tryz.ntmps103
  go_upto_block 0 with fail
  rw [← HW0.out]
  go_cut [8] from 13 to 83 (fun nv wx => nv = .int .i64 (N : Nat) ∧ wx = w0)
  case first =>
    rcases (show n = -1 ∨ n = -2 ∨ 0 ≤ n by omega) with h | h | h
    · have HQ := hid (hN1.out h)
      subst h
      go_wp2
      go_meet
      case rel => exact ⟨by rw [HQ.out]; rfl, rfl⟩
    · have HQ := hid (hN2.out h)
      subst h
      go_wp2
      go_meet
      case rel => exact ⟨by rw [HQ.out], rfl⟩
    · have HQ := hid (hN3.out h)
      have e1 : (n == -1) = false := by rw [beq_eq_false_iff_ne]; omega
      have e2 : (n == -2) = false := by rw [beq_eq_false_iff_ne]; omega
      clear h hn
      go_wp2
      go_meet
      case rel => exact ⟨by rw [HQ.out], rfl⟩
  obtain ⟨rfl, hw⟩ := hcut
  replace hw := hw.symm
  subst hw
  clear hN1 hN2 hN3 hn c2 HW0
  have htd : Int.tdiv ((N : Int) + 2 - 1) 2 = (M : Int) := by rw [Int.tdiv_eq_ediv_of_nonneg (by omega), HMN.out]; omega
  have htd2 : Int.tdiv ((N : Int) + 1) 2 = (M : Int) := by rw [Int.tdiv_eq_ediv_of_nonneg (by omega), HMN.out]; omega
  have htd3 : ((N : Int) + 2 - 1) / 2 = (M : Int) := by rw [HMN.out]; omega
  have htd4 : ((N : Int) + 1) / 2 = (M : Int) := by rw [HMN.out]; omega
  have hM9 : M ≤ 800000 := by rw [HMN.out]; omega
  have hwM : IntKind.i64.wrap (M : Int) = (M : Int) := IntWalk.i64_in _ (by omega)
  go_upto_region 8 with (at_make; refine mk_zero _ rfl _ _ rfl M _ _ rfl rfl rfl rfl (by omega) ?_; intro w4 hr4 hb4; have HRO := hid hr4; have HB4 := hid hb4; clear hr4 hb4)
  obtain ⟨G, hG⟩ : ∃ G, G = w0.heap.size := ⟨_, rfl⟩
  rw [← hG] at HRO HB4 HZ0
  rw [← hG]
  have HGE := hid hG
  clear hG
  have HC4 := hid (show w4.cell? ⟨w.heap.size, 0, none⟩ = some (.int .u8 (c.toNat : Nat)) from (HB4.out.cell (p := ⟨w.heap.size, 0, none⟩) HZ0.out).trans HC0.out)
  clear htd htd2 htd3 htd4 hwM HC0
  go_wp2_with fail
  go_loopg [31] s.length (fun k iv wr => ∃ (i : Nat) (o l : Str), iv = .int .i64 (i : Nat) ∧ At s l i ∧ RowY G wr (.slice (some ⟨G, 0, none⟩) M M) o ∧ o.length = M ∧ R = digE c N i l o ∧ wr.cell? ⟨w.heap.size, 0, none⟩ = some (.int .u8 (c.toNat : Nat)) ∧ Below G w0 wr ∧ k = l.length)
  case atStart => exact ⟨0, _, s, rfl, At.start s, HRO.out, by simp, HR.out, HC4.out, HB4.out, rfl⟩
  case round =>
    obtain ⟨i, o, l, rfl, ha, hro, hol, hR2, hc0, hbl, rfl⟩ := hrel
    have HROW := hid hro
    have HR2 := hid hR2
    have HCC := hid hc0
    have HBL := hid hbl
    have hlen := ha.len
    have HA := hid ha
    clear hro hR2 hc0 hbl ha HRO HC4 HB4
    cases l with
    | nil =>
      have hge : ¬ ((i : Int) < (s.length : Int)) := by simp at hlen; omega
      have HO := hid (show R = some o from HR2.out)
      go_wp2
      go_ret2
      exact ⟨_, by rw [HO.out]; rfl, by rw [HO.out]; exact RowY.mono HROW.out (by have := HZ0.out; omega), HB0.out.trans (HBL.out.mono (by have := HZ0.out; omega))⟩
    | cons d t =>
      have hlt := HA.out.lt
      have hltI : (i : Int) < (s.length : Int) := by omega
      have hx := HA.out.byte
      have hR3 := HR2.out
      rw [digE, HBITS.out] at hR3
      have HDF := hid (fun u => digitR_fn d u)
      obtain ⟨dv, hdv⟩ : ∃ dv, dv = dgI d := ⟨_, rfl⟩
      rw [← hdv] at HDF
      by_cases hbad : 2 ^ 4 ≤ valH d
      · have HO := hid (show R = none by rw [hR3, if_pos hbad])
        by_cases h127 : 127 < d.toNat
        · have hI : (127 : Int) < (d.toNat : Int) := by omega
          clear hR3 hbad hdv h127
          go_wp2_with (go_at_call 143; (with_reducible refine (HDF.out _).mono ?_); rintro e w5 ⟨rfl, hb5⟩; have HB5 := hid hb5; clear hb5)
          go_ret2
          exact ⟨_, by rw [HO.out]; rfl, by rw [HO.out]; exact RowY.nil _ _, HB0.out.trans ((HBL.out.trans (HB5.out.mono (by have := HBL.out.size; have := HGE.out; omega))).mono (by have := HZ0.out; omega))⟩
        · have hI : ¬ ((127 : Int) < (d.toNat : Int)) := by omega
          by_cases h16 : 16 ≤ valH d
          · have hneg : dv = -1 := by rw [hdv]; exact dgI_big (by omega) h16
            subst hneg
            clear hR3 hbad hdv h127 h16
            go_wp2_with (go_at_call 143; (with_reducible refine (HDF.out _).mono ?_); rintro e w5 ⟨rfl, hb5⟩; have HB5 := hid hb5; clear hb5)
            go_ret2
            exact ⟨_, by rw [HO.out]; rfl, by rw [HO.out]; exact RowY.nil _ _, HB0.out.trans ((HBL.out.trans (HB5.out.mono (by have := HBL.out.size; have := HGE.out; omega))).mono (by have := HZ0.out; omega))⟩
          · exact absurd (show 16 ≤ valH d from hbad) h16
      · obtain ⟨v, hv⟩ : ∃ v, v = valH d := ⟨_, rfl⟩
        rw [← hv] at hbad hR3
        rw [if_neg hbad] at hR3
        have hvl : v < 16 := by omega
        obtain ⟨h128, hd2⟩ := dgI_small (d := d) (by rw [← hv]; omega)
        have hdV : dv = (v : Int) := by rw [hdv, hd2, hv]
        subst hdV
        have hI : ¬ ((127 : Int) < (d.toNat : Int)) := by omega
        have h1v : ¬ ((15 : Int) < (v : Int)) := by omega
        have HO := hid hR3
        clear hR3 hbad hdv h128 hd2 hv
        by_cases hiN : i < N
        · have hiI : ¬ ((N : Int) ≤ (i : Int)) := by omega
          obtain ⟨J, hJe⟩ : ∃ J, J = i * 4 / 8 := ⟨_, rfl⟩
          have hJ : J < M := by have := HMN.out; omega
          have hJI : (i : Int) / 2 = (J : Int) := by omega
          have hJM : (J : Int) < (M : Int) := by omega
          obtain ⟨m, hm⟩ : ∃ m, m = i % 2 := ⟨_, rfl⟩
          have hml : m < 2 := by rw [hm]; exact Nat.mod_lt _ (by decide)
          have htm : Int.tmod (i : Int) 2 = (m : Int) := by rw [Int.tmod_eq_emod_of_nonneg (by omega)]; omega
          have hwm : IntKind.i64.wrap (m : Int) = (m : Int) := IntWalk.i64_in _ (by omega)
          have HSH := hid (show shiftL c i 4 = 4 * (if grt c then 2 - 1 - m else m) by
            unfold shiftL
            rw [hm, ← HG.out]
            cases grt c <;> rfl)
          obtain ⟨ob, hob⟩ : ∃ ob, o[J]? = some ob := ⟨_, List.getElem?_eq_getElem (by omega)⟩
          have HJE := hid hJe
          have HOB := hid hob
          clear hJe hm hob
          cases hgc : grt c with
          | false =>
            obtain ⟨pl, hpl⟩ : ∃ pl, pl = m := ⟨_, rfl⟩
            have hplI : (m : Int) = (pl : Int) := by omega
            have hpl8 : pl < 2 := by omega
            obtain ⟨sh, hsh⟩ : ∃ sh, sh = 4 * pl := ⟨_, rfl⟩
            have hshI : (pl : Int) * 8 / 2 = (sh : Int) := by omega
            have hsh7 : sh ≤ 7 := by omega
            have HSL := hid (show IntKind.i64.wrap ((v : Int) * 2 ^ sh) = (v : Int) * 2 ^ sh by
              have hs := shl_in (v := v) (sh := sh) (by omega) hsh7
              rw [Nat.min_eq_left (by omega)] at hs
              exact hs)
            have HSHE := hid (show shiftL c i 4 = sh by rw [HSH.out, hgc, hsh, hpl]; rfl)
            have HGC := hid (show ∀ u, Calls Tryz.prog 133 #[.int .u8 (c.toNat : Nat)] u fun e w' => e = .returned (.bool false) ∧ w' = u from fun u => by have h := HGR.out u; rw [hgc] at h; exact h)
            obtain ⟨nb, hne⟩ : ∃ nb : UInt8, nb = ob ||| UInt8.ofNat (v * 2 ^ sh % 256) := ⟨_, rfl⟩
            have HNE := hid hne
            clear hne hgc hpl hsh
            go_upto_region 18 with (first | (go_at_call 143; (with_reducible refine (HDF.out _).mono ?_); rintro e w5 ⟨rfl, hb5⟩; have hc5 := (hb5.cell (p := ⟨w.heap.size, 0, none⟩) (by have := HZ0.out; have := (HROW.out.lt G rfl).1; show w.heap.size < wr.heap.size; omega)).trans HCC.out; have HC5 := hid hc5; have HB5 := hid hb5; clear hb5) | (go_at_call 133; (with_reducible refine (HGC.out _).mono ?_); rintro e w6 ⟨rfl, rfl⟩))
            have HROW5 := hid (HROW.out.on HB5.out)
            have hcJ : w6.cell? ⟨G, J, none⟩ = some (.int .u8 (ob.toNat : Nat)) := by
              obtain ⟨hJl, hoe⟩ := List.getElem?_eq_some_iff.1 HOB.out
              rw [← hoe]
              exact HROW5.out.cellI hJl
            have S0 : Hid ((fun u : World => u.cell? ⟨w.heap.size, 0, none⟩ = some (.int .u8 (c.toNat : Nat)) ∧ u.cell? ⟨G, J, none⟩ = some (.int .u8 (ob.toNat : Nat))) w6.drew) := hid ⟨HC5.out, hcJ⟩
            clear hcJ hc5
            refine U_begin (late := fun k => decide (14 ≤ k)) (S := fun u : World => u.cell? ⟨w.heap.size, 0, none⟩ = some (.int .u8 (c.toNat : Nat)) ∧ u.cell? ⟨G, J, none⟩ = some (.int .u8 (ob.toNat : Nat))) (by kernel_rfl) ?_
            refine U_take2 8 (i := 0) (v := .slice (some ⟨G, 0, none⟩) M M) rfl (by kernel_rfl) (by kernel_rfl) (by kernel_rfl) (by kernel_rfl) (by kernel_rfl) (fun _ _ _ h => h) (.inl ⟨rfl, fun u hu => (by go_simp)⟩) S0.out ?_
            refine U_take2 8 (i := 1) (v := .int .i64 (i : Nat)) rfl (by kernel_rfl) (by kernel_rfl) (by kernel_rfl) (by kernel_rfl) (by kernel_rfl) (fun _ _ _ h => h) (.inl ⟨rfl, fun u hu => (by go_simp)⟩) S0.out ?_
            refine U_take2 8 (i := 2) (v := .int .i64 2) rfl (by kernel_rfl) (by kernel_rfl) (by kernel_rfl) (by kernel_rfl) (by kernel_rfl) (fun _ _ _ h => h) (.inl ⟨rfl, fun u hu => (by go_simp)⟩) S0.out ?_
            refine U_take2 8 (i := 3) (v := .int .i64 (J : Nat)) rfl (by kernel_rfl) (by kernel_rfl) (by kernel_rfl) (by kernel_rfl) (by kernel_rfl) (fun _ _ _ h => h) (.inl ⟨rfl, fun u hu => (by go_simp <;> first | exact IntWalk.i64_in _ (by omega) | (rw [Int.tdiv_eq_ediv_of_nonneg (by omega)]; rw [IntWalk.i64_in _ (by omega)]; exact hJI) | (rw [IntWalk.i64_in _ (by omega)]; omega))⟩) S0.out ?_
            refine U_take2 8 (i := 4) (v := .pointer (some ⟨G, J, none⟩)) rfl (by kernel_rfl) (by kernel_rfl) (by kernel_rfl) (by kernel_rfl) (by kernel_rfl) (fun _ _ _ h => h) (.inl ⟨rfl, fun u hu => (by go_simp)⟩) S0.out ?_
            refine U_take2 8 (i := 5) (v := .int .u8 (ob.toNat : Nat)) rfl (by kernel_rfl) (by kernel_rfl) (by kernel_rfl) (by kernel_rfl) (by kernel_rfl) (fun _ _ _ h => h) (.inl ⟨rfl, fun u hu => (by obtain ⟨h1, h2⟩ := hu; go_simp)⟩) S0.out ?_
            refine U_take2 8 (i := 6) (v := .int .i64 (v : Nat)) rfl (by kernel_rfl) (by kernel_rfl) (by kernel_rfl) (by kernel_rfl) (by kernel_rfl) (fun _ _ _ h => h) (.inl ⟨rfl, fun u hu => (by go_simp)⟩) S0.out ?_
            refine U_take2 8 (i := 7) (v := .int .i64 (pl : Nat)) rfl (by kernel_rfl) (by kernel_rfl) (by kernel_rfl) (by kernel_rfl) (by kernel_rfl) (fun _ _ _ h => h) (.inl ⟨rfl, fun u hu => (by go_simp)⟩) S0.out ?_
            refine U_take2 8 (i := 8) (v := .int .i64 ((pl : Int) * 8)) rfl (by kernel_rfl) (by kernel_rfl) (by kernel_rfl) (by kernel_rfl) (by kernel_rfl) (fun _ _ _ h => h) (.inl ⟨rfl, fun u hu => (by go_simp <;> exact IntWalk.i64_in _ (by omega))⟩) S0.out ?_
            refine U_take2 8 (i := 9) (v := .int .i64 2) rfl (by kernel_rfl) (by kernel_rfl) (by kernel_rfl) (by kernel_rfl) (by kernel_rfl) (fun _ _ _ h => h) (.inl ⟨rfl, fun u hu => (by go_simp)⟩) S0.out ?_
            refine U_take2 8 (i := 10) (v := .int .i64 (sh : Nat)) rfl (by kernel_rfl) (by kernel_rfl) (by kernel_rfl) (by kernel_rfl) (by kernel_rfl) (fun _ _ _ h => h) (.inl ⟨rfl, fun u hu => (by go_simp <;> first | exact IntWalk.i64_in _ (by omega) | (rw [Int.tdiv_eq_ediv_of_nonneg (by omega)]; rw [IntWalk.i64_in _ (by omega)]; exact hshI) | (rw [IntWalk.i64_in _ (by omega)]; omega))⟩) S0.out ?_
            refine U_take2 8 (i := 11) (v := .int .i64 ((v : Int) * 2 ^ sh)) rfl (by kernel_rfl) (by kernel_rfl) (by kernel_rfl) (by kernel_rfl) (by kernel_rfl) (fun _ _ _ h => h) (.inl ⟨rfl, fun u hu => (by go_simp <;> exact HSL.out)⟩) S0.out ?_
            refine U_take2 8 (i := 12) (v := .int .u8 (((v * 2 ^ sh % 256 : Nat)) : Int)) rfl (by kernel_rfl) (by kernel_rfl) (by kernel_rfl) (by kernel_rfl) (by kernel_rfl) (fun _ _ _ h => h) (.inl ⟨rfl, fun u hu => (by go_simp <;> exact IntKind.wrap_u8 _)⟩) S0.out ?_
            refine U_take2 8 (i := 13) (v := .int .u8 (nb.toNat : Nat)) rfl (by kernel_rfl) (by kernel_rfl) (by kernel_rfl) (by kernel_rfl) (by kernel_rfl) (fun _ _ _ h => h) (.inl ⟨rfl, fun u hu => (by go_simp <;> exact or_in2 HNE.out)⟩) S0.out ?_
            have fr6 : w6.drew.frozen? ⟨G, J, none⟩ = false := HROW5.out.free J
            have cJ6 := S0.out.2
            refine U_step (j := 14) (by kernel_rfl) rfl (fun K hK => ?_)
            go_simp
            refine hK.out _ _ (.inl rfl) ?_
            clear hK K
            refine U_step (j := 15) (by kernel_rfl) rfl (fun K hK => ?_)
            go_simp
            refine hK.out _ _ (.inl rfl) ?_
            clear hK K
            refine U_done (by kernel_rfl) ?_ _
            have hset : o.getD J 0 = ob := by rw [List.getD_eq_getElem?_getD, HOB.out]; rfl
            have HNB := hid (show R = digE c N (i + 1) t (o.set J nb) by
              rw [HNE.out, HO.out, if_pos hiN, HSHE.out, ← HJE.out, hset, Nat.shiftLeft_eq])
            have HROW6 := hid (RowY.set (HROW5.out.on (w' := w6.drew) (Below.refl _ w6).drew) J nb)
            have HBD := hid (show Below G w0 w6.drew from (HBL.out.trans (HB5.out.mono (by have := HBL.out.size; have := HGE.out; omega))).drew)
            have HCD := hid (show (w6.drew.setCell ⟨G, J, none⟩ (.int .u8 (nb.toNat : Nat))).cell? ⟨w.heap.size, 0, none⟩ = some (.int .u8 (c.toNat : Nat)) by
              rw [World.cell?_setCell_other _ _ _ _ (by intro h; have h2 := congrArg Addr.block h; have := HZ0.out; first | (have h3 : G = w.heap.size := h2; omega) | (have h3 : w.heap.size = G := h2; omega))]
              exact HC5.out)
            clear S0 fr6 cJ6 hset
            go_wp2
            go_roundg t.length
            case measure => first | omega | simp
            case rel => exact ⟨i + 1, o.set J nb, t, by go_num, HA.out.tail, HROW6.out, by rw [List.length_set]; exact hol, HNB.out, HCD.out, HBD.out.setCell (Nat.le_refl _) _, rfl⟩
          | true =>
            obtain ⟨pl, hpl⟩ : ∃ pl, pl = 2 - 1 - m := ⟨_, rfl⟩
            have hplI : (1 - (m : Int)) = (pl : Int) := by omega
            have hpl8 : pl < 2 := by omega
            obtain ⟨sh, hsh⟩ : ∃ sh, sh = 4 * pl := ⟨_, rfl⟩
            have hshI : (pl : Int) * 8 / 2 = (sh : Int) := by omega
            have hsh7 : sh ≤ 7 := by omega
            have HSL := hid (show IntKind.i64.wrap ((v : Int) * 2 ^ sh) = (v : Int) * 2 ^ sh by
              have hs := shl_in (v := v) (sh := sh) (by omega) hsh7
              rw [Nat.min_eq_left (by omega)] at hs
              exact hs)
            have HSHE := hid (show shiftL c i 4 = sh by rw [HSH.out, hgc, hsh, hpl]; rfl)
            have HGC := hid (show ∀ u, Calls Tryz.prog 133 #[.int .u8 (c.toNat : Nat)] u fun e w' => e = .returned (.bool true) ∧ w' = u from fun u => by have h := HGR.out u; rw [hgc] at h; exact h)
            obtain ⟨nb, hne⟩ : ∃ nb : UInt8, nb = ob ||| UInt8.ofNat (v * 2 ^ sh % 256) := ⟨_, rfl⟩
            have HNE := hid hne
            clear hne hgc hpl hsh
            go_upto_region 18 with (first | (go_at_call 143; (with_reducible refine (HDF.out _).mono ?_); rintro e w5 ⟨rfl, hb5⟩; have hc5 := (hb5.cell (p := ⟨w.heap.size, 0, none⟩) (by have := HZ0.out; have := (HROW.out.lt G rfl).1; show w.heap.size < wr.heap.size; omega)).trans HCC.out; have HC5 := hid hc5; have HB5 := hid hb5; clear hb5) | (go_at_call 133; (with_reducible refine (HGC.out _).mono ?_); rintro e w6 ⟨rfl, rfl⟩))
            have HROW5 := hid (HROW.out.on HB5.out)
            have hcJ : w6.cell? ⟨G, J, none⟩ = some (.int .u8 (ob.toNat : Nat)) := by
              obtain ⟨hJl, hoe⟩ := List.getElem?_eq_some_iff.1 HOB.out
              rw [← hoe]
              exact HROW5.out.cellI hJl
            have S0 : Hid ((fun u : World => u.cell? ⟨w.heap.size, 0, none⟩ = some (.int .u8 (c.toNat : Nat)) ∧ u.cell? ⟨G, J, none⟩ = some (.int .u8 (ob.toNat : Nat))) w6.drew) := hid ⟨HC5.out, hcJ⟩
            clear hcJ hc5
            refine U_begin (late := fun k => decide (14 ≤ k)) (S := fun u : World => u.cell? ⟨w.heap.size, 0, none⟩ = some (.int .u8 (c.toNat : Nat)) ∧ u.cell? ⟨G, J, none⟩ = some (.int .u8 (ob.toNat : Nat))) (by kernel_rfl) ?_
            refine U_take2 8 (i := 0) (v := .slice (some ⟨G, 0, none⟩) M M) rfl (by kernel_rfl) (by kernel_rfl) (by kernel_rfl) (by kernel_rfl) (by kernel_rfl) (fun _ _ _ h => h) (.inl ⟨rfl, fun u hu => (by go_simp)⟩) S0.out ?_
            refine U_take2 8 (i := 1) (v := .int .i64 (i : Nat)) rfl (by kernel_rfl) (by kernel_rfl) (by kernel_rfl) (by kernel_rfl) (by kernel_rfl) (fun _ _ _ h => h) (.inl ⟨rfl, fun u hu => (by go_simp)⟩) S0.out ?_
            refine U_take2 8 (i := 2) (v := .int .i64 2) rfl (by kernel_rfl) (by kernel_rfl) (by kernel_rfl) (by kernel_rfl) (by kernel_rfl) (fun _ _ _ h => h) (.inl ⟨rfl, fun u hu => (by go_simp)⟩) S0.out ?_
            refine U_take2 8 (i := 3) (v := .int .i64 (J : Nat)) rfl (by kernel_rfl) (by kernel_rfl) (by kernel_rfl) (by kernel_rfl) (by kernel_rfl) (fun _ _ _ h => h) (.inl ⟨rfl, fun u hu => (by go_simp <;> first | exact IntWalk.i64_in _ (by omega) | (rw [Int.tdiv_eq_ediv_of_nonneg (by omega)]; rw [IntWalk.i64_in _ (by omega)]; exact hJI) | (rw [IntWalk.i64_in _ (by omega)]; omega))⟩) S0.out ?_
            refine U_take2 8 (i := 4) (v := .pointer (some ⟨G, J, none⟩)) rfl (by kernel_rfl) (by kernel_rfl) (by kernel_rfl) (by kernel_rfl) (by kernel_rfl) (fun _ _ _ h => h) (.inl ⟨rfl, fun u hu => (by go_simp)⟩) S0.out ?_
            refine U_take2 8 (i := 5) (v := .int .u8 (ob.toNat : Nat)) rfl (by kernel_rfl) (by kernel_rfl) (by kernel_rfl) (by kernel_rfl) (by kernel_rfl) (fun _ _ _ h => h) (.inl ⟨rfl, fun u hu => (by obtain ⟨h1, h2⟩ := hu; go_simp)⟩) S0.out ?_
            refine U_take2 8 (i := 6) (v := .int .i64 (v : Nat)) rfl (by kernel_rfl) (by kernel_rfl) (by kernel_rfl) (by kernel_rfl) (by kernel_rfl) (fun _ _ _ h => h) (.inl ⟨rfl, fun u hu => (by go_simp)⟩) S0.out ?_
            refine U_take2 8 (i := 7) (v := .int .i64 (pl : Nat)) rfl (by kernel_rfl) (by kernel_rfl) (by kernel_rfl) (by kernel_rfl) (by kernel_rfl) (fun _ _ _ h => h) (.inl ⟨rfl, fun u hu => (by go_simp)⟩) S0.out ?_
            refine U_take2 8 (i := 8) (v := .int .i64 ((pl : Int) * 8)) rfl (by kernel_rfl) (by kernel_rfl) (by kernel_rfl) (by kernel_rfl) (by kernel_rfl) (fun _ _ _ h => h) (.inl ⟨rfl, fun u hu => (by go_simp <;> exact IntWalk.i64_in _ (by omega))⟩) S0.out ?_
            refine U_take2 8 (i := 9) (v := .int .i64 2) rfl (by kernel_rfl) (by kernel_rfl) (by kernel_rfl) (by kernel_rfl) (by kernel_rfl) (fun _ _ _ h => h) (.inl ⟨rfl, fun u hu => (by go_simp)⟩) S0.out ?_
            refine U_take2 8 (i := 10) (v := .int .i64 (sh : Nat)) rfl (by kernel_rfl) (by kernel_rfl) (by kernel_rfl) (by kernel_rfl) (by kernel_rfl) (fun _ _ _ h => h) (.inl ⟨rfl, fun u hu => (by go_simp <;> first | exact IntWalk.i64_in _ (by omega) | (rw [Int.tdiv_eq_ediv_of_nonneg (by omega)]; rw [IntWalk.i64_in _ (by omega)]; exact hshI) | (rw [IntWalk.i64_in _ (by omega)]; omega))⟩) S0.out ?_
            refine U_take2 8 (i := 11) (v := .int .i64 ((v : Int) * 2 ^ sh)) rfl (by kernel_rfl) (by kernel_rfl) (by kernel_rfl) (by kernel_rfl) (by kernel_rfl) (fun _ _ _ h => h) (.inl ⟨rfl, fun u hu => (by go_simp <;> exact HSL.out)⟩) S0.out ?_
            refine U_take2 8 (i := 12) (v := .int .u8 (((v * 2 ^ sh % 256 : Nat)) : Int)) rfl (by kernel_rfl) (by kernel_rfl) (by kernel_rfl) (by kernel_rfl) (by kernel_rfl) (fun _ _ _ h => h) (.inl ⟨rfl, fun u hu => (by go_simp <;> exact IntKind.wrap_u8 _)⟩) S0.out ?_
            refine U_take2 8 (i := 13) (v := .int .u8 (nb.toNat : Nat)) rfl (by kernel_rfl) (by kernel_rfl) (by kernel_rfl) (by kernel_rfl) (by kernel_rfl) (fun _ _ _ h => h) (.inl ⟨rfl, fun u hu => (by go_simp <;> exact or_in2 HNE.out)⟩) S0.out ?_
            have fr6 : w6.drew.frozen? ⟨G, J, none⟩ = false := HROW5.out.free J
            have cJ6 := S0.out.2
            refine U_step (j := 14) (by kernel_rfl) rfl (fun K hK => ?_)
            go_simp
            refine hK.out _ _ (.inl rfl) ?_
            clear hK K
            refine U_step (j := 15) (by kernel_rfl) rfl (fun K hK => ?_)
            go_simp
            refine hK.out _ _ (.inl rfl) ?_
            clear hK K
            refine U_done (by kernel_rfl) ?_ _
            have hset : o.getD J 0 = ob := by rw [List.getD_eq_getElem?_getD, HOB.out]; rfl
            have HNB := hid (show R = digE c N (i + 1) t (o.set J nb) by
              rw [HNE.out, HO.out, if_pos hiN, HSHE.out, ← HJE.out, hset, Nat.shiftLeft_eq])
            have HROW6 := hid (RowY.set (HROW5.out.on (w' := w6.drew) (Below.refl _ w6).drew) J nb)
            have HBD := hid (show Below G w0 w6.drew from (HBL.out.trans (HB5.out.mono (by have := HBL.out.size; have := HGE.out; omega))).drew)
            have HCD := hid (show (w6.drew.setCell ⟨G, J, none⟩ (.int .u8 (nb.toNat : Nat))).cell? ⟨w.heap.size, 0, none⟩ = some (.int .u8 (c.toNat : Nat)) by
              rw [World.cell?_setCell_other _ _ _ _ (by intro h; have h2 := congrArg Addr.block h; have := HZ0.out; first | (have h3 : G = w.heap.size := h2; omega) | (have h3 : w.heap.size = G := h2; omega))]
              exact HC5.out)
            clear S0 fr6 cJ6 hset
            go_wp2
            go_roundg t.length
            case measure => first | omega | simp
            case rel => exact ⟨i + 1, o.set J nb, t, by go_num, HA.out.tail, HROW6.out, by rw [List.length_set]; exact hol, HNB.out, HCD.out, HBD.out.setCell (Nat.le_refl _) _, rfl⟩
        · have hiI : (N : Int) ≤ (i : Int) := by omega
          go_wp2_with (go_at_call 143; (with_reducible refine (HDF.out _).mono ?_); rintro e w5 ⟨rfl, hb5⟩; have HB5 := hid hb5; clear hb5)
          go_roundg t.length
          case measure => first | omega | simp
          case rel => exact ⟨i + 1, o, t, by go_num, HA.out.tail, HROW.out.on HB5.out, hol, by rw [HO.out, if_neg hiN], (HB5.out.cell (p := ⟨w.heap.size, 0, none⟩) (by have := HZ0.out; have := (HROW.out.lt G rfl).1; show w.heap.size < wr.heap.size; omega)).trans HCC.out, HBL.out.trans (HB5.out.mono (by have := HBL.out.size; have := HGE.out; omega)), rfl⟩
set_option maxRecDepth 1000000 in
set_option maxHeartbeats 8000000 in
theorem packed8R_fn (c : UInt8) (p : Bool) (n : Int) (hbits : bitsL c = 1) (hg : grt c = (c == 72 || c == 66)) (s : Str) (hs : s.length ≤ 100000) (hn : -2 ≤ n ∧ n ≤ 800000) (w : World) :
    Calls Tryz.prog 103 #[.agg #[.int .u8 (c.toNat : Nat), .bool p, .int .i64 n], .string ⟨s.toArray⟩, .int .i64 8] w (PkdQ (digE c (cntT ⟨c, p, n⟩ s) 0 s (List.replicate ((cntT ⟨c, p, n⟩ s + 7) / 8) 0)) w) := by
  have hsz : (⟨s.toArray⟩ : ByteArray).size = s.length := Lib.size_mk _
  obtain ⟨N, hN⟩ : ∃ N, N = cntT ⟨c, p, n⟩ s := ⟨_, rfl⟩
  obtain ⟨M, hM⟩ : ∃ M, M = (N + 7) / 8 := ⟨_, rfl⟩
  rw [← hN, ← hM]
  have hN1 := hid (fun (h : n = -1) => show N = 1 by rw [hN]; unfold cntT oneC; subst h; rfl)
  have hN2 := hid (fun (h : n = -2) => show N = s.length by rw [hN]; unfold cntT; subst h; rfl)
  have hN3 := hid (fun (h : 0 ≤ n) => show (N : Int) = n by
    rw [hN]; unfold cntT oneC; dsimp only
    rw [if_neg (by omega), if_neg (by omega)]; omega)
  have hN9 : N ≤ 800000 := by
    rcases (show n = -1 ∨ n = -2 ∨ 0 ≤ n by omega) with h | h | h
    · rw [hN1.out h]; decide
    · rw [hN2.out h]; omega
    · have := hN3.out h; omega
  obtain ⟨R, hR⟩ : ∃ R, R = digE c N 0 s (List.replicate M 0) := ⟨_, rfl⟩
  rw [← hR]
  have HR := hid hR
  obtain ⟨w0, hw0⟩ : ∃ w0, w0 = w.alloc (.cells #[.int .u8 (c.toNat : Nat), .bool p, .int .i64 n] 103) := ⟨_, rfl⟩
  have c0 : w0.cell? ⟨w.heap.size, 0, none⟩ = some (.int .u8 (c.toNat : Nat)) := by rw [hw0, Lib.cell_of_heap (heap_alloc_new _ _)]; rfl
  have c2 : w0.cell? ⟨w.heap.size, 2, none⟩ = some (.int .i64 n) := by rw [hw0, Lib.cell_of_heap (heap_alloc_new _ _)]; rfl
  have HC0 := hid c0
  have HB0 := hid (show Below w.heap.size w w0 by rw [hw0]; exact (Below.refl _ _).alloc (Nat.le_refl _) _)
  have HZ0 := hid (show w.heap.size < w0.heap.size by rw [hw0]; simp)
  have HGR := hid (fun u => great_fn c u)
  have HG := hid hg
  have HBITS := hid hbits
  have HW0 := hid hw0
  have HMN := hid hM
  clear hw0 hbits hR hg hN hM c0
  unfold PkdQ
  go_enter Tryz.func103, Tryz.ntmps103
  go_upto_block 0 with fail
  rw [← HW0.out]
  go_cut [8] from 13 to 83 (fun nv wx => nv = .int .i64 (N : Nat) ∧ wx = w0)
  case first =>
    rcases (show n = -1 ∨ n = -2 ∨ 0 ≤ n by omega) with h | h | h
    · have HQ := hid (hN1.out h)
      subst h
      go_wp2
      go_meet
      case rel => exact ⟨by rw [HQ.out]; rfl, rfl⟩
    · have HQ := hid (hN2.out h)
      subst h
      go_wp2
      go_meet
      case rel => exact ⟨by rw [HQ.out], rfl⟩
    · have HQ := hid (hN3.out h)
      have e1 : (n == -1) = false := by rw [beq_eq_false_iff_ne]; omega
      have e2 : (n == -2) = false := by rw [beq_eq_false_iff_ne]; omega
      clear h hn
      go_wp2
      go_meet
      case rel => exact ⟨by rw [HQ.out], rfl⟩
  obtain ⟨rfl, hw⟩ := hcut
  replace hw := hw.symm
  subst hw
  clear hN1 hN2 hN3 hn c2 HW0
  have htd : Int.tdiv ((N : Int) + 8 - 1) 8 = (M : Int) := by rw [Int.tdiv_eq_ediv_of_nonneg (by omega), HMN.out]; omega
  have htd2 : Int.tdiv ((N : Int) + 7) 8 = (M : Int) := by rw [Int.tdiv_eq_ediv_of_nonneg (by omega), HMN.out]; omega
  have htd3 : ((N : Int) + 8 - 1) / 8 = (M : Int) := by rw [HMN.out]; omega
  have htd4 : ((N : Int) + 7) / 8 = (M : Int) := by rw [HMN.out]; omega
  have hM9 : M ≤ 800000 := by rw [HMN.out]; omega
  have hwM : IntKind.i64.wrap (M : Int) = (M : Int) := IntWalk.i64_in _ (by omega)
  go_upto_region 8 with (at_make; refine mk_zero _ rfl _ _ rfl M _ _ rfl rfl rfl rfl (by omega) ?_; intro w4 hr4 hb4; have HRO := hid hr4; have HB4 := hid hb4; clear hr4 hb4)
  obtain ⟨G, hG⟩ : ∃ G, G = w0.heap.size := ⟨_, rfl⟩
  rw [← hG] at HRO HB4 HZ0
  rw [← hG]
  have HGE := hid hG
  clear hG
  have HC4 := hid (show w4.cell? ⟨w.heap.size, 0, none⟩ = some (.int .u8 (c.toNat : Nat)) from (HB4.out.cell (p := ⟨w.heap.size, 0, none⟩) HZ0.out).trans HC0.out)
  clear htd htd2 htd3 htd4 hwM HC0
  go_wp2_with fail
  go_loopg [31] s.length (fun k iv wr => ∃ (i : Nat) (o l : Str), iv = .int .i64 (i : Nat) ∧ At s l i ∧ RowY G wr (.slice (some ⟨G, 0, none⟩) M M) o ∧ o.length = M ∧ R = digE c N i l o ∧ wr.cell? ⟨w.heap.size, 0, none⟩ = some (.int .u8 (c.toNat : Nat)) ∧ Below G w0 wr ∧ k = l.length)
  case atStart => exact ⟨0, _, s, rfl, At.start s, HRO.out, by simp, HR.out, HC4.out, HB4.out, rfl⟩
  case round =>
    obtain ⟨i, o, l, rfl, ha, hro, hol, hR2, hc0, hbl, rfl⟩ := hrel
    have HROW := hid hro
    have HR2 := hid hR2
    have HCC := hid hc0
    have HBL := hid hbl
    have hlen := ha.len
    have HA := hid ha
    clear hro hR2 hc0 hbl ha HRO HC4 HB4
    cases l with
    | nil =>
      have hge : ¬ ((i : Int) < (s.length : Int)) := by simp at hlen; omega
      have HO := hid (show R = some o from HR2.out)
      go_wp2
      go_ret2
      exact ⟨_, by rw [HO.out]; rfl, by rw [HO.out]; exact RowY.mono HROW.out (by have := HZ0.out; omega), HB0.out.trans (HBL.out.mono (by have := HZ0.out; omega))⟩
    | cons d t =>
      have hlt := HA.out.lt
      have hltI : (i : Int) < (s.length : Int) := by omega
      have hx := HA.out.byte
      have hR3 := HR2.out
      rw [digE, HBITS.out] at hR3
      have HDF := hid (fun u => digitR_fn d u)
      obtain ⟨dv, hdv⟩ : ∃ dv, dv = dgI d := ⟨_, rfl⟩
      rw [← hdv] at HDF
      by_cases hbad : 2 ^ 1 ≤ valH d
      · have HO := hid (show R = none by rw [hR3, if_pos hbad])
        by_cases h127 : 127 < d.toNat
        · have hI : (127 : Int) < (d.toNat : Int) := by omega
          clear hR3 hbad hdv h127
          go_wp2_with (go_at_call 143; (with_reducible refine (HDF.out _).mono ?_); rintro e w5 ⟨rfl, hb5⟩; have HB5 := hid hb5; clear hb5)
          go_ret2
          exact ⟨_, by rw [HO.out]; rfl, by rw [HO.out]; exact RowY.nil _ _, HB0.out.trans ((HBL.out.trans (HB5.out.mono (by have := HBL.out.size; have := HGE.out; omega))).mono (by have := HZ0.out; omega))⟩
        · have hI : ¬ ((127 : Int) < (d.toNat : Int)) := by omega
          by_cases h16 : 16 ≤ valH d
          · have hneg : dv = -1 := by rw [hdv]; exact dgI_big (by omega) h16
            subst hneg
            clear hR3 hbad hdv h127 h16
            go_wp2_with (go_at_call 143; (with_reducible refine (HDF.out _).mono ?_); rintro e w5 ⟨rfl, hb5⟩; have HB5 := hid hb5; clear hb5)
            go_ret2
            exact ⟨_, by rw [HO.out]; rfl, by rw [HO.out]; exact RowY.nil _ _, HB0.out.trans ((HBL.out.trans (HB5.out.mono (by have := HBL.out.size; have := HGE.out; omega))).mono (by have := HZ0.out; omega))⟩
          · obtain ⟨v, hv⟩ : ∃ v, v = valH d := ⟨_, rfl⟩
            have hdV : dv = (v : Int) := by rw [hdv, hv]; exact (dgI_small (by omega)).2
            subst hdV
            have h1v : (1 : Int) < (v : Int) := by rw [← hv] at hbad h16; omega
            clear hR3 hbad hdv h127 h16 hv
            go_wp2_with (go_at_call 143; (with_reducible refine (HDF.out _).mono ?_); rintro e w5 ⟨rfl, hb5⟩; have HB5 := hid hb5; clear hb5)
            go_ret2
            exact ⟨_, by rw [HO.out]; rfl, by rw [HO.out]; exact RowY.nil _ _, HB0.out.trans ((HBL.out.trans (HB5.out.mono (by have := HBL.out.size; have := HGE.out; omega))).mono (by have := HZ0.out; omega))⟩
      · obtain ⟨v, hv⟩ : ∃ v, v = valH d := ⟨_, rfl⟩
        rw [← hv] at hbad hR3
        rw [if_neg hbad] at hR3
        have hvl : v < 2 := by omega
        obtain ⟨h128, hd2⟩ := dgI_small (d := d) (by rw [← hv]; omega)
        have hdV : dv = (v : Int) := by rw [hdv, hd2, hv]
        subst hdV
        have hI : ¬ ((127 : Int) < (d.toNat : Int)) := by omega
        have h1v : ¬ ((1 : Int) < (v : Int)) := by omega
        have HO := hid hR3
        clear hR3 hbad hdv h128 hd2 hv
        by_cases hiN : i < N
        · have hiI : ¬ ((N : Int) ≤ (i : Int)) := by omega
          obtain ⟨J, hJe⟩ : ∃ J, J = i * 1 / 8 := ⟨_, rfl⟩
          have hJ : J < M := by have := HMN.out; omega
          have hJI : (i : Int) / 8 = (J : Int) := by omega
          have hJM : (J : Int) < (M : Int) := by omega
          obtain ⟨m, hm⟩ : ∃ m, m = i % 8 := ⟨_, rfl⟩
          have hml : m < 8 := by rw [hm]; exact Nat.mod_lt _ (by decide)
          have htm : Int.tmod (i : Int) 8 = (m : Int) := by rw [Int.tmod_eq_emod_of_nonneg (by omega)]; omega
          have hwm : IntKind.i64.wrap (m : Int) = (m : Int) := IntWalk.i64_in _ (by omega)
          have HSH := hid (show shiftL c i 1 = 1 * (if grt c then 8 - 1 - m else m) by
            unfold shiftL
            rw [hm, ← HG.out]
            cases grt c <;> rfl)
          obtain ⟨ob, hob⟩ : ∃ ob, o[J]? = some ob := ⟨_, List.getElem?_eq_getElem (by omega)⟩
          have HJE := hid hJe
          have HOB := hid hob
          clear hJe hm hob
          cases hgc : grt c with
          | false =>
            obtain ⟨pl, hpl⟩ : ∃ pl, pl = m := ⟨_, rfl⟩
            have hplI : (m : Int) = (pl : Int) := by omega
            have hpl8 : pl < 8 := by omega
            obtain ⟨sh, hsh⟩ : ∃ sh, sh = 1 * pl := ⟨_, rfl⟩
            have hshI : (pl : Int) * 8 / 8 = (sh : Int) := by omega
            have hsh7 : sh ≤ 7 := by omega
            have HSL := hid (show IntKind.i64.wrap ((v : Int) * 2 ^ sh) = (v : Int) * 2 ^ sh by
              have hs := shl_in (v := v) (sh := sh) (by omega) hsh7
              rw [Nat.min_eq_left (by omega)] at hs
              exact hs)
            have HSHE := hid (show shiftL c i 1 = sh by rw [HSH.out, hgc, hsh, hpl]; rfl)
            have HGC := hid (show ∀ u, Calls Tryz.prog 133 #[.int .u8 (c.toNat : Nat)] u fun e w' => e = .returned (.bool false) ∧ w' = u from fun u => by have h := HGR.out u; rw [hgc] at h; exact h)
            obtain ⟨nb, hne⟩ : ∃ nb : UInt8, nb = ob ||| UInt8.ofNat (v * 2 ^ sh % 256) := ⟨_, rfl⟩
            have HNE := hid hne
            clear hne hgc hpl hsh
            go_upto_region 18 with (first | (go_at_call 143; (with_reducible refine (HDF.out _).mono ?_); rintro e w5 ⟨rfl, hb5⟩; have hc5 := (hb5.cell (p := ⟨w.heap.size, 0, none⟩) (by have := HZ0.out; have := (HROW.out.lt G rfl).1; show w.heap.size < wr.heap.size; omega)).trans HCC.out; have HC5 := hid hc5; have HB5 := hid hb5; clear hb5) | (go_at_call 133; (with_reducible refine (HGC.out _).mono ?_); rintro e w6 ⟨rfl, rfl⟩))
            have HROW5 := hid (HROW.out.on HB5.out)
            have hcJ : w6.cell? ⟨G, J, none⟩ = some (.int .u8 (ob.toNat : Nat)) := by
              obtain ⟨hJl, hoe⟩ := List.getElem?_eq_some_iff.1 HOB.out
              rw [← hoe]
              exact HROW5.out.cellI hJl
            have S0 : Hid ((fun u : World => u.cell? ⟨w.heap.size, 0, none⟩ = some (.int .u8 (c.toNat : Nat)) ∧ u.cell? ⟨G, J, none⟩ = some (.int .u8 (ob.toNat : Nat))) w6.drew) := hid ⟨HC5.out, hcJ⟩
            clear hcJ hc5
            refine U_begin (late := fun k => decide (14 ≤ k)) (S := fun u : World => u.cell? ⟨w.heap.size, 0, none⟩ = some (.int .u8 (c.toNat : Nat)) ∧ u.cell? ⟨G, J, none⟩ = some (.int .u8 (ob.toNat : Nat))) (by kernel_rfl) ?_
            refine U_take2 8 (i := 0) (v := .slice (some ⟨G, 0, none⟩) M M) rfl (by kernel_rfl) (by kernel_rfl) (by kernel_rfl) (by kernel_rfl) (by kernel_rfl) (fun _ _ _ h => h) (.inl ⟨rfl, fun u hu => (by go_simp)⟩) S0.out ?_
            refine U_take2 8 (i := 1) (v := .int .i64 (i : Nat)) rfl (by kernel_rfl) (by kernel_rfl) (by kernel_rfl) (by kernel_rfl) (by kernel_rfl) (fun _ _ _ h => h) (.inl ⟨rfl, fun u hu => (by go_simp)⟩) S0.out ?_
            refine U_take2 8 (i := 2) (v := .int .i64 8) rfl (by kernel_rfl) (by kernel_rfl) (by kernel_rfl) (by kernel_rfl) (by kernel_rfl) (fun _ _ _ h => h) (.inl ⟨rfl, fun u hu => (by go_simp)⟩) S0.out ?_
            refine U_take2 8 (i := 3) (v := .int .i64 (J : Nat)) rfl (by kernel_rfl) (by kernel_rfl) (by kernel_rfl) (by kernel_rfl) (by kernel_rfl) (fun _ _ _ h => h) (.inl ⟨rfl, fun u hu => (by go_simp <;> first | exact IntWalk.i64_in _ (by omega) | (rw [Int.tdiv_eq_ediv_of_nonneg (by omega)]; rw [IntWalk.i64_in _ (by omega)]; exact hJI) | (rw [IntWalk.i64_in _ (by omega)]; omega))⟩) S0.out ?_
            refine U_take2 8 (i := 4) (v := .pointer (some ⟨G, J, none⟩)) rfl (by kernel_rfl) (by kernel_rfl) (by kernel_rfl) (by kernel_rfl) (by kernel_rfl) (fun _ _ _ h => h) (.inl ⟨rfl, fun u hu => (by go_simp)⟩) S0.out ?_
            refine U_take2 8 (i := 5) (v := .int .u8 (ob.toNat : Nat)) rfl (by kernel_rfl) (by kernel_rfl) (by kernel_rfl) (by kernel_rfl) (by kernel_rfl) (fun _ _ _ h => h) (.inl ⟨rfl, fun u hu => (by obtain ⟨h1, h2⟩ := hu; go_simp)⟩) S0.out ?_
            refine U_take2 8 (i := 6) (v := .int .i64 (v : Nat)) rfl (by kernel_rfl) (by kernel_rfl) (by kernel_rfl) (by kernel_rfl) (by kernel_rfl) (fun _ _ _ h => h) (.inl ⟨rfl, fun u hu => (by go_simp)⟩) S0.out ?_
            refine U_take2 8 (i := 7) (v := .int .i64 (pl : Nat)) rfl (by kernel_rfl) (by kernel_rfl) (by kernel_rfl) (by kernel_rfl) (by kernel_rfl) (fun _ _ _ h => h) (.inl ⟨rfl, fun u hu => (by go_simp)⟩) S0.out ?_
            refine U_take2 8 (i := 8) (v := .int .i64 ((pl : Int) * 8)) rfl (by kernel_rfl) (by kernel_rfl) (by kernel_rfl) (by kernel_rfl) (by kernel_rfl) (fun _ _ _ h => h) (.inl ⟨rfl, fun u hu => (by go_simp <;> exact IntWalk.i64_in _ (by omega))⟩) S0.out ?_
            refine U_take2 8 (i := 9) (v := .int .i64 8) rfl (by kernel_rfl) (by kernel_rfl) (by kernel_rfl) (by kernel_rfl) (by kernel_rfl) (fun _ _ _ h => h) (.inl ⟨rfl, fun u hu => (by go_simp)⟩) S0.out ?_
            refine U_take2 8 (i := 10) (v := .int .i64 (sh : Nat)) rfl (by kernel_rfl) (by kernel_rfl) (by kernel_rfl) (by kernel_rfl) (by kernel_rfl) (fun _ _ _ h => h) (.inl ⟨rfl, fun u hu => (by go_simp <;> first | exact IntWalk.i64_in _ (by omega) | (rw [Int.tdiv_eq_ediv_of_nonneg (by omega)]; rw [IntWalk.i64_in _ (by omega)]; exact hshI) | (rw [IntWalk.i64_in _ (by omega)]; omega))⟩) S0.out ?_
            refine U_take2 8 (i := 11) (v := .int .i64 ((v : Int) * 2 ^ sh)) rfl (by kernel_rfl) (by kernel_rfl) (by kernel_rfl) (by kernel_rfl) (by kernel_rfl) (fun _ _ _ h => h) (.inl ⟨rfl, fun u hu => (by go_simp <;> exact HSL.out)⟩) S0.out ?_
            refine U_take2 8 (i := 12) (v := .int .u8 (((v * 2 ^ sh % 256 : Nat)) : Int)) rfl (by kernel_rfl) (by kernel_rfl) (by kernel_rfl) (by kernel_rfl) (by kernel_rfl) (fun _ _ _ h => h) (.inl ⟨rfl, fun u hu => (by go_simp <;> exact IntKind.wrap_u8 _)⟩) S0.out ?_
            refine U_take2 8 (i := 13) (v := .int .u8 (nb.toNat : Nat)) rfl (by kernel_rfl) (by kernel_rfl) (by kernel_rfl) (by kernel_rfl) (by kernel_rfl) (fun _ _ _ h => h) (.inl ⟨rfl, fun u hu => (by go_simp <;> exact or_in2 HNE.out)⟩) S0.out ?_
            have fr6 : w6.drew.frozen? ⟨G, J, none⟩ = false := HROW5.out.free J
            have cJ6 := S0.out.2
            refine U_step (j := 14) (by kernel_rfl) rfl (fun K hK => ?_)
            go_simp
            refine hK.out _ _ (.inl rfl) ?_
            clear hK K
            refine U_step (j := 15) (by kernel_rfl) rfl (fun K hK => ?_)
            go_simp
            refine hK.out _ _ (.inl rfl) ?_
            clear hK K
            refine U_done (by kernel_rfl) ?_ _
            have hset : o.getD J 0 = ob := by rw [List.getD_eq_getElem?_getD, HOB.out]; rfl
            have HNB := hid (show R = digE c N (i + 1) t (o.set J nb) by
              rw [HNE.out, HO.out, if_pos hiN, HSHE.out, ← HJE.out, hset, Nat.shiftLeft_eq])
            have HROW6 := hid (RowY.set (HROW5.out.on (w' := w6.drew) (Below.refl _ w6).drew) J nb)
            have HBD := hid (show Below G w0 w6.drew from (HBL.out.trans (HB5.out.mono (by have := HBL.out.size; have := HGE.out; omega))).drew)
            have HCD := hid (show (w6.drew.setCell ⟨G, J, none⟩ (.int .u8 (nb.toNat : Nat))).cell? ⟨w.heap.size, 0, none⟩ = some (.int .u8 (c.toNat : Nat)) by
              rw [World.cell?_setCell_other _ _ _ _ (by intro h; have h2 := congrArg Addr.block h; have := HZ0.out; first | (have h3 : G = w.heap.size := h2; omega) | (have h3 : w.heap.size = G := h2; omega))]
              exact HC5.out)
            clear S0 fr6 cJ6 hset
            go_wp2
            go_roundg t.length
            case measure => first | omega | simp
            case rel => exact ⟨i + 1, o.set J nb, t, by go_num, HA.out.tail, HROW6.out, by rw [List.length_set]; exact hol, HNB.out, HCD.out, HBD.out.setCell (Nat.le_refl _) _, rfl⟩
          | true =>
            obtain ⟨pl, hpl⟩ : ∃ pl, pl = 8 - 1 - m := ⟨_, rfl⟩
            have hplI : (7 - (m : Int)) = (pl : Int) := by omega
            have hpl8 : pl < 8 := by omega
            obtain ⟨sh, hsh⟩ : ∃ sh, sh = 1 * pl := ⟨_, rfl⟩
            have hshI : (pl : Int) * 8 / 8 = (sh : Int) := by omega
            have hsh7 : sh ≤ 7 := by omega
            have HSL := hid (show IntKind.i64.wrap ((v : Int) * 2 ^ sh) = (v : Int) * 2 ^ sh by
              have hs := shl_in (v := v) (sh := sh) (by omega) hsh7
              rw [Nat.min_eq_left (by omega)] at hs
              exact hs)
            have HSHE := hid (show shiftL c i 1 = sh by rw [HSH.out, hgc, hsh, hpl]; rfl)
            have HGC := hid (show ∀ u, Calls Tryz.prog 133 #[.int .u8 (c.toNat : Nat)] u fun e w' => e = .returned (.bool true) ∧ w' = u from fun u => by have h := HGR.out u; rw [hgc] at h; exact h)
            obtain ⟨nb, hne⟩ : ∃ nb : UInt8, nb = ob ||| UInt8.ofNat (v * 2 ^ sh % 256) := ⟨_, rfl⟩
            have HNE := hid hne
            clear hne hgc hpl hsh
            go_upto_region 18 with (first | (go_at_call 143; (with_reducible refine (HDF.out _).mono ?_); rintro e w5 ⟨rfl, hb5⟩; have hc5 := (hb5.cell (p := ⟨w.heap.size, 0, none⟩) (by have := HZ0.out; have := (HROW.out.lt G rfl).1; show w.heap.size < wr.heap.size; omega)).trans HCC.out; have HC5 := hid hc5; have HB5 := hid hb5; clear hb5) | (go_at_call 133; (with_reducible refine (HGC.out _).mono ?_); rintro e w6 ⟨rfl, rfl⟩))
            have HROW5 := hid (HROW.out.on HB5.out)
            have hcJ : w6.cell? ⟨G, J, none⟩ = some (.int .u8 (ob.toNat : Nat)) := by
              obtain ⟨hJl, hoe⟩ := List.getElem?_eq_some_iff.1 HOB.out
              rw [← hoe]
              exact HROW5.out.cellI hJl
            have S0 : Hid ((fun u : World => u.cell? ⟨w.heap.size, 0, none⟩ = some (.int .u8 (c.toNat : Nat)) ∧ u.cell? ⟨G, J, none⟩ = some (.int .u8 (ob.toNat : Nat))) w6.drew) := hid ⟨HC5.out, hcJ⟩
            clear hcJ hc5
            refine U_begin (late := fun k => decide (14 ≤ k)) (S := fun u : World => u.cell? ⟨w.heap.size, 0, none⟩ = some (.int .u8 (c.toNat : Nat)) ∧ u.cell? ⟨G, J, none⟩ = some (.int .u8 (ob.toNat : Nat))) (by kernel_rfl) ?_
            refine U_take2 8 (i := 0) (v := .slice (some ⟨G, 0, none⟩) M M) rfl (by kernel_rfl) (by kernel_rfl) (by kernel_rfl) (by kernel_rfl) (by kernel_rfl) (fun _ _ _ h => h) (.inl ⟨rfl, fun u hu => (by go_simp)⟩) S0.out ?_
            refine U_take2 8 (i := 1) (v := .int .i64 (i : Nat)) rfl (by kernel_rfl) (by kernel_rfl) (by kernel_rfl) (by kernel_rfl) (by kernel_rfl) (fun _ _ _ h => h) (.inl ⟨rfl, fun u hu => (by go_simp)⟩) S0.out ?_
            refine U_take2 8 (i := 2) (v := .int .i64 8) rfl (by kernel_rfl) (by kernel_rfl) (by kernel_rfl) (by kernel_rfl) (by kernel_rfl) (fun _ _ _ h => h) (.inl ⟨rfl, fun u hu => (by go_simp)⟩) S0.out ?_
            refine U_take2 8 (i := 3) (v := .int .i64 (J : Nat)) rfl (by kernel_rfl) (by kernel_rfl) (by kernel_rfl) (by kernel_rfl) (by kernel_rfl) (fun _ _ _ h => h) (.inl ⟨rfl, fun u hu => (by go_simp <;> first | exact IntWalk.i64_in _ (by omega) | (rw [Int.tdiv_eq_ediv_of_nonneg (by omega)]; rw [IntWalk.i64_in _ (by omega)]; exact hJI) | (rw [IntWalk.i64_in _ (by omega)]; omega))⟩) S0.out ?_
            refine U_take2 8 (i := 4) (v := .pointer (some ⟨G, J, none⟩)) rfl (by kernel_rfl) (by kernel_rfl) (by kernel_rfl) (by kernel_rfl) (by kernel_rfl) (fun _ _ _ h => h) (.inl ⟨rfl, fun u hu => (by go_simp)⟩) S0.out ?_
            refine U_take2 8 (i := 5) (v := .int .u8 (ob.toNat : Nat)) rfl (by kernel_rfl) (by kernel_rfl) (by kernel_rfl) (by kernel_rfl) (by kernel_rfl) (fun _ _ _ h => h) (.inl ⟨rfl, fun u hu => (by obtain ⟨h1, h2⟩ := hu; go_simp)⟩) S0.out ?_
            refine U_take2 8 (i := 6) (v := .int .i64 (v : Nat)) rfl (by kernel_rfl) (by kernel_rfl) (by kernel_rfl) (by kernel_rfl) (by kernel_rfl) (fun _ _ _ h => h) (.inl ⟨rfl, fun u hu => (by go_simp)⟩) S0.out ?_
            refine U_take2 8 (i := 7) (v := .int .i64 (pl : Nat)) rfl (by kernel_rfl) (by kernel_rfl) (by kernel_rfl) (by kernel_rfl) (by kernel_rfl) (fun _ _ _ h => h) (.inl ⟨rfl, fun u hu => (by go_simp)⟩) S0.out ?_
            refine U_take2 8 (i := 8) (v := .int .i64 ((pl : Int) * 8)) rfl (by kernel_rfl) (by kernel_rfl) (by kernel_rfl) (by kernel_rfl) (by kernel_rfl) (fun _ _ _ h => h) (.inl ⟨rfl, fun u hu => (by go_simp <;> exact IntWalk.i64_in _ (by omega))⟩) S0.out ?_
            refine U_take2 8 (i := 9) (v := .int .i64 8) rfl (by kernel_rfl) (by kernel_rfl) (by kernel_rfl) (by kernel_rfl) (by kernel_rfl) (fun _ _ _ h => h) (.inl ⟨rfl, fun u hu => (by go_simp)⟩) S0.out ?_
            refine U_take2 8 (i := 10) (v := .int .i64 (sh : Nat)) rfl (by kernel_rfl) (by kernel_rfl) (by kernel_rfl) (by kernel_rfl) (by kernel_rfl) (fun _ _ _ h => h) (.inl ⟨rfl, fun u hu => (by go_simp <;> first | exact IntWalk.i64_in _ (by omega) | (rw [Int.tdiv_eq_ediv_of_nonneg (by omega)]; rw [IntWalk.i64_in _ (by omega)]; exact hshI) | (rw [IntWalk.i64_in _ (by omega)]; omega))⟩) S0.out ?_
            refine U_take2 8 (i := 11) (v := .int .i64 ((v : Int) * 2 ^ sh)) rfl (by kernel_rfl) (by kernel_rfl) (by kernel_rfl) (by kernel_rfl) (by kernel_rfl) (fun _ _ _ h => h) (.inl ⟨rfl, fun u hu => (by go_simp <;> exact HSL.out)⟩) S0.out ?_
            refine U_take2 8 (i := 12) (v := .int .u8 (((v * 2 ^ sh % 256 : Nat)) : Int)) rfl (by kernel_rfl) (by kernel_rfl) (by kernel_rfl) (by kernel_rfl) (by kernel_rfl) (fun _ _ _ h => h) (.inl ⟨rfl, fun u hu => (by go_simp <;> exact IntKind.wrap_u8 _)⟩) S0.out ?_
            refine U_take2 8 (i := 13) (v := .int .u8 (nb.toNat : Nat)) rfl (by kernel_rfl) (by kernel_rfl) (by kernel_rfl) (by kernel_rfl) (by kernel_rfl) (fun _ _ _ h => h) (.inl ⟨rfl, fun u hu => (by go_simp <;> exact or_in2 HNE.out)⟩) S0.out ?_
            have fr6 : w6.drew.frozen? ⟨G, J, none⟩ = false := HROW5.out.free J
            have cJ6 := S0.out.2
            refine U_step (j := 14) (by kernel_rfl) rfl (fun K hK => ?_)
            go_simp
            refine hK.out _ _ (.inl rfl) ?_
            clear hK K
            refine U_step (j := 15) (by kernel_rfl) rfl (fun K hK => ?_)
            go_simp
            refine hK.out _ _ (.inl rfl) ?_
            clear hK K
            refine U_done (by kernel_rfl) ?_ _
            have hset : o.getD J 0 = ob := by rw [List.getD_eq_getElem?_getD, HOB.out]; rfl
            have HNB := hid (show R = digE c N (i + 1) t (o.set J nb) by
              rw [HNE.out, HO.out, if_pos hiN, HSHE.out, ← HJE.out, hset, Nat.shiftLeft_eq])
            have HROW6 := hid (RowY.set (HROW5.out.on (w' := w6.drew) (Below.refl _ w6).drew) J nb)
            have HBD := hid (show Below G w0 w6.drew from (HBL.out.trans (HB5.out.mono (by have := HBL.out.size; have := HGE.out; omega))).drew)
            have HCD := hid (show (w6.drew.setCell ⟨G, J, none⟩ (.int .u8 (nb.toNat : Nat))).cell? ⟨w.heap.size, 0, none⟩ = some (.int .u8 (c.toNat : Nat)) by
              rw [World.cell?_setCell_other _ _ _ _ (by intro h; have h2 := congrArg Addr.block h; have := HZ0.out; first | (have h3 : G = w.heap.size := h2; omega) | (have h3 : w.heap.size = G := h2; omega))]
              exact HC5.out)
            clear S0 fr6 cJ6 hset
            go_wp2
            go_roundg t.length
            case measure => first | omega | simp
            case rel => exact ⟨i + 1, o.set J nb, t, by go_num, HA.out.tail, HROW6.out, by rw [List.length_set]; exact hol, HNB.out, HCD.out, HBD.out.setCell (Nat.le_refl _) _, rfl⟩
        · have hiI : (N : Int) ≤ (i : Int) := by omega
          go_wp2_with (go_at_call 143; (with_reducible refine (HDF.out _).mono ?_); rintro e w5 ⟨rfl, hb5⟩; have HB5 := hid hb5; clear hb5)
          go_roundg t.length
          case measure => first | omega | simp
          case rel => exact ⟨i + 1, o, t, by go_num, HA.out.tail, HROW.out.on HB5.out, hol, by rw [HO.out, if_neg hiN], (HB5.out.cell (p := ⟨w.heap.size, 0, none⟩) (by have := HZ0.out; have := (HROW.out.lt G rfl).1; show w.heap.size < wr.heap.size; omega)).trans HCC.out, HBL.out.trans (HB5.out.mono (by have := HBL.out.size; have := HGE.out; omega)), rfl⟩
end Go.Proofs.YtihdndaibmgoiaaGreatDoor.Pz
/-
  The reference 10: Unhex, Unpercent, Unbase64.
-/
namespace Go.Proofs.YtihdndaibmgoiaaGreatDoor.Pz
open Go.RowKit
attribute [local go_sem] Oper.semAt_some
set_option maxRecDepth 100000 in
set_option maxHeartbeats 4000000 in
theorem unhexR_fn (s : Str) (hs : s.length ≤ 100000) (w : World) : Calls Tryz.prog 55 #[.string ⟨s.toArray⟩] w fun e w' => e = .returned (.tuple #[.string ⟨(unhxRes s).1.toArray⟩, .int .i64 (unhxRes s).2]) ∧ Below w.heap.size w w' := by
  have hsz : (⟨s.toArray⟩ : ByteArray).size = s.length := Lib.size_mk _
  have hp := packed2R_fn 72 false (-2) rfl rfl s hs ⟨by decide, by decide⟩ w
  rw [show cntT ⟨72, false, -2⟩ s = s.length from rfl] at hp
  have hodd := hid (fun h => show unhxRes s = ([], 2) by unfold unhxRes; rw [unhexE_uneven s h]; rfl)
  have heven := hid (fun h => dig_hex s h)
  obtain ⟨R, hR⟩ : ∃ R, R = digE 72 s.length 0 s (List.replicate ((s.length + 1) / 2) 0) := ⟨_, rfl⟩
  rw [← hR] at hp heven
  unfold PkdQ at hp
  clear hR
  obtain ⟨q, hq⟩ : ∃ q, q = s.length % 2 := ⟨_, rfl⟩
  have htm : Int.tmod (s.length : Int) 2 = (q : Int) := by rw [Int.tmod_eq_emod_of_nonneg (by omega)]; omega
  have hq2 : q < 2 := by omega
  have hwq : IntKind.i64.wrap (q : Int) = (q : Int) := IntWalk.i64_in _ (by omega)
  cases R with
  | none =>
    have HPP := hid (show Calls Tryz.prog 103 #[.agg #[.int .u8 72, .bool false, .int .i64 (-2)], .string ⟨s.toArray⟩, .int .i64 2] w fun e w' => ∃ v, e = .returned (.tuple #[v, .bool false]) ∧ RowY w.heap.size w' v [] ∧ Below w.heap.size w w' from hp)
    have HRO := hid (show unhxRes s = ([], 2) by
      rcases (show s.length % 2 = 0 ∨ s.length % 2 = 1 by omega) with h | h
      · unfold unhxRes; rw [← heven.out h]; rfl
      · exact hodd.out h)
    clear hp hodd heven hq
    go_enter Tryz.func55, Tryz.ntmps55
    go_wp2_with (go_at_call 103; (with_reducible refine HPP.out.mono ?_); rintro e w1 ⟨v, rfl, hr1, hb1⟩; have HB1 := hid hb1; clear hr1 hb1)
    go_ret2
    exact ⟨by rw [HRO.out]; rfl, HB1.out⟩
  | some b =>
    have HPP := hid (show Calls Tryz.prog 103 #[.agg #[.int .u8 72, .bool false, .int .i64 (-2)], .string ⟨s.toArray⟩, .int .i64 2] w fun e w' => ∃ v, e = .returned (.tuple #[v, .bool true]) ∧ RowY w.heap.size w' v b ∧ Below w.heap.size w w' from hp)
    by_cases hq1 : q = 1
    · have HRO := hid (hodd.out (by omega))
      subst hq1
      clear hp hodd heven hq
      go_enter Tryz.func55, Tryz.ntmps55
      go_wp2_with (go_at_call 103; (with_reducible refine HPP.out.mono ?_); rintro e w1 ⟨v, rfl, hr1, hb1⟩; have HB1 := hid hb1; clear hr1 hb1)
      go_ret2
      exact ⟨by rw [HRO.out]; rfl, HB1.out⟩
    · obtain rfl : q = 0 := by omega
      have HRO := hid (show unhxRes s = (b, 0) by unfold unhxRes; rw [← heven.out (by omega)]; rfl)
      clear hp hodd heven hq hq1
      go_enter Tryz.func55, Tryz.ntmps55
      go_wp2_with (go_at_call 103; (with_reducible refine HPP.out.mono ?_); rintro e w1 ⟨v, rfl, hr1, hb1⟩; have hcv := hr1.str; have HB1 := hid hb1; clear hr1 hb1)
      go_ret2
      exact ⟨by rw [HRO.out]; rfl, HB1.out⟩
set_option maxRecDepth 100000 in
set_option maxHeartbeats 4000000 in
theorem unpercentR_fn (s : Str) (hs : s.length ≤ 100000) (w : World) : Calls Tryz.prog 57 #[.string ⟨s.toArray⟩] w fun e w' => e = .returned (.tuple #[.string ⟨(unpRes s).1.toArray⟩, .int .i64 (unpRes s).2]) ∧ Below w.heap.size w w' := by
  have hsz : (⟨s.toArray⟩ : ByteArray).size = s.length := Lib.size_mk _
  obtain ⟨P, hP⟩ : ∃ P, P = unpE s := ⟨_, rfl⟩
  have HRS := hid (show unpRes s = okOr P by rw [hP]; rfl)
  have HP := hid hP
  clear hP
  go_enter Tryz.func57, Tryz.ntmps57
  go_wp2_with fail
  go_loopg [4, 5] s.length (fun k ov iv wr => ∃ (i : Nat) (l out : Str), ov = .string ⟨out.toArray⟩ ∧ iv = .int .i64 (i : Nat) ∧ At s l i ∧ P = (unpE l).map (out ++ ·) ∧ out.length ≤ i ∧ Below w.heap.size w wr ∧ k = l.length)
  case atStart => exact ⟨0, s, [], rfl, rfl, At.start s, by rw [HP.out]; cases unpE s <;> rfl, by simp, Below.refl _ _, rfl⟩
  case round =>
    obtain ⟨i, l, out, rfl, rfl, ha, hr, ho, hbl, rfl⟩ := hrel
    have hlen := ha.len
    have HA := hid ha
    have HRR := hid hr
    have HBL := hid hbl
    have hosz : (⟨out.toArray⟩ : ByteArray).size = out.length := Lib.size_mk _
    have ho9 : out.length ≤ 100000 := by omega
    clear ha hr hbl
    match l, hlen, HA, HRR with
    | [], hlen, HA, HRR =>
      have hie : ¬ (i : Int) < (s.length : Int) := by simp at hlen; omega
      have HRO := hid (show unpRes s = (out, 0) by rw [HRS.out, HRR.out]; show okOr (some (out ++ [])) = _; rw [List.append_nil]; rfl)
      go_wp2
      go_ret2
      exact ⟨by rw [HRO.out]; rfl, HBL.out⟩
    | c :: t, hlen, HA, HRR =>
      have hlt := HA.out.lt
      have hib := HA.out.byte
      have hii : (i : Int) < (s.length : Int) := by omega
      have hcl := c.toNat_lt
      by_cases h37 : c = 37
      · have y37 : ((c.toNat : Int) != 37) = false := byte_is' h37 rfl
        have HR37 := hid (show P = (unpE (37 :: t)).map (out ++ ·) by rw [HRR.out, h37])
        clear h37
        by_cases hshort : t.length < 2
        · have hge : (s.length : Int) ≤ (i : Int) + 2 := by simp only [List.length_cons] at hlen; omega
          have HRO := hid (show unpRes s = ([], 2) by rw [HRS.out, HR37.out, unpE_bad hshort]; rfl)
          clear hshort
          go_wp2
          go_ret2
          exact ⟨by rw [HRO.out]; rfl, HBL.out⟩
        match t, hlen, HA, HR37, hshort with
        | a :: b :: t, hlen, HA, HR37, _ =>
          have hge : ¬ ((s.length : Int) ≤ (i : Int) + 2) := by simp only [List.length_cons] at hlen; omega
          have hext : (⟨s.toArray⟩ : ByteArray).extract (i + 1) (i + 3) = ⟨[a, b].toArray⟩ := At.text (x := [a, b]) HA.out.tail
          have hi1 : ((i : Int) + 1).toNat = i + 1 := by omega
          have hi3 : ((i : Int) + 3).toNat = i + 3 := by omega
          have hle1 : (i : Int) + 1 ≤ (i : Int) + 3 := by omega
          have hle2 : (i : Int) + 3 ≤ (s.length : Int) := by simp only [List.length_cons] at hlen; omega
          have hpos : (0 : Int) ≤ (i : Int) + 1 := by omega
          have hpos3 : (0 : Int) ≤ (i : Int) + 3 := by omega
          have HUH := hid (fun u => unhexR_fn [a, b] (by show 2 ≤ 100000; decide) u)
          have HR2 := hid (show P = (if 15 < valH a ∨ 15 < valH b then none else (unpE t).map (UInt8.ofNat (valH a * 16 + valH b) :: ·)).map (out ++ ·) by rw [HR37.out, unpE_two])
          by_cases hbad : 15 < valH a ∨ 15 < valH b
          · have hu : unhxRes [a, b] = ([], 2) := by unfold unhxRes; rw [unhexE, if_pos hbad]; rfl
            rw [hu] at HUH
            have HRO := hid (show unpRes s = ([], 2) by rw [HRS.out, HR2.out, if_pos hbad]; rfl)
            clear hbad hu hlen
            go_wp2_with (go_at_call 55; (with_reducible refine (HUH.out _).mono ?_); rintro e w6 ⟨rfl, hb6⟩; have HB6 := hid hb6; clear hb6)
            go_ret2
            exact ⟨by rw [HRO.out]; rfl, HBL.out.trans (HB6.out.mono HBL.out.size)⟩
          · have hu : unhxRes [a, b] = ([UInt8.ofNat (valH a * 16 + valH b)], 0) := by unfold unhxRes; rw [unhexE, if_neg hbad]; rfl
            obtain ⟨c0, hc0⟩ : ∃ c0, c0 = UInt8.ofNat (valH a * 16 + valH b) := ⟨_, rfl⟩
            rw [hu, ← hc0] at HUH
            have HR3 := hid (show P = (unpE t).map ((out ++ [c0]) ++ ·) by
              rw [HR2.out, if_neg hbad, ← hc0]
              cases unpE t with
              | none => rfl
              | some r => simp)
            clear hbad hu hc0
            go_wp2_with (go_at_call 55; (with_reducible refine (HUH.out _).mono ?_); rintro e w6 ⟨rfl, hb6⟩; have HB6 := hid hb6; clear hb6)
            go_roundg t.length
            case measure => simp; omega
            case rel => exact ⟨i + 3, t, out ++ [c0], by go_num, by go_num, HA.out.tail.tail.tail, HR3.out, by simp; omega, HBL.out.trans (HB6.out.mono HBL.out.size), rfl⟩
        | [], _, _, _, h => exact absurd (by simp) h
        | [_], _, _, _, h => exact absurd (by simp) h
      · have y37 : ((c.toNat : Int) != 37) = true := byte_ne' 37 h37 rfl
        have HR3 := hid (show P = (unpE t).map ((out ++ [c]) ++ ·) by
          rw [HRR.out, unpE_plain h37]
          cases unpE t with
          | none => rfl
          | some r => simp)
        have hext : (⟨s.toArray⟩ : ByteArray).extract i (i + 1) = ⟨#[c]⟩ := At.text (x := [c]) HA.out
        have hi0 : IntKind.i64.wrap ((i : Int) + 1) = (i : Int) + 1 := IntWalk.i64_in _ (by omega)
        have hi1 : ((i : Int) + 1).toNat = i + 1 := by omega
        have hi2 : (i : Int) ≤ (i : Int) + 1 := by omega
        have hi3 : (i : Int) + 1 ≤ (s.length : Int) := by omega
        clear h37
        go_wp2
        go_roundg t.length
        case measure => simp
        case rel => exact ⟨i + 1, t, out ++ [c], by go_num, by go_num, HA.out.tail, HR3.out, by simp; omega, HBL.out, rfl⟩
theorem bitslice (d : Nat) (h : d < 2) : (⟨#[48, 49]⟩ : ByteArray).extract d (d + 1) = ⟨#[hexD d]⟩ :=
  (show ∀ m : Fin 2, (⟨#[48, 49]⟩ : ByteArray).extract m.1 (m.1 + 1) = ⟨#[hexD m.1]⟩ from by decide) ⟨d, h⟩
set_option maxRecDepth 1000000 in
set_option maxHeartbeats 8000000 in
theorem unbase64R_fn (s : Str) (hs : s.length ≤ 10000) (w : World) : Calls Tryz.prog 56 #[.string ⟨s.toArray⟩] w fun e w' => e = .returned (.tuple #[.string ⟨(unb64Res s).1.toArray⟩, .int .i64 (unb64Res s).2]) ∧ Below w.heap.size w w' := by
  have hsz : (⟨s.toArray⟩ : ByteArray).size = s.length := Lib.size_mk _
  have HIX := hid (show ∀ (c : UInt8) u, Calls Tryz.prog 97 #[.string ⟨#[65, 66, 67, 68, 69, 70, 71, 72, 73, 74, 75, 76, 77, 78, 79, 80, 81, 82, 83, 84, 85, 86, 87, 88, 89, 90, 97, 98, 99, 100, 101, 102, 103, 104, 105, 106, 107, 108, 109, 110, 111, 112, 113, 114, 115, 116, 117, 118, 119, 120, 121, 122, 48, 49, 50, 51, 52, 53, 54, 55, 56, 57, 43, 47]⟩, .int .u8 (c.toNat : Nat)] u fun e w' => e = .returned (.int .i64 (idxV (valB c))) ∧ w' = u from fun c u => by
    have h := Tryz.strings_IndexByte ⟨#[65, 66, 67, 68, 69, 70, 71, 72, 73, 74, 75, 76, 77, 78, 79, 80, 81, 82, 83, 84, 85, 86, 87, 88, 89, 90, 97, 98, 99, 100, 101, 102, 103, 104, 105, 106, 107, 108, 109, 110, 111, 112, 113, 114, 115, 116, 117, 118, 119, 120, 121, 122, 48, 49, 50, 51, 52, 53, 54, 55, 56, 57, 43, 47]⟩ (c.toNat : Int) u
    rw [show (c.toNat : Int).toNat.toUInt8 = c by simp] at h
    rw [← index_val c]
    exact h)
  obtain ⟨n, hn⟩ : ∃ n, n = s.length := ⟨_, rfl⟩
  rw [← hn] at hsz hs
  have HN := hid hn
  clear hn
  go_enter Tryz.func56, Tryz.ntmps56
  go_wp2_with fail
  go_loopg [4, 14] n (fun k ov iv wr => ∃ (i : Nat) (o : Str), o = bitsU s (6 * i) ∧ ov = .string ⟨o.toArray⟩ ∧ iv = .int .i64 (i : Nat) ∧ i ≤ n ∧ Below w.heap.size w wr ∧ k = n - i)
  case atStart => exact ⟨0, [], rfl, rfl, rfl, Nat.zero_le _, Below.refl _ _, rfl⟩
  case round =>
    obtain ⟨i, o, hoe, rfl, rfl, hin, hbl, rfl⟩ := hrel
    have hosz : (⟨o.toArray⟩ : ByteArray).size = 6 * i := by rw [Lib.size_mk, hoe]; exact bitsU_len _ _
    have HOE := hid hoe
    have HBL := hid hbl
    clear hoe hbl
    rcases Nat.lt_or_ge i n with hlt | hge
    · have hltI : (i : Int) < (n : Int) := by omega
      have hil : i < s.length := by rw [← HN.out]; exact hlt
      have hbyte := (At.here hil).byte
      obtain ⟨x, hx⟩ : ∃ x, x = s[i] := ⟨_, rfl⟩
      rw [← hx] at hbyte
      have HGD := hid (show s.getD i 0 = x by rw [hx, List.getD_eq_getElem?_getD, List.getElem?_eq_getElem hil]; rfl)
      obtain ⟨v, hv⟩ : ∃ v, v = valI x := ⟨_, rfl⟩
      have hv64 : v < 64 := by rw [hv]; exact valI_lt x
      have HV := hid hv
      have HIXx := hid (HIX.out x)
      clear hx hv hil
      cases hvb : valB x with
      | none =>
        obtain rfl : v = 0 := by rw [HV.out]; unfold valI; rw [hvb]; rfl
        rw [hvb] at HIXx
        have HIXy := hid (show ∀ u, Calls Tryz.prog 97 _ u fun e w' => e = .returned (.int .i64 (-1)) ∧ w' = u from HIXx.out)
        clear hvb HIXx
        go_wp2_with (go_at_call 97; (with_reducible refine (HIXy.out _).mono ?_); rintro e wr ⟨rfl, rfl⟩)
        go_loopg [4, 7] 6 (fun k ov kv wx => ∃ (j : Nat) (p : Str), j ≤ 6 ∧ p = bitsU s (6 * i + j) ∧ ov = .string ⟨p.toArray⟩ ∧ kv = .int .i64 (5 - (j : Int)) ∧ Below w.heap.size w wx ∧ k = 6 - j)
        case atStart => exact ⟨0, o, by decide, HOE.out, rfl, rfl, HBL.out, rfl⟩
        case round =>
          obtain ⟨j, p, hj6, hpe, rfl, rfl, hbx, hk⟩ := hrel
          replace hk := hk.symm
          subst hk
          have hpsz : (⟨p.toArray⟩ : ByteArray).size = 6 * i + j := by rw [Lib.size_mk, hpe]; exact bitsU_len _ _
          have HPE := hid hpe
          have HBX := hid hbx
          clear hpe hbx
          rcases Nat.lt_or_ge j 6 with hlt6 | hge6
          · obtain ⟨k, hk⟩ : ∃ k, k = 5 - j := ⟨_, rfl⟩
            have hkI : 5 - (j : Int) = (k : Int) := by omega
            rw [hkI]
            have hk0 : (0 : Int) ≤ (k : Int) := by omega
            have hk5 : k ≤ 5 := by omega
            have hkm : Nat.min k 64 = k := by exact Nat.min_eq_left (by omega)
            obtain ⟨z, hz⟩ : ∃ z, z = 0 / 2 ^ k := ⟨_, rfl⟩
            have hzl : z < 64 := by rw [hz]; exact Nat.lt_of_le_of_lt (Nat.div_le_self _ _) hv64
            have hzI : (0 : Int) / 2 ^ k = (z : Int) := by rw [hz]; simp
            obtain ⟨b, hb⟩ : ∃ b, b = z % 2 := ⟨_, rfl⟩
            have hand := i64_mask1 z (by omega)
            rw [← hb] at hand
            have hb2 : b < 2 := by omega
            have hext := bitslice b hb2
            have hd1 : IntKind.i64.wrap ((b : Int) + 1) = (b : Int) + 1 := IntWalk.i64_in _ (by omega)
            have hd2 : ((b : Int) + 1).toNat = b + 1 := by omega
            have hd3 : (b : Int) ≤ (b : Int) + 1 := by omega
            have hd4 : (b : Int) + 1 ≤ 2 := by omega
            have hd5 : (0 : Int) ≤ (b : Int) + 1 := by omega
            have HPN := hid (show p ++ [hexD b] = bitsU s (6 * i + (j + 1)) by
              have h1 : sb s (6 * i + j) = b := by
                unfold sb
                rw [show (6 * i + j) / 6 = i by omega, show (6 * i + j) % 6 = j by omega, HGD.out, ← HV.out, ← hk, hb, hz]
              rw [show 6 * i + (j + 1) = 6 * i + j + 1 from rfl, bitsU_snoc, HPE.out, h1])
            have hkn : (k : Int) - 1 = 5 - ((j + 1 : Nat) : Int) := by omega
            have HKN := hid hkn
            clear hk hz hb hkI hkn
            have hi9 : i ≤ 10000 := by omega
            go_wp2
            go_quiet (fail)
            go_wp2
            go_roundg (6 - (j + 1))
            case measure => omega
            case rel => exact ⟨j + 1, p ++ [hexD b], hlt6, HPN.out, by go_num, by rw [← HKN.out], HBX.out.trans ⟨rfl, rfl, rfl, Nat.le_refl _, fun _ _ => rfl⟩, rfl⟩
          · obtain rfl : j = 6 := by omega
            have hneg : ¬ ((0 : Int) ≤ 5 - ((6 : Nat) : Int)) := by decide
            go_wp2
            go_roundg (n - (i + 1))
            case measure => omega
            case rel => exact ⟨i + 1, p, by rw [HPE.out]; rfl, rfl, by go_num, hlt, HBX.out, rfl⟩
      | some d =>
        obtain rfl : v = d := by rw [HV.out]; unfold valI; rw [hvb]; rfl
        rw [hvb] at HIXx
        have HIXy := hid (show ∀ u, Calls Tryz.prog 97 _ u fun e w' => e = .returned (.int .i64 (v : Nat)) ∧ w' = u from HIXx.out)
        clear hvb HIXx
        go_wp2_with (go_at_call 97; (with_reducible refine (HIXy.out _).mono ?_); rintro e wr ⟨rfl, rfl⟩)
        go_loopg [4, 7] 6 (fun k ov kv wx => ∃ (j : Nat) (p : Str), j ≤ 6 ∧ p = bitsU s (6 * i + j) ∧ ov = .string ⟨p.toArray⟩ ∧ kv = .int .i64 (5 - (j : Int)) ∧ Below w.heap.size w wx ∧ k = 6 - j)
        case atStart => exact ⟨0, o, by decide, HOE.out, rfl, rfl, HBL.out, rfl⟩
        case round =>
          obtain ⟨j, p, hj6, hpe, rfl, rfl, hbx, hk⟩ := hrel
          replace hk := hk.symm
          subst hk
          have hpsz : (⟨p.toArray⟩ : ByteArray).size = 6 * i + j := by rw [Lib.size_mk, hpe]; exact bitsU_len _ _
          have HPE := hid hpe
          have HBX := hid hbx
          clear hpe hbx
          rcases Nat.lt_or_ge j 6 with hlt6 | hge6
          · obtain ⟨k, hk⟩ : ∃ k, k = 5 - j := ⟨_, rfl⟩
            have hkI : 5 - (j : Int) = (k : Int) := by omega
            rw [hkI]
            have hk0 : (0 : Int) ≤ (k : Int) := by omega
            have hk5 : k ≤ 5 := by omega
            have hkm : Nat.min k 64 = k := by exact Nat.min_eq_left (by omega)
            obtain ⟨z, hz⟩ : ∃ z, z = v / 2 ^ k := ⟨_, rfl⟩
            have hzl : z < 64 := by rw [hz]; exact Nat.lt_of_le_of_lt (Nat.div_le_self _ _) hv64
            have hzI : ((v : Int) / 2 ^ k) = (z : Int) := by rw [hz, Int.natCast_ediv, Int.natCast_pow]; rfl
            obtain ⟨b, hb⟩ : ∃ b, b = z % 2 := ⟨_, rfl⟩
            have hand := i64_mask1 z (by omega)
            rw [← hb] at hand
            have hb2 : b < 2 := by omega
            have hext := bitslice b hb2
            have hd1 : IntKind.i64.wrap ((b : Int) + 1) = (b : Int) + 1 := IntWalk.i64_in _ (by omega)
            have hd2 : ((b : Int) + 1).toNat = b + 1 := by omega
            have hd3 : (b : Int) ≤ (b : Int) + 1 := by omega
            have hd4 : (b : Int) + 1 ≤ 2 := by omega
            have hd5 : (0 : Int) ≤ (b : Int) + 1 := by omega
            have HPN := hid (show p ++ [hexD b] = bitsU s (6 * i + (j + 1)) by
              have h1 : sb s (6 * i + j) = b := by
                unfold sb
                rw [show (6 * i + j) / 6 = i by omega, show (6 * i + j) % 6 = j by omega, HGD.out, ← HV.out, ← hk, hb, hz]
              rw [show 6 * i + (j + 1) = 6 * i + j + 1 from rfl, bitsU_snoc, HPE.out, h1])
            have hkn : (k : Int) - 1 = 5 - ((j + 1 : Nat) : Int) := by omega
            have HKN := hid hkn
            clear hk hz hb hkI hkn
            have hi9 : i ≤ 10000 := by omega
            go_wp2
            go_quiet (fail)
            go_wp2
            go_roundg (6 - (j + 1))
            case measure => omega
            case rel => exact ⟨j + 1, p ++ [hexD b], hlt6, HPN.out, by go_num, by rw [← HKN.out], HBX.out.trans ⟨rfl, rfl, rfl, Nat.le_refl _, fun _ _ => rfl⟩, rfl⟩
          · obtain rfl : j = 6 := by omega
            have hneg : ¬ ((0 : Int) ≤ 5 - ((6 : Nat) : Int)) := by decide
            go_wp2
            go_roundg (n - (i + 1))
            case measure => omega
            case rel => exact ⟨i + 1, p, by rw [HPE.out]; rfl, rfl, by go_num, hlt, HBX.out, rfl⟩
    · obtain rfl : i = n := by omega
      have hnl : ¬ ((i : Int) < (i : Int)) := by omega
      clear hge hin
      obtain ⟨L, hL⟩ : ∃ L, L = 6 * i / 8 := ⟨_, rfl⟩
      have hL8 : 8 * L ≤ 6 * i := by omega
      have htd : Int.tdiv (6 * (i : Int)) 8 = (L : Int) := by rw [Int.tdiv_eq_ediv_of_nonneg (by omega)]; omega
      have htd2 : Int.tdiv ((6 * i : Nat) : Int) 8 = (L : Int) := by rw [Int.tdiv_eq_ediv_of_nonneg (by omega)]; omega
      have hed : 6 * (i : Int) / 8 = (L : Int) := by omega
      have hwL : IntKind.i64.wrap (L : Int) = (L : Int) := IntWalk.i64_in _ (by omega)
      have HFND := hid (fun y (h : b64E y = s) => by
        have h1 := unb_found s y h
        rw [← HN.out, ← hL] at h1
        exact h1)
      have hL9 : L ≤ 10000 := by omega
      clear hL
      go_wp2
      go_loopg [40] 3 (fun k jv wx => ∃ (j : Nat), jv = .int .i64 (j : Nat) ∧ j ≤ 3 ∧ (∀ cut, cut < j → cut ≤ L → b64E (pkB (sb s) (L - cut)) ≠ s) ∧ Below w.heap.size w wx ∧ k = 3 - j)
      case atStart => exact ⟨0, rfl, Nat.zero_le _, fun cut h => absurd h (Nat.not_lt_zero _), HBL.out, rfl⟩
      case round =>
        obtain ⟨j, rfl, hj3, hnf, hbx, rfl⟩ := hrel
        have HNF := hid hnf
        have HBX := hid hbx
        clear hnf hbx
        rcases Nat.lt_or_ge j 3 with hj | hj
        · have hjI : (j : Int) < 3 := by omega
          rcases Nat.lt_or_ge L j with hLj | hLj
          · have hneg : (L : Int) - (j : Int) < 0 := by omega
            have HRO := hid (show unb64Res s = ([], 2) from unb64Res_no fun y hy => by
              obtain ⟨cut, h1, h2, h3⟩ := HFND.out y hy
              exact HNF.out cut (by omega) h2 (by rw [h3]; exact hy))
            go_wp2
            go_ret2
            exact ⟨by rw [HRO.out]; rfl, HBX.out⟩
          · obtain ⟨m, hm⟩ : ∃ m, m = L - j := ⟨_, rfl⟩
            have hmI : (L : Int) - (j : Int) = (m : Int) := by omega
            have hm0 : ¬ ((m : Int) < 0) := by omega
            obtain ⟨E, hE⟩ : ∃ E, E = 8 * m := ⟨_, rfl⟩
            have hEI : 8 * (m : Int) = (E : Int) := by omega
            have hEle : E ≤ 6 * i := by omega
            have hEleI : (E : Int) ≤ 6 * (i : Int) := by omega
            have hEle2 : (E : Int) ≤ ((6 * i : Nat) : Int) := by omega
            have hE0 : (0 : Int) ≤ (E : Int) := by omega
            have hm9 : m ≤ 10000 := by omega
            have hext : (⟨o.toArray⟩ : ByteArray).extract 0 E = ⟨(bitsU s E).toArray⟩ := by
              rw [Lib.extract_mk, List.drop_zero, Nat.sub_zero, HOE.out, bitsU_take s hEle]
            have hpk := fun u => packed8R_fn 66 false (E : Int) rfl rfl (bitsU s E) (by rw [bitsU_len]; omega) ⟨by omega, by omega⟩ u
            have hct : cntT ⟨66, false, (E : Int)⟩ (bitsU s E) = E := by
              unfold cntT oneC
              dsimp only
              rw [if_neg (by omega), if_neg (by omega)]
              rfl
            rw [hct, show (E + 7) / 8 = m by omega, bitsU_rem, hE, dig_bits (sb s) (sb_lt s) m, ← hE, ← bitsU_rem] at hpk
            obtain ⟨b, hb⟩ : ∃ b, b = pkB (sb s) m := ⟨_, rfl⟩
            rw [← hb] at hpk
            have hbl : b.length = m := by rw [hb]; exact pkB_len _ _
            have HPK := hid (show ∀ u, Calls Tryz.prog 103 #[.agg #[.int .u8 66, .bool false, .int .i64 (E : Nat)], .string ⟨(bitsU s E).toArray⟩, .int .i64 8] u fun e w' => ∃ v, e = .returned (.tuple #[v, .bool true]) ∧ RowY u.heap.size w' v b ∧ Below u.heap.size u w' from hpk)
            have HB6 := hid (fun u => base64R_fn b (by omega) u)
            have HBE := hid (show b = pkB (sb s) (L - j) by rw [hb, hm])
            clear hpk hct hb hE hm
            by_cases heq : b64E b = s
            · have HRO := hid (unb64Res_yes heq)
              rw [heq] at HB6
              clear heq
              go_wp2_with (first | (go_at_call 103; (with_reducible refine (HPK.out _).mono ?_); rintro e w1 ⟨v, rfl, hr1, hb1⟩; have hcv := hr1.str; have HR1 := hid hr1; have HB1 := hid hb1; clear hr1 hb1) | (go_at_call 44; (with_reducible refine (HB6.out _).mono ?_); rintro e w2 ⟨rfl, hb2⟩; have hcv2 := (HR1.out.on hb2).str; have HB2 := hid hb2; clear hb2))
              go_ret2
              exact ⟨by rw [HRO.out]; rfl, (HBX.out.trans (HB1.out.mono HBX.out.size)).trans (HB2.out.mono (Nat.le_trans HBX.out.size HB1.out.size))⟩
            · obtain ⟨q, hq⟩ : ∃ q, q = b64E b := ⟨_, rfl⟩
              have HNX := hid (show ∀ cut, cut < j + 1 → cut ≤ L → b64E (pkB (sb s) (L - cut)) ≠ s from fun cut h1 h2 => by
                rcases Nat.lt_or_ge cut j with h | h
                · exact HNF.out cut h h2
                · obtain rfl : cut = j := by omega
                  rw [← HBE.out]
                  exact heq)
              rw [← hq] at HB6 heq
              have hst2 : (q == s) = false := by rw [beq_eq_false_iff_ne]; exact heq
              clear hq heq
              go_wp2_with (first | (go_at_call 103; (with_reducible refine (HPK.out _).mono ?_); rintro e w1 ⟨v, rfl, hr1, hb1⟩; have hcv := hr1.str; have HR1 := hid hr1; have HB1 := hid hb1; clear hr1 hb1) | (go_at_call 44; (with_reducible refine (HB6.out _).mono ?_); rintro e w2 ⟨rfl, hb2⟩; have HB2 := hid hb2; clear hb2))
              go_roundg (3 - (j + 1))
              case measure => omega
              case rel => exact ⟨j + 1, by go_num, hj, HNX.out, (HBX.out.trans (HB1.out.mono HBX.out.size)).trans (HB2.out.mono (Nat.le_trans HBX.out.size HB1.out.size)), rfl⟩
        · obtain rfl : j = 3 := by omega
          have HRO := hid (show unb64Res s = ([], 2) from unb64Res_no fun y hy => by
            obtain ⟨cut, h1, h2, h3⟩ := HFND.out y hy
            exact HNF.out cut h1 h2 (by rw [h3]; exact hy))
          rw [show ((3 : Nat) : Int) = 3 from rfl]
          clear hj hj3
          go_wp2
          go_ret2
          exact ⟨by rw [HRO.out]; rfl, HBX.out⟩
end Go.Proofs.YtihdndaibmgoiaaGreatDoor.Pz
