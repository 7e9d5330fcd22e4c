/-
  Part K18 of the proofs of this seat: contracts of functions and plain facts, merged from 3 texts.
-/
import Derived.Lib.AppendIntMem
import Derived.Maps.AppendAt
import Derived.Laws.AppendOwnNone
import Derived.Test.YtkgpmkkodpjdfaaGreatDoorK17
namespace Go.Proofs.YtkgpmkkodpjdfaaGreatDoor.Pz
open Go.RowKit
def GT (B : Nat) (w : World) : Prop := ∀ w', Below B w w' → ML w' ∧ Lib.TabIs Tryz.prog w' "internal/strconv.uint64pow10" .u64 Lib.pow10Tab
theorem GT.on {B : Nat} {w w1 : World} (h : GT B w) (hb : Below B w w1) : GT B w1 := fun w' h' => h w' (hb.trans h')
theorem GT.ml {B : Nat} {w : World} (h : GT B w) : ML w := (h w (Below.refl _ _)).1
theorem GT.tab {B : Nat} {w : World} (h : GT B w) : Lib.TabIs Tryz.prog w "internal/strconv.uint64pow10" .u64 Lib.pow10Tab := (h w (Below.refl _ _)).2
theorem shows_snoc (pre : Str) : ∀ (a : List Tok) (t : Tok), shows pre (a ++ [t]) = shows pre a ++ t.show pre
  | [], t => by simp [shows]
  | x :: a, t => by rw [List.cons_append, shows, shows, shows_snoc pre a t, List.append_assoc]
theorem shows_take (pre : Str) (ts : List Tok) {i : Nat} (h : i < ts.length) : shows pre (ts.take (i + 1)) = shows pre (ts.take i) ++ ts[i].show pre := by
  rw [List.take_succ_eq_append_getElem h, shows_snoc]
theorem shows_app (pre : Str) : ∀ (a b : List Tok), shows pre (a ++ b) = shows pre a ++ shows pre b
  | [], b => by simp [shows]
  | x :: a, b => by rw [List.cons_append, shows, shows, shows_app pre a b, List.append_assoc]
theorem shows_part (pre : Str) (ts : List Tok) {i : Nat} (h : i < ts.length) : (shows pre (ts.take i)).length + (ts[i].show pre).length ≤ (shows pre ts).length := by
  have h1 : shows pre ts = shows pre (ts.take (i + 1)) ++ shows pre (ts.drop (i + 1)) := by rw [← shows_app, List.take_append_drop]
  rw [h1, shows_take pre ts h]
  simp only [List.length_append]
  omega
theorem wt_mem : ∀ (ts : List Tok) (t : Tok), t ∈ ts → t.wt ≤ wts ts
  | [], _, h => by cases h
  | x :: ts, t, h => by
    rw [wts]
    rcases List.mem_cons.1 h with rfl | h
    · omega
    · have := wt_mem ts t h; omega
theorem belowA (w : World) (o : Obj) : Below w.heap.size w (w.alloc o) := (Below.refl _ _).alloc (Nat.le_refl _) _
theorem cat_mk (a b : Str) : (⟨a.toArray⟩ : ByteArray) ++ ⟨b.toArray⟩ = ⟨(a ++ b).toArray⟩ := by
  rw [ByteArray.ext_iff]; simp
set_option maxRecDepth 100000 in
set_option maxHeartbeats 4000000 in
theorem showP_fn : ∀ (n : Nat) (ts : List Tok), SizeOf.sizeOf ts ≤ n → ∀ (pre acc : Str) (w : World) (b B : Nat) (v : Value), Bld w b acc → ToksIs 33 w (fun g => g < b) v ts → GT B w → B ≤ b →
    acc.length + (shows pre ts).length ≤ 1000000000 → pre.length + wts ts ≤ 1000000 →
    Calls Tryz.prog 42 #[.pointer (some ⟨b, 0, none⟩), v, .string ⟨pre.toArray⟩] w fun e w' => e = .returned (.tuple #[]) ∧ Bld w' b (acc ++ shows pre ts) ∧ Below b w w' := by
  intro n
  induction n with
  | zero => intro ts h; cases ts <;> simp at h
  | succ n ih =>
    intro ts hn pre acc w b B v hB0 hT hG hBb hlen hpw
    have hlen' := hT.short
    obtain ⟨a1, c1, rfl⟩ : ∃ a c, v = .slice a ts.length c := by
      obtain ⟨a, cap, hv, _⟩ := RowIs.cell hT
      exact ⟨a, cap, hv⟩
    have hps : (⟨pre.toArray⟩ : ByteArray).size = pre.length := Lib.size_mk _
    have HT := hid hT
    have IH := hid ih
    have HG := hid hG
    have HB0 := hid hB0
    clear hT ih hG hB0
    go_enter Tryz.func42, Tryz.ntmps42
    go_wp2
    go_loopg [10] ts.length (fun k iv wr => ∃ (i : Nat), iv = .int .i64 (i : Nat) ∧ Bld wr b (acc ++ shows pre (ts.take i)) ∧ Below b w wr ∧ i + k = ts.length)
    case atStart => exact ⟨0, rfl, by simpa [shows] using HB0.out, Below.refl _ _, by simp⟩
    case round =>
      obtain ⟨i, rfl, hbd, hbl, hk⟩ := hrel
      by_cases hi : i < ts.length
      · have h1 : ToksIs 33 wr (fun g => g < b) (.slice a1 ts.length c1) ts := HT.out.keep2 (fun _ h _ => h) (fun g cur hg hc => (hbl.block g hg).trans hc)
        obtain ⟨g1, q1, k, s, bb, ix, u1, e1, hx, ht1, x0, x1, x2, x3⟩ := tok_at h1 hi
        simp only [Value.slice.injEq] at e1
        obtain ⟨rfl, _, rfl⟩ := e1
        have hwt1 : 1 + s.length + wts ix ≤ wts ts := by
          have := wt_mem ts ts[i] (List.getElem_mem hi)
          rw [hx, Tok.wt] at this
          omega
        have hpart := shows_part pre ts hi
        rw [hx] at hpart
        have hbw := hbd.lt
        have hi1 : (0 : Int) ≤ (i : Int) ∧ (i : Int) < (ts.length : Int) := by omega
        have hi2 : (i : Int) < (ts.length : Int) := by omega
        obtain ⟨a3, c3, rfl⟩ : ∃ a c, u1 = .slice a ix.length c := by
          obtain ⟨a, cap, hv, _⟩ := RowIs.cell ht1
          exact ⟨a, cap, hv⟩
        have IH1 := fun acc' wr' => IH.out ix (by
          have h3 : SizeOf.sizeOf ts[i] < SizeOf.sizeOf ts := List.sizeOf_lt_of_mem (List.getElem_mem hi)
          rw [hx] at h3
          simp at h3
          omega) (pre ++ [32]) acc' wr' b B (.slice a3 ix.length c3)
        have HI := hid IH1
        have HX := hid hx
        have HBL := hid hbl
        have HT1 := hid ht1
        have HBD := hid hbd
        clear IH1 hx hbl ht1 h1 hbd
        by_cases hk2 : k = 2
        · subst hk2
          cases bb with
          | false =>
            have hsh : (Tok.mk 2 s false ix).show pre = pre ++ sVar ++ quote s ++ [10] := by rw [Tok.show]; simp
            rw [hsh] at hpart
            simp only [List.length_append, sVar, List.length_cons, List.length_nil] at hpart
            have HS := hid hsh
            clear hsh
            obtain ⟨w1, hw1⟩ : ∃ w1, w1 = wr.alloc (.cells #[.int .i64 2, .string ⟨s.toArray⟩, .bool false, .slice a3 ix.length c3] 33) := ⟨_, rfl⟩
            have hb1 : Below wr.heap.size wr w1 := by rw [hw1]; exact belowA _ _
            have hbk1 : w1.heap[wr.heap.size]? = some (.cells #[.int .i64 2, .string ⟨s.toArray⟩, .bool false, .slice a3 ix.length c3] 33 (0, 0)) := by rw [hw1]; exact heap_alloc_new _ _
            have HW1 := hid hw1
            have hq := hid (quote_fn s (by omega) w1 ((HG.out.on ((HBL.out.trans (hb1.mono (Nat.le_of_lt hbw))).mono hBb)).ml))
            have hql := quoteLen s
            have hqs : (⟨(quote s).toArray⟩ : ByteArray).size = (quote s).length := Lib.size_mk _
            clear hw1
            go_wp2_with fail
            rw [← HW1.out]
            (with_reducible refine hq.out.mono ?_); rintro e w2 ⟨rfl, hb2⟩
            have hb12 : Below wr.heap.size wr w2 := hb1.trans (hb2.mono hb1.size)
            have hbk2 := (hb2.block _ (Array.getElem?_eq_some_iff.1 hbk1).1).trans hbk1
            have hbd2 := HBD.out.below hb12
            have hwc := hid (wstr_fn hbd2 (pre ++ sVar ++ quote s ++ [10]) (by simp only [List.length_append, sVar, List.length_cons, List.length_nil]; omega))
            have hcat : (⟨pre.toArray⟩ : ByteArray) ++ ⟨#[118, 97, 114, 32]⟩ ++ ⟨(quote s).toArray⟩ ++ ⟨#[10]⟩ = ⟨(pre ++ sVar ++ quote s ++ [10]).toArray⟩ := by rw [ByteArray.ext_iff]; simp [sVar]
            have HC := hid hcat
            have HK2 := hid hbk2
            have HB12 := hid hb12
            have hsq : (⟨pre.toArray⟩ ++ ⟨#[118, 97, 114, 32]⟩ ++ ⟨(quote s).toArray⟩ : ByteArray).size = pre.length + sVar.length + (quote s).length := by rw [show (⟨#[118, 97, 114, 32]⟩ : ByteArray) = ⟨sVar.toArray⟩ from rfl, cat_mk, cat_mk, Lib.size_mk]; simp; omega
            have hsp : (⟨pre.toArray⟩ ++ ⟨#[118, 97, 114, 32]⟩ : ByteArray).size = pre.length + sVar.length := by rw [show (⟨#[118, 97, 114, 32]⟩ : ByteArray) = ⟨sVar.toArray⟩ from rfl, cat_mk, Lib.size_mk]; simp
            have hcl : sVar.length ≤ 10 := by decide
            clear hcat hbk1 hbk2 hb1 hb2 hb12 hq hbd2
            go_wp2_with fail
            rw [HC.out]
            (with_reducible refine hwc.out.mono ?_); rintro e w3 ⟨rfl, hbd3, hk3⟩
            have HBD3 := hid hbd3
            have HK3 := hid (hk3.2 _ _ HK2.out (by intro e; simp at e; omega) (by intro c fz e; simp at e))
            have HB3 := hid (HBL.out.trans ((HB12.out.mono (Nat.le_of_lt hbw)).trans hk3.1))
            have hbw3 : b < w3.heap.size := hbd3.lt
            clear hwc hbd3 hk3 hsq hsp hcl hqs
            have y2 : w3.cell? ⟨wr.heap.size, 2, none⟩ = some (.bool false) := by rw [Lib.cell_of_heap HK3.out]; rfl
            go_wp2
            go_roundg (gk - 1)
            case measure => omega
            case rel => exact ⟨i + 1, by go_num, by rw [shows_take pre ts hi, HX.out, ← List.append_assoc]; rw [HS.out]; exact HBD3.out, HB3.out, by omega⟩
          | true =>
            have hsh : (Tok.mk 2 s true ix).show pre = pre ++ sVar ++ quote s ++ [10] ++ (pre ++ sIndex ++ shows (pre ++ [32]) ix) := by rw [Tok.show]; simp
            rw [hsh] at hpart
            simp only [List.length_append, sVar, sIndex, List.length_cons, List.length_nil] at hpart
            have HS := hid hsh
            clear hsh
            obtain ⟨w1, hw1⟩ : ∃ w1, w1 = wr.alloc (.cells #[.int .i64 2, .string ⟨s.toArray⟩, .bool true, .slice a3 ix.length c3] 33) := ⟨_, rfl⟩
            have hb1 : Below wr.heap.size wr w1 := by rw [hw1]; exact belowA _ _
            have hbk1 : w1.heap[wr.heap.size]? = some (.cells #[.int .i64 2, .string ⟨s.toArray⟩, .bool true, .slice a3 ix.length c3] 33 (0, 0)) := by rw [hw1]; exact heap_alloc_new _ _
            have HW1 := hid hw1
            have hq := hid (quote_fn s (by omega) w1 ((HG.out.on ((HBL.out.trans (hb1.mono (Nat.le_of_lt hbw))).mono hBb)).ml))
            have hql := quoteLen s
            have hqs : (⟨(quote s).toArray⟩ : ByteArray).size = (quote s).length := Lib.size_mk _
            clear hw1
            go_wp2_with fail
            rw [← HW1.out]
            (with_reducible refine hq.out.mono ?_); rintro e w2 ⟨rfl, hb2⟩
            have hb12 : Below wr.heap.size wr w2 := hb1.trans (hb2.mono hb1.size)
            have hbk2 := (hb2.block _ (Array.getElem?_eq_some_iff.1 hbk1).1).trans hbk1
            have hbd2 := HBD.out.below hb12
            have hwc := hid (wstr_fn hbd2 (pre ++ sVar ++ quote s ++ [10]) (by simp only [List.length_append, sVar, List.length_cons, List.length_nil]; omega))
            have hcat : (⟨pre.toArray⟩ : ByteArray) ++ ⟨#[118, 97, 114, 32]⟩ ++ ⟨(quote s).toArray⟩ ++ ⟨#[10]⟩ = ⟨(pre ++ sVar ++ quote s ++ [10]).toArray⟩ := by rw [ByteArray.ext_iff]; simp [sVar]
            have HC := hid hcat
            have HK2 := hid hbk2
            have HB12 := hid hb12
            have hsq : (⟨pre.toArray⟩ ++ ⟨#[118, 97, 114, 32]⟩ ++ ⟨(quote s).toArray⟩ : ByteArray).size = pre.length + sVar.length + (quote s).length := by rw [show (⟨#[118, 97, 114, 32]⟩ : ByteArray) = ⟨sVar.toArray⟩ from rfl, cat_mk, cat_mk, Lib.size_mk]; simp; omega
            have hsp : (⟨pre.toArray⟩ ++ ⟨#[118, 97, 114, 32]⟩ : ByteArray).size = pre.length + sVar.length := by rw [show (⟨#[118, 97, 114, 32]⟩ : ByteArray) = ⟨sVar.toArray⟩ from rfl, cat_mk, Lib.size_mk]; simp
            have hcl : sVar.length ≤ 10 := by decide
            clear hcat hbk1 hbk2 hb1 hb2 hb12 hq hbd2
            go_wp2_with fail
            rw [HC.out]
            (with_reducible refine hwc.out.mono ?_); rintro e w3 ⟨rfl, hbd3, hk3⟩
            have HBD3 := hid hbd3
            have HK3 := hid (hk3.2 _ _ HK2.out (by intro e; simp at e; omega) (by intro c fz e; simp at e))
            have HB3 := hid (HBL.out.trans ((HB12.out.mono (Nat.le_of_lt hbw)).trans hk3.1))
            have hk4b := hk3.1
            have hbw3 : b < w3.heap.size := hbd3.lt
            clear hwc hbd3 hk3 hsq hsp hcl hqs
            have y2 : w3.cell? ⟨wr.heap.size, 2, none⟩ = some (.bool true) := by rw [Lib.cell_of_heap HK3.out]; rfl
            have hwc := hid (wstr_fn HBD3.out (pre ++ sIndex) (by simp only [List.length_append, sVar, sIndex, List.length_cons, List.length_nil]; omega))
            have hcat : (⟨pre.toArray⟩ : ByteArray) ++ ⟨#[105, 110, 100, 101, 120, 10]⟩ = ⟨(pre ++ sIndex).toArray⟩ := by rw [ByteArray.ext_iff]; simp [sIndex]
            replace HC := hid hcat
            clear hcat
            go_wp2_with fail
            rw [HC.out]
            (with_reducible refine hwc.out.mono ?_); rintro e w4 ⟨rfl, hbd4, hk4⟩
            have hbk4 : w4.heap[wr.heap.size]? = some (.cells #[.int .i64 2, .string ⟨s.toArray⟩, .bool true, .slice a3 ix.length c3] 33 (0, 0)) := hk4.2 _ _ HK3.out (by intro e; simp at e; omega) (by intro c fz e; simp at e)
            have y3 : w4.cell? ⟨wr.heap.size, 3, none⟩ = some (.slice a3 ix.length c3) := by rw [Lib.cell_of_heap hbk4]; rfl
            have HB4 := hid (HB3.out.trans hk4.1)
            have hcat : (⟨pre.toArray⟩ : ByteArray) ++ ⟨#[32]⟩ = ⟨(pre ++ [32]).toArray⟩ := by rw [ByteArray.ext_iff]; simp
            replace HC := hid hcat
            have hih := hid (HI.out _ w4 hbd4 (HT1.out.keep2 (fun _ h _ => h) (fun g cur hg hc => (((HB12.out.mono (Nat.le_of_lt hbw)).trans (hk4b.trans hk4.1)).block g hg).trans hc)) (HG.out.on (HB4.out.mono hBb)) hBb (by simp only [List.length_append, sVar, sIndex, List.length_cons, List.length_nil]; omega) (by simp only [List.length_append, List.length_cons, List.length_nil]; omega))
            clear hcat hbk4 y2 hwc hk4 hbd4
            go_wp2_with fail
            rw [HC.out]
            (with_reducible refine hih.out.mono ?_); rintro e w5 ⟨rfl, hbd5, hb5⟩
            have HBD5 := hid hbd5
            have HB5 := hid (HB4.out.trans hb5)
            clear hbd5 hb5 hih y3
            go_wp2
            go_roundg (gk - 1)
            case measure => omega
            case rel => exact ⟨i + 1, by go_num, by rw [shows_take pre ts hi, HX.out, ← List.append_assoc]; rw [HS.out]; simpa [List.append_assoc] using HBD5.out, HB5.out, by omega⟩
        · have n2 : ((k : Int) == 2) = false := by rw [beq_eq_false_iff_ne]; omega
          by_cases hk3' : k = 3
          · subst hk3'
            have hsh : (Tok.mk 3 s bb ix).show pre = pre ++ sScript ++ quote s ++ [10] := by rw [Tok.show]; simp
            rw [hsh] at hpart
            simp only [List.length_append, sScript, List.length_cons, List.length_nil] at hpart
            have HS := hid hsh
            clear hsh
            obtain ⟨w1, hw1⟩ : ∃ w1, w1 = wr.alloc (.cells #[.int .i64 3, .string ⟨s.toArray⟩, .bool bb, .slice a3 ix.length c3] 33) := ⟨_, rfl⟩
            have hb1 : Below wr.heap.size wr w1 := by rw [hw1]; exact belowA _ _
            have hbk1 : w1.heap[wr.heap.size]? = some (.cells #[.int .i64 3, .string ⟨s.toArray⟩, .bool bb, .slice a3 ix.length c3] 33 (0, 0)) := by rw [hw1]; exact heap_alloc_new _ _
            have HW1 := hid hw1
            have hq := hid (quote_fn s (by omega) w1 ((HG.out.on ((HBL.out.trans (hb1.mono (Nat.le_of_lt hbw))).mono hBb)).ml))
            have hql := quoteLen s
            have hqs : (⟨(quote s).toArray⟩ : ByteArray).size = (quote s).length := Lib.size_mk _
            clear hw1
            go_wp2_with fail
            rw [← HW1.out]
            (with_reducible refine hq.out.mono ?_); rintro e w2 ⟨rfl, hb2⟩
            have hb12 : Below wr.heap.size wr w2 := hb1.trans (hb2.mono hb1.size)
            have hbk2 := (hb2.block _ (Array.getElem?_eq_some_iff.1 hbk1).1).trans hbk1
            have hbd2 := HBD.out.below hb12
            have hwc := hid (wstr_fn hbd2 (pre ++ sScript ++ quote s ++ [10]) (by simp only [List.length_append, sScript, List.length_cons, List.length_nil]; omega))
            have hcat : (⟨pre.toArray⟩ : ByteArray) ++ ⟨#[115, 99, 114, 105, 112, 116, 32]⟩ ++ ⟨(quote s).toArray⟩ ++ ⟨#[10]⟩ = ⟨(pre ++ sScript ++ quote s ++ [10]).toArray⟩ := by rw [ByteArray.ext_iff]; simp [sScript]
            have HC := hid hcat
            have HK2 := hid hbk2
            have HB12 := hid hb12
            have hsq : (⟨pre.toArray⟩ ++ ⟨#[115, 99, 114, 105, 112, 116, 32]⟩ ++ ⟨(quote s).toArray⟩ : ByteArray).size = pre.length + sScript.length + (quote s).length := by rw [show (⟨#[115, 99, 114, 105, 112, 116, 32]⟩ : ByteArray) = ⟨sScript.toArray⟩ from rfl, cat_mk, cat_mk, Lib.size_mk]; simp; omega
            have hsp : (⟨pre.toArray⟩ ++ ⟨#[115, 99, 114, 105, 112, 116, 32]⟩ : ByteArray).size = pre.length + sScript.length := by rw [show (⟨#[115, 99, 114, 105, 112, 116, 32]⟩ : ByteArray) = ⟨sScript.toArray⟩ from rfl, cat_mk, Lib.size_mk]; simp
            have hcl : sScript.length ≤ 10 := by decide
            clear hcat hbk1 hbk2 hb1 hb2 hb12 hq hbd2
            go_wp2_with fail
            rw [HC.out]
            (with_reducible refine hwc.out.mono ?_); rintro e w3 ⟨rfl, hbd3, hk3⟩
            have HBD3 := hid hbd3
            have HK3 := hid (hk3.2 _ _ HK2.out (by intro e; simp at e; omega) (by intro c fz e; simp at e))
            have HB3 := hid (HBL.out.trans ((HB12.out.mono (Nat.le_of_lt hbw)).trans hk3.1))
            have hbw3 : b < w3.heap.size := hbd3.lt
            clear hwc hbd3 hk3 hsq hsp hcl hqs
            go_wp2
            go_roundg (gk - 1)
            case measure => omega
            case rel => exact ⟨i + 1, by go_num, by rw [shows_take pre ts hi, HX.out, ← List.append_assoc]; rw [HS.out]; exact HBD3.out, HB3.out, by omega⟩
          · have n3 : ((k : Int) == 3) = false := by rw [beq_eq_false_iff_ne]; omega
            have hsh : (Tok.mk k s bb ix).show pre = pre ++ sText ++ quote s ++ [10] := by rw [Tok.show, if_neg (by simpa using hk2), if_neg (by simpa using hk3')]
            rw [hsh] at hpart
            simp only [List.length_append, sText, List.length_cons, List.length_nil] at hpart
            have HS := hid hsh
            clear hsh hk2 hk3'
            obtain ⟨w1, hw1⟩ : ∃ w1, w1 = wr.alloc (.cells #[.int .i64 (k : Nat), .string ⟨s.toArray⟩, .bool bb, .slice a3 ix.length c3] 33) := ⟨_, rfl⟩
            have hb1 : Below wr.heap.size wr w1 := by rw [hw1]; exact belowA _ _
            have hbk1 : w1.heap[wr.heap.size]? = some (.cells #[.int .i64 (k : Nat), .string ⟨s.toArray⟩, .bool bb, .slice a3 ix.length c3] 33 (0, 0)) := by rw [hw1]; exact heap_alloc_new _ _
            have HW1 := hid hw1
            have hq := hid (quote_fn s (by omega) w1 ((HG.out.on ((HBL.out.trans (hb1.mono (Nat.le_of_lt hbw))).mono hBb)).ml))
            have hql := quoteLen s
            have hqs : (⟨(quote s).toArray⟩ : ByteArray).size = (quote s).length := Lib.size_mk _
            clear hw1
            go_wp2_with fail
            rw [← HW1.out]
            (with_reducible refine hq.out.mono ?_); rintro e w2 ⟨rfl, hb2⟩
            have hb12 : Below wr.heap.size wr w2 := hb1.trans (hb2.mono hb1.size)
            have hbk2 := (hb2.block _ (Array.getElem?_eq_some_iff.1 hbk1).1).trans hbk1
            have hbd2 := HBD.out.below hb12
            have hwc := hid (wstr_fn hbd2 (pre ++ sText ++ quote s ++ [10]) (by simp only [List.length_append, sText, List.length_cons, List.length_nil]; omega))
            have hcat : (⟨pre.toArray⟩ : ByteArray) ++ ⟨#[116, 101, 120, 116, 32]⟩ ++ ⟨(quote s).toArray⟩ ++ ⟨#[10]⟩ = ⟨(pre ++ sText ++ quote s ++ [10]).toArray⟩ := by rw [ByteArray.ext_iff]; simp [sText]
            have HC := hid hcat
            have HK2 := hid hbk2
            have HB12 := hid hb12
            have hsq : (⟨pre.toArray⟩ ++ ⟨#[116, 101, 120, 116, 32]⟩ ++ ⟨(quote s).toArray⟩ : ByteArray).size = pre.length + sText.length + (quote s).length := by rw [show (⟨#[116, 101, 120, 116, 32]⟩ : ByteArray) = ⟨sText.toArray⟩ from rfl, cat_mk, cat_mk, Lib.size_mk]; simp; omega
            have hsp : (⟨pre.toArray⟩ ++ ⟨#[116, 101, 120, 116, 32]⟩ : ByteArray).size = pre.length + sText.length := by rw [show (⟨#[116, 101, 120, 116, 32]⟩ : ByteArray) = ⟨sText.toArray⟩ from rfl, cat_mk, Lib.size_mk]; simp
            have hcl : sText.length ≤ 10 := by decide
            clear hcat hbk1 hbk2 hb1 hb2 hb12 hq hbd2
            go_wp2_with fail
            rw [HC.out]
            (with_reducible refine hwc.out.mono ?_); rintro e w3 ⟨rfl, hbd3, hk3⟩
            have HBD3 := hid hbd3
            have HK3 := hid (hk3.2 _ _ HK2.out (by intro e; simp at e; omega) (by intro c fz e; simp at e))
            have HB3 := hid (HBL.out.trans ((HB12.out.mono (Nat.le_of_lt hbw)).trans hk3.1))
            have hbw3 : b < w3.heap.size := hbd3.lt
            clear hwc hbd3 hk3 hsq hsp hcl hqs
            go_wp2
            go_roundg (gk - 1)
            case measure => omega
            case rel => exact ⟨i + 1, by go_num, by rw [shows_take pre ts hi, HX.out, ← List.append_assoc]; rw [HS.out]; exact HBD3.out, HB3.out, by omega⟩
      · go_wp2
        go_end0
        have ht : ts.take i = ts := List.take_of_length_le (by omega)
        rw [ht] at hbd
        exact ⟨rfl, hbd, hbl⟩
theorem Tryz.infoS : (Tryz.prog.info? 9).map (fun i => (i.zero, i.size, i.bytes)) = some (some (.string ⟨#[]⟩), 1, 16) := by kernel_rfl
def strCells (l : List Str) : List Value := l.map fun s => .string ⟨s.toArray⟩
theorem add_none (b o i : Nat) : (⟨b, o, none⟩ : Addr).add i = ⟨b, o + i, none⟩ := by
  simp [Addr.add]
theorem ownsRow_base {w : World} {base : Nat} {e : TypeId} {size : Nat} {v : Value} {n : Nat} {xs : List Value} (h : w.ownsRow base e size v n xs) : ∀ g, v.ownBlock = some g → base ≤ g := by
  intro g hg
  rcases h.2 with ⟨rfl, _⟩ | ⟨g', cap, cur, rfl, hb, hgg, rest⟩
  · simp [Value.ownBlock] at hg
  · simp only [Value.ownBlock, Option.some.injEq] at hg
    omega
theorem scrs_snoc : ∀ (a : List Tok) (t : Tok), scrs (a ++ [t]) = scrs a ++ t.scr
  | [], t => by simp [scrs]
  | x :: a, t => by rw [List.cons_append, scrs, scrs, scrs_snoc a t, List.append_assoc]
theorem scrs_take (ts : List Tok) {i : Nat} (h : i < ts.length) : scrs (ts.take (i + 1)) = scrs (ts.take i) ++ ts[i].scr := by
  rw [List.take_succ_eq_append_getElem h, scrs_snoc]
theorem scrs_app : ∀ (a b : List Tok), scrs (a ++ b) = scrs a ++ scrs b
  | [], b => by simp [scrs]
  | x :: a, b => by rw [List.cons_append, scrs, scrs, scrs_app a b, List.append_assoc]
theorem scrs_part (ts : List Tok) (i : Nat) : (scrs (ts.take i)).length ≤ wts ts := by
  have h1 : scrs ts = scrs (ts.take i) ++ scrs (ts.drop i) := by rw [← scrs_app, List.take_append_drop]
  have h2 := scrs_count ts
  rw [h1, List.length_append] at h2
  omega
theorem scrsR_snoc : ∀ (a : List Tok) (t : Tok), scrsR (a ++ [t]) = scrsR a ++ t.scrR
  | [], t => by simp [scrsR]
  | x :: a, t => by rw [List.cons_append, scrsR, scrsR, scrsR_snoc a t, List.append_assoc]
theorem scrsR_take (ts : List Tok) {i : Nat} (h : i < ts.length) : scrsR (ts.take (i + 1)) = scrsR (ts.take i) ++ ts[i].scrR := by
  rw [List.take_succ_eq_append_getElem h, scrsR_snoc]
theorem scrsR_app : ∀ (a b : List Tok), scrsR (a ++ b) = scrsR a ++ scrsR b
  | [], b => by simp [scrsR]
  | x :: a, b => by rw [List.cons_append, scrsR, scrsR, scrsR_app a b, List.append_assoc]
mutual
theorem Tok.scrR_count : ∀ (t : Tok), t.scrR.length ≤ t.wt
  | .mk k s hx ix => by
    have := scrsR_count ix
    rw [Tok.scrR, Tok.wt]
    simp only [List.length_append]
    split <;> split <;> simp <;> omega
theorem scrsR_count : ∀ (ts : List Tok), (scrsR ts).length ≤ wts ts
  | [] => by simp [scrsR]
  | t :: ts => by
    have a := Tok.scrR_count t
    have b := scrsR_count ts
    rw [scrsR, wts]
    simp only [List.length_append]
    omega
end
theorem scrsR_part (ts : List Tok) (i : Nat) : (scrsR (ts.take i)).length ≤ wts ts := by
  have h1 : scrsR ts = scrsR (ts.take i) ++ scrsR (ts.drop i) := by rw [← scrsR_app, List.take_append_drop]
  have h2 := scrsR_count ts
  rw [h1, List.length_append] at h2
  omega
theorem ToksIs.low {w : World} {ok : Nat → Prop} {v : Value} {ts : List Tok} (h : ToksIs 33 w ok v ts) : ToksIs 33 w (fun g => g < w.heap.size) v ts := h.keep2 (fun _ _ h => h) (fun _ _ _ h => h)
theorem WdsIs.low {w : World} {ok : Nat → Prop} {v : Value} {ws : List Wd} (h : WdsIs 33 49 w ok v ws) : WdsIs 33 49 w (fun g => g < w.heap.size) v ws := h.keep2 (fun _ _ h => h) (fun _ _ _ h => h) (fun _ _ _ h => h)
theorem CmdsIs.low {n : Nat} {w : World} {ok : Nat → Prop} {v : Value} {cs : List Cmd} (h : CmdsIs 33 49 47 n w ok v cs) : CmdsIs 33 49 47 n w (fun g => g < w.heap.size) v cs := h.keep2 (fun _ _ h => h) (fun _ _ _ h => h) (fun _ _ _ h => h) (fun _ _ _ h => h)
theorem ToksIs.stay {B : Nat} {w w1 w2 : World} {v : Value} {ts : List Tok} (h : ToksIs 33 w1 (fun g => g < B) v ts) (h1 : Below B w w1) (h2 : Below B w w2) : ToksIs 33 w2 (fun g => g < B) v ts :=
  h.keep2 (fun _ h _ => h) (fun g _ hg hc => (h2.block g hg).trans ((h1.block g hg).symm.trans hc))
theorem WdsIs.stay {B : Nat} {w w1 w2 : World} {v : Value} {ws : List Wd} (h : WdsIs 33 49 w1 (fun g => g < B) v ws) (h1 : Below B w w1) (h2 : Below B w w2) : WdsIs 33 49 w2 (fun g => g < B) v ws :=
  h.keep2 (fun _ h _ => h) (fun g _ hg hc => (h2.block g hg).trans ((h1.block g hg).symm.trans hc)) (fun g _ hg hc => (h2.block g hg).trans ((h1.block g hg).symm.trans hc))
theorem CmdsIs.stay {n B : Nat} {w w1 w2 : World} {v : Value} {cs : List Cmd} (h : CmdsIs 33 49 47 n w1 (fun g => g < B) v cs) (h1 : Below B w w1) (h2 : Below B w w2) : CmdsIs 33 49 47 n w2 (fun g => g < B) v cs :=
  h.keep2 (fun _ h _ => h) (fun g _ hg hc => (h2.block g hg).trans ((h1.block g hg).symm.trans hc)) (fun g _ hg hc => (h2.block g hg).trans ((h1.block g hg).symm.trans hc)) (fun g _ hg hc => (h2.block g hg).trans ((h1.block g hg).symm.trans hc))
theorem strCells_app (a b : List Str) : strCells (a ++ b) = strCells a ++ strCells b := by simp [strCells]
theorem strCells_len (a : List Str) : (strCells a).length = a.length := by simp [strCells]
theorem strCells_one (a : List Str) : ∀ u ∈ strCells a, u.oneCell' = true := by
  intro u hu
  obtain ⟨s, _, rfl⟩ := List.mem_map.1 hu
  rfl
def Row (B : Nat) (w : World) (v : Value) (l : List Str) : Prop := w.ownsRow B 9 1 v l.length (strCells l)
theorem Row.nil (B : Nat) (w : World) : Row B w (.slice none 0 0) [] := World.ownsRow_nil _ _ _ _
theorem Row.lt {B : Nat} {w : World} {v : Value} {l : List Str} (h : Row B w v l) : ∀ g, v.ownBlock = some g → g < w.heap.size ∧ B ≤ g := fun g hg => ⟨(ownsRow_lt h g hg).1, ownsRow_base h g hg⟩
theorem Row.below {B C : Nat} {w w' : World} {v : Value} {l : List Str} (h : Row B w v l) (hb : Below C w w') (hC : ∀ g, v.ownBlock = some g → g < C) : Row B w' v l := ownsRow_heap h fun g hg => hb.block g (hC g hg)
theorem Row.on {B : Nat} {w w' : World} {v : Value} {l : List Str} (h : Row B w v l) (hb : Below w.heap.size w w') : Row B w' v l := h.below hb fun g hg => (h.lt g hg).1
theorem Row.grown {C : Nat} {w w' : World} {v u : Value} {l : List Str} (h : Row C w u l) (hg : w.grownBy w' v.ownBlock) (hv : ∀ g, v.ownBlock = some g → u.ownBlock ≠ some g) : Row C w' u l := by
  refine ownsRow_heap h fun g hgu => hg.block g (h.lt g hgu).1 fun e => hv g e.symm hgu
theorem app_one {w : World} {N : Nat} (hN : w.heap.size = N) {ops : Array Oper} {rest : List Oper} {o : Oper} {a : Act} {Q : Exit → Act → World → Prop} (hgd : o.guard = none) (s x : Operand)
    (ho : o.op = .call { callee := .builtin .append, args := #[s, x], argTypes := #[42, 42] }) (B : Nat) (v : Value) (l : List Str) (q : Str)
    (hs : a.eval s = v) (hown : Row B w v l) (hx : a.eval x = .slice (some ⟨N, 0, none⟩) 1 1) (hB : B ≤ w.heap.size) (hl : l.length ≤ 10000000)
    (h : ∀ v' w', Row B w' v' (l ++ [q]) → w.grownBy w' v.ownBlock → (∀ g, v'.ownBlock = some g → v.ownBlock = some g ∨ w.heap.size ≤ g) → wpList Tryz.prog ops Q rest (a.put o.dst v') w') :
    wpList Tryz.prog ops Q (o :: rest) a (w.alloc (.cells #[.string ⟨q.toArray⟩] 9)) := by
  obtain ⟨i0, hi, hz0, hz1, hz2⟩ := info_parts Tryz.infoS
  subst hN
  have hown' : (w.alloc (.cells #[.string ⟨q.toArray⟩] 9)).ownsRow B 9 1 v l.length (strCells l) := World.ownsRow.alloc hown _
  refine wpList_append_own_at _ hgd s x 42 ho B 9 i0 (.string ⟨#[]⟩) 1 16 Tryz.underlying42 hi hz0 hz1 hz2 rfl (by decide) v l.length (strCells l) hs hown' ⟨w.heap.size, 0, none⟩ 1 1 [.string ⟨q.toArray⟩] hx rfl (cell_one_new _ _ _) (strCells_one [q]) ?_ ?_ ?_ ?_
  · unfold maxLen; omega
  · omega
  · simp; omega
  · intro v' w' hrow hg _ hat
    refine h v' w' ?_ ?_ ?_
    · show w'.ownsRow B 9 1 v' (l ++ [q]).length (strCells (l ++ [q]))
      rw [strCells_app, List.length_append]
      exact hrow
    · refine ⟨hg.os, hg.tape, hg.output, ?_, fun k hk hr => ?_⟩
      · have := hg.size; simp at this; omega
      · rw [hg.block k (by simp; omega) hr]
        exact Below.heap_alloc _ _ _ (by omega)
    · intro g hgv
      rcases hat with h2 | h2
      · exact .inl (by rw [← h2]; exact hgv)
      · rw [h2] at hgv
        have := Option.some.inj hgv
        simp at this
        exact .inr (by omega)
theorem app_row {w : World} {ops : Array Oper} {rest : List Oper} {o : Oper} {a : Act} {Q : Exit → Act → World → Prop} (hgd : o.guard = none) (s x : Operand)
    (ho : o.op = .call { callee := .builtin .append, args := #[s, x], argTypes := #[42, 42] }) (B C : Nat) (v u : Value) (l m : List Str)
    (hs : a.eval s = v) (hown : Row B w v l) (hx : a.eval x = u) (hrow : Row C w u m) (hB : B ≤ w.heap.size) (hl : l.length + m.length ≤ 10000000)
    (h : ∀ v' w', Row B w' v' (l ++ m) → w.grownBy w' v.ownBlock → (∀ g, v'.ownBlock = some g → v.ownBlock = some g ∨ w.heap.size ≤ g) → wpList Tryz.prog ops Q rest (a.put o.dst v') w') :
    wpList Tryz.prog ops Q (o :: rest) a w := by
  obtain ⟨i0, hi, hz0, hz1, hz2⟩ := info_parts Tryz.infoS
  rcases hrow.2 with ⟨rfl, hm0⟩ | ⟨g, cap, cur, rfl, hb, hg, rest'⟩
  · obtain rfl : m = [] := List.length_eq_zero_iff.1 hm0
    refine wpList_append_own_none hgd s x 42 ho B 9 i0 1 Tryz.underlying42 hi v l.length (strCells l) hs hown hx ?_
    exact h v w (by simpa using hown) ⟨rfl, rfl, rfl, Nat.le_refl _, fun _ _ _ => rfl⟩ fun g hg => .inl hg
  · refine wpList_append_own_at w hgd s x 42 ho B 9 i0 (.string ⟨#[]⟩) 1 16 Tryz.underlying42 hi hz0 hz1 hz2 rfl (by decide) v l.length (strCells l) hs hown ⟨g, 0, none⟩ m.length cap (strCells m) hx (by rw [strCells_len]; omega) (fun j u hj => World.ownsRow.cells hrow rfl j u hj) (strCells_one m) ?_ ?_ hB ?_
    · unfold maxLen; omega
    · omega
    · intro v' w' hrow' hg' _ hat
      refine h v' w' ?_ hg' ?_
      · show w'.ownsRow B 9 1 v' (l ++ m).length (strCells (l ++ m))
        rw [strCells_app, List.length_append]
        exact hrow'
      · intro g2 hgv
        rcases hat with h2 | h2
        · exact .inl (by rw [← h2]; exact hgv)
        · rw [h2] at hgv
          have := Option.some.inj hgv
          exact .inr (by omega)
set_option maxRecDepth 100000 in
set_option maxHeartbeats 2000000 in
theorem within_fn : ∀ (n : Nat) (ts : List Tok), SizeOf.sizeOf ts ≤ n → ∀ (w : World) (ok : Nat → Prop) (v : Value), ToksIs 33 w ok v ts → wts ts ≤ 1000000 →
    Calls Tryz.prog 47 #[v] w fun e w' => ∃ u, e = .returned u ∧ Row w.heap.size w' u (scrs ts) ∧ Below w.heap.size w w' := by
  intro n
  induction n with
  | zero => intro ts h; cases ts <;> simp at h
  | succ n ih =>
    intro ts hn w ok v hT hwt
    have hlen' := hT.short
    obtain ⟨a1, c1, rfl⟩ : ∃ a c, v = .slice a ts.length c := by
      obtain ⟨a, cap, hv, _⟩ := RowIs.cell hT
      exact ⟨a, cap, hv⟩
    have HT := hid hT.low
    have IH := hid ih
    clear hT ih
    go_enter Tryz.func47, Tryz.ntmps47
    go_wp2
    go_loopg [3, 8] ts.length (fun k ov iv wr => ∃ (i : Nat), iv = .int .i64 (i : Nat) ∧ Row w.heap.size wr ov (scrs (ts.take i)) ∧ Below w.heap.size w wr ∧ i + k = ts.length)
    case atStart => exact ⟨0, rfl, by rw [List.take_zero, scrs]; exact Row.nil _ _, Below.refl _ _, by simp⟩
    case round =>
      obtain ⟨i, rfl, hown, hbl, hk⟩ := hrel
      by_cases hi : i < ts.length
      · have h1 := HT.out.stay (Below.refl _ _) hbl
        obtain ⟨g1, q1, k, s, bb, ix, u1, e1, hx, ht1, x0, x1, x2, x3⟩ := tok_at h1 hi
        simp only [Value.slice.injEq] at e1
        obtain ⟨rfl, _, rfl⟩ := e1
        have hwt1 : 1 + s.length + wts ix ≤ wts ts := by
          have := wt_mem ts ts[i] (List.getElem_mem hi)
          rw [hx, Tok.wt] at this
          omega
        have hcnt := scrs_part ts i
        have hcix := scrs_count ix
        have hi1 : (0 : Int) ≤ (i : Int) ∧ (i : Int) < (ts.length : Int) := by omega
        have hi2 : (i : Int) < (ts.length : Int) := by omega
        obtain ⟨a3, c3, rfl⟩ : ∃ a c, u1 = .slice a ix.length c := by
          obtain ⟨a, cap, hv, _⟩ := RowIs.cell ht1
          exact ⟨a, cap, hv⟩
        have IH1 := fun wr' ok' => IH.out ix (by
          have h3 : SizeOf.sizeOf ts[i] < SizeOf.sizeOf ts := List.sizeOf_lt_of_mem (List.getElem_mem hi)
          rw [hx] at h3
          simp at h3
          omega) wr' ok' (.slice a3 ix.length c3)
        have HI := hid IH1
        have HST := hid (show scrs (ts.take (i + 1)) = scrs (ts.take i) ++ (Tok.mk k s bb ix).scr by rw [scrs_take ts hi, hx])
        have HBL := hid hbl
        have HT1 := hid (fun w2 (h2 : Below w.heap.size w w2) => ht1.stay hbl h2)
        have HW := hid hown
        have HLT := hid (Row.lt hown)
        have hszw := hbl.size
        generalize hL : scrs (ts.take i) = L at hown hcnt HST HW
        clear IH1 hx hbl ht1 h1 hown hL
        by_cases hk3 : k = 3
        · subst hk3
          obtain ⟨w1, hw1⟩ : ∃ w1, w1 = wr.alloc (.cells #[.int .i64 3, .string ⟨s.toArray⟩, .bool bb, .slice a3 ix.length c3] 33) := ⟨_, rfl⟩
          have hb1 : Below wr.heap.size wr w1 := by rw [hw1]; exact belowA _ _
          have hbk1 : w1.heap[wr.heap.size]? = some (.cells #[.int .i64 3, .string ⟨s.toArray⟩, .bool bb, .slice a3 ix.length c3] 33 (0, 0)) := by rw [hw1]; exact heap_alloc_new _ _
          have hs1 : w1.heap.size = wr.heap.size + 1 := by rw [hw1]; simp
          have HW1 := hid hw1
          have HR1 := hid (HW.out.on hb1)
          have HB1 := hid hb1
          have HBK := hid hbk1
          clear hw1 hb1 hbk1
          go_wp2_with (at_builtin; rw [← HW1.out]; refine app_one hs1 rfl (.tmp 15) (.tmp 18) rfl w.heap.size _ L s rfl HR1.out rfl (by omega) (by omega) ?_)
          intro v2 w2 hr2 hg2 hv2
          have hbk2 : w2.heap[wr.heap.size]? = some (.cells #[.int .i64 3, .string ⟨s.toArray⟩, .bool bb, .slice a3 ix.length c3] 33 (0, 0)) := (hg2.block _ (by omega) (fun e => by have := (HLT.out _ e.symm).1; omega)).trans HBK.out
          have y0 : w2.cell? ⟨wr.heap.size, 0, none⟩ = some (.int .i64 3) := by rw [Lib.cell_of_heap hbk2]; rfl
          have y3 : w2.cell? ⟨wr.heap.size, 3, none⟩ = some (.slice a3 ix.length c3) := by rw [Lib.cell_of_heap hbk2]; rfl
          have HB2 := hid ((HBL.out.trans (HB1.out.mono hszw)).grown hg2 (by omega) (fun g hg => (HLT.out g hg).2))
          have HR2 := hid hr2
          have hsz2 : w.heap.size ≤ w2.heap.size := HB2.out.size
          clear hr2 hg2 hv2 hbk2
          have hcall := hid (HI.out w2 _ (HT1.out _ HB2.out) (by omega))
          go_wp2_with fail

          (with_reducible refine hcall.out.mono ?_); rintro e w3 ⟨ux, rfl, hr3, hb3⟩
          have hown3 := Row.on HR2.out hb3
          have hs3 := hb3.size
          have hws3 : w.heap.size ≤ w3.heap.size := by omega
          have HB3 := hid hb3
          have HO3 := hid hown3
          have HR3 := hid hr3
          clear hcall hown3 hr3 hb3
          go_wp2_with (at_builtin; refine app_row rfl (.tmp 20) (.tmp 23) rfl w.heap.size w2.heap.size _ _ (L ++ [s]) (scrs ix) rfl HO3.out rfl HR3.out hws3 ?c1 ?_)
          case c1 => first | omega | (simp only [List.length_append, List.length_cons, List.length_nil]; omega)
          intro v4 w4 hr4 hg4 _
          have HB4 := hid ((HB2.out.trans (HB3.out.mono hsz2)).grown hg4 hws3 (fun g hg => (Row.lt HO3.out g hg).2))
          have HR4 := hid hr4
          clear hr4 hg4
          go_wp2
          go_roundg (gk - 1)
          case measure => omega
          case rel => exact ⟨i + 1, by go_num, by rw [HST.out]; rw [Tok.scr, if_pos (by decide), List.singleton_append]; exact HR4.out, HB4.out, by omega⟩
        · have n3 : ((k : Int) == 3) = false := by rw [beq_eq_false_iff_ne]; omega
          have HST3 := hid (show (Tok.mk k s bb ix).scr = scrs ix by rw [Tok.scr, if_neg (by simpa using hk3), List.nil_append])
          clear hk3
          obtain ⟨w1, hw1⟩ : ∃ w1, w1 = wr.alloc (.cells #[.int .i64 (k : Nat), .string ⟨s.toArray⟩, .bool bb, .slice a3 ix.length c3] 33) := ⟨_, rfl⟩
          have hb1 : Below wr.heap.size wr w1 := by rw [hw1]; exact belowA _ _
          have hbk1 : w1.heap[wr.heap.size]? = some (.cells #[.int .i64 (k : Nat), .string ⟨s.toArray⟩, .bool bb, .slice a3 ix.length c3] 33 (0, 0)) := by rw [hw1]; exact heap_alloc_new _ _
          have hs1 : w1.heap.size = wr.heap.size + 1 := by rw [hw1]; simp
          have HW1 := hid hw1
          have HR1 := hid (HW.out.on hb1)
          have HB1 := hid hb1
          have HBK := hid hbk1
          clear hw1 hb1 hbk1
          have HB2 := hid (HBL.out.trans (HB1.out.mono hszw))
          have HR2 := hid HR1.out
          have hsz2 : w.heap.size ≤ w1.heap.size := HB2.out.size
          have hcall := hid (HI.out w1 _ (HT1.out _ HB2.out) (by omega))
          go_wp2_with fail
          rw [← HW1.out]
          (with_reducible refine hcall.out.mono ?_); rintro e w3 ⟨ux, rfl, hr3, hb3⟩
          have hown3 := Row.on HR2.out hb3
          have hs3 := hb3.size
          have hws3 : w.heap.size ≤ w3.heap.size := by omega
          have HB3 := hid hb3
          have HO3 := hid hown3
          have HR3 := hid hr3
          clear hcall hown3 hr3 hb3
          go_wp2_with (at_builtin; refine app_row rfl (.tmp 20) (.tmp 23) rfl w.heap.size w1.heap.size _ _ (L) (scrs ix) rfl HO3.out rfl HR3.out hws3 ?c1 ?_)
          case c1 => first | omega | (simp only [List.length_append, List.length_cons, List.length_nil]; omega)
          intro v4 w4 hr4 hg4 _
          have HB4 := hid ((HB2.out.trans (HB3.out.mono hsz2)).grown hg4 hws3 (fun g hg => (Row.lt HO3.out g hg).2))
          have HR4 := hid hr4
          clear hr4 hg4
          go_wp2
          go_roundg (gk - 1)
          case measure => omega
          case rel => exact ⟨i + 1, by go_num, by rw [HST.out]; rw [HST3.out]; exact HR4.out, HB4.out, by omega⟩
      · have ht : ts.take i = ts := List.take_of_length_le (by omega)
        rw [ht] at hown
        go_wp2
        go_ret
        exact ⟨_, rfl, hown, hbl⟩
set_option maxRecDepth 100000 in
set_option maxHeartbeats 2000000 in
theorem scriptsR_fn : ∀ (n : Nat) (ts : List Tok), SizeOf.sizeOf ts ≤ n → ∀ (w : World) (ok : Nat → Prop) (v : Value), ToksIs 33 w ok v ts → wts ts ≤ 1000000 →
    Calls Tryz.prog 48 #[v] w fun e w' => ∃ u, e = .returned u ∧ Row w.heap.size w' u (scrsR ts) ∧ Below w.heap.size w w' := by
  intro n
  induction n with
  | zero => intro ts h; cases ts <;> simp at h
  | succ n ih =>
    intro ts hn w ok v hT hwt
    have hlen' := hT.short
    obtain ⟨a1, c1, rfl⟩ : ∃ a c, v = .slice a ts.length c := by
      obtain ⟨a, cap, hv, _⟩ := RowIs.cell hT
      exact ⟨a, cap, hv⟩
    have HT := hid hT.low
    have IH := hid ih
    clear hT ih
    go_enter Tryz.func48, Tryz.ntmps48
    go_wp2
    go_loopg [3, 8] ts.length (fun k ov iv wr => ∃ (i : Nat), iv = .int .i64 (i : Nat) ∧ Row w.heap.size wr ov (scrsR (ts.take i)) ∧ Below w.heap.size w wr ∧ i + k = ts.length)
    case atStart => exact ⟨0, rfl, by rw [List.take_zero, scrsR]; exact Row.nil _ _, Below.refl _ _, by simp⟩
    case round =>
      obtain ⟨i, rfl, hown, hbl, hk⟩ := hrel
      by_cases hi : i < ts.length
      · have h1 := HT.out.stay (Below.refl _ _) hbl
        obtain ⟨g1, q1, k, s, bb, ix, u1, e1, hx, ht1, x0, x1, x2, x3⟩ := tok_at h1 hi
        simp only [Value.slice.injEq] at e1
        obtain ⟨rfl, _, rfl⟩ := e1
        have hwt1 : 1 + s.length + wts ix ≤ wts ts := by
          have := wt_mem ts ts[i] (List.getElem_mem hi)
          rw [hx, Tok.wt] at this
          omega
        have hcnt := scrsR_part ts i
        have hcix := scrsR_count ix
        have hi1 : (0 : Int) ≤ (i : Int) ∧ (i : Int) < (ts.length : Int) := by omega
        have hi2 : (i : Int) < (ts.length : Int) := by omega
        obtain ⟨a3, c3, rfl⟩ : ∃ a c, u1 = .slice a ix.length c := by
          obtain ⟨a, cap, hv, _⟩ := RowIs.cell ht1
          exact ⟨a, cap, hv⟩
        have IH1 := fun wr' ok' => IH.out ix (by
          have h3 : SizeOf.sizeOf ts[i] < SizeOf.sizeOf ts := List.sizeOf_lt_of_mem (List.getElem_mem hi)
          rw [hx] at h3
          simp at h3
          omega) wr' ok' (.slice a3 ix.length c3)
        have HI := hid IH1
        have HST := hid (show scrsR (ts.take (i + 1)) = scrsR (ts.take i) ++ (Tok.mk k s bb ix).scrR by rw [scrsR_take ts hi, hx])
        have HBL := hid hbl
        have HT1 := hid (fun w2 (h2 : Below w.heap.size w w2) => ht1.stay hbl h2)
        have HW := hid hown
        have HLT := hid (Row.lt hown)
        have hszw := hbl.size
        generalize hL : scrsR (ts.take i) = L at hown hcnt HST HW
        clear IH1 hx hbl ht1 h1 hown hL
        by_cases hk3 : k = 3
        · subst hk3
          obtain ⟨w1, hw1⟩ : ∃ w1, w1 = wr.alloc (.cells #[.int .i64 3, .string ⟨s.toArray⟩, .bool bb, .slice a3 ix.length c3] 33) := ⟨_, rfl⟩
          have hb1 : Below wr.heap.size wr w1 := by rw [hw1]; exact belowA _ _
          have hbk1 : w1.heap[wr.heap.size]? = some (.cells #[.int .i64 3, .string ⟨s.toArray⟩, .bool bb, .slice a3 ix.length c3] 33 (0, 0)) := by rw [hw1]; exact heap_alloc_new _ _
          have hs1 : w1.heap.size = wr.heap.size + 1 := by rw [hw1]; simp
          have HW1 := hid hw1
          have HR1 := hid (HW.out.on hb1)
          have HB1 := hid hb1
          have HBK := hid hbk1
          clear hw1 hb1 hbk1
          go_wp2_with (at_builtin; rw [← HW1.out]; refine app_one hs1 rfl (.tmp 15) (.tmp 18) rfl w.heap.size _ L s rfl HR1.out rfl (by omega) (by omega) ?_)
          intro v2 w2 hr2 hg2 hv2
          have hbk2 : w2.heap[wr.heap.size]? = some (.cells #[.int .i64 3, .string ⟨s.toArray⟩, .bool bb, .slice a3 ix.length c3] 33 (0, 0)) := (hg2.block _ (by omega) (fun e => by have := (HLT.out _ e.symm).1; omega)).trans HBK.out
          have y0 : w2.cell? ⟨wr.heap.size, 0, none⟩ = some (.int .i64 3) := by rw [Lib.cell_of_heap hbk2]; rfl
          have y3 : w2.cell? ⟨wr.heap.size, 3, none⟩ = some (.slice a3 ix.length c3) := by rw [Lib.cell_of_heap hbk2]; rfl
          have HB2 := hid ((HBL.out.trans (HB1.out.mono hszw)).grown hg2 (by omega) (fun g hg => (HLT.out g hg).2))
          have HR2 := hid hr2
          have hsz2 : w.heap.size ≤ w2.heap.size := HB2.out.size
          clear hr2 hg2 hv2 hbk2
          go_wp2
          go_roundg (gk - 1)
          case measure => omega
          case rel => exact ⟨i + 1, by go_num, by rw [HST.out]; rw [Tok.scrR, if_pos (by decide), if_neg (by simp), List.append_nil]; exact HR2.out, HB2.out, by omega⟩
        · have n3 : ((k : Int) == 3) = false := by rw [beq_eq_false_iff_ne]; omega
          by_cases hk2 : k = 2
          · subst hk2
            cases bb with
            | true =>
              obtain ⟨w1, hw1⟩ : ∃ w1, w1 = wr.alloc (.cells #[.int .i64 2, .string ⟨s.toArray⟩, .bool true, .slice a3 ix.length c3] 33) := ⟨_, rfl⟩
              have hb1 : Below wr.heap.size wr w1 := by rw [hw1]; exact belowA _ _
              have hbk1 : w1.heap[wr.heap.size]? = some (.cells #[.int .i64 2, .string ⟨s.toArray⟩, .bool true, .slice a3 ix.length c3] 33 (0, 0)) := by rw [hw1]; exact heap_alloc_new _ _
              have hs1 : w1.heap.size = wr.heap.size + 1 := by rw [hw1]; simp
              have HW1 := hid hw1
              have HR1 := hid (HW.out.on hb1)
              have HB1 := hid hb1
              have HBK := hid hbk1
              clear hw1 hb1 hbk1
              have HB2 := hid (HBL.out.trans (HB1.out.mono hszw))
              have HR2 := hid HR1.out
              have hsz2 : w.heap.size ≤ w1.heap.size := HB2.out.size
              have hcall := hid (HI.out w1 _ (HT1.out _ HB2.out) (by omega))
              go_wp2_with fail
              rw [← HW1.out]
              (with_reducible refine hcall.out.mono ?_); rintro e w3 ⟨ux, rfl, hr3, hb3⟩
              have hown3 := Row.on HR2.out hb3
              have hs3 := hb3.size
              have hws3 : w.heap.size ≤ w3.heap.size := by omega
              have HB3 := hid hb3
              have HO3 := hid hown3
              have HR3 := hid hr3
              clear hcall hown3 hr3 hb3
              go_wp2_with (at_builtin; refine app_row rfl (.tmp 27) (.tmp 30) rfl w.heap.size w1.heap.size _ _ (L) (scrsR ix) rfl HO3.out rfl HR3.out hws3 ?c1 ?_)
              case c1 => first | omega | (simp only [List.length_append, List.length_cons, List.length_nil]; omega)
              intro v4 w4 hr4 hg4 _
              have HB4 := hid ((HB2.out.trans (HB3.out.mono hsz2)).grown hg4 hws3 (fun g hg => (Row.lt HO3.out g hg).2))
              have HR4 := hid hr4
              clear hr4 hg4
              go_wp2
              go_roundg (gk - 1)
              case measure => omega
              case rel => exact ⟨i + 1, by go_num, by rw [HST.out]; rw [Tok.scrR, if_neg (by decide), if_pos (by decide), List.nil_append]; exact HR4.out, HB4.out, by omega⟩
            | false =>
              obtain ⟨w1, hw1⟩ : ∃ w1, w1 = wr.alloc (.cells #[.int .i64 2, .string ⟨s.toArray⟩, .bool false, .slice a3 ix.length c3] 33) := ⟨_, rfl⟩
              have hb1 : Below wr.heap.size wr w1 := by rw [hw1]; exact belowA _ _
              have hbk1 : w1.heap[wr.heap.size]? = some (.cells #[.int .i64 2, .string ⟨s.toArray⟩, .bool false, .slice a3 ix.length c3] 33 (0, 0)) := by rw [hw1]; exact heap_alloc_new _ _
              have hs1 : w1.heap.size = wr.heap.size + 1 := by rw [hw1]; simp
              have HW1 := hid hw1
              have HR1 := hid (HW.out.on hb1)
              have HB1 := hid hb1
              have HBK := hid hbk1
              clear hw1 hb1 hbk1
              have HB2 := hid (HBL.out.trans (HB1.out.mono hszw))
              have HR2 := hid HR1.out
              have hsz2 : w.heap.size ≤ w1.heap.size := HB2.out.size
              go_wp2
              go_roundg (gk - 1)
              case measure => omega
              case rel => rw [← HW1.out]; exact ⟨i + 1, by go_num, by rw [HST.out]; rw [Tok.scrR, if_neg (by decide), if_neg (by decide), List.append_nil, List.append_nil]; exact HR2.out, HB2.out, by omega⟩
          · have n2 : ((k : Int) == 2) = false := by rw [beq_eq_false_iff_ne]; omega
            have HST3 := hid (show (Tok.mk k s bb ix).scrR = [] by rw [Tok.scrR, if_neg (by simpa using hk3), if_neg (by simpa using fun h => absurd h hk2), List.nil_append])
            clear hk3 hk2
            obtain ⟨w1, hw1⟩ : ∃ w1, w1 = wr.alloc (.cells #[.int .i64 (k : Nat), .string ⟨s.toArray⟩, .bool bb, .slice a3 ix.length c3] 33) := ⟨_, rfl⟩
            have hb1 : Below wr.heap.size wr w1 := by rw [hw1]; exact belowA _ _
            have hbk1 : w1.heap[wr.heap.size]? = some (.cells #[.int .i64 (k : Nat), .string ⟨s.toArray⟩, .bool bb, .slice a3 ix.length c3] 33 (0, 0)) := by rw [hw1]; exact heap_alloc_new _ _
            have hs1 : w1.heap.size = wr.heap.size + 1 := by rw [hw1]; simp
            have HW1 := hid hw1
            have HR1 := hid (HW.out.on hb1)
            have HB1 := hid hb1
            have HBK := hid hbk1
            clear hw1 hb1 hbk1
            have HB2 := hid (HBL.out.trans (HB1.out.mono hszw))
            have HR2 := hid HR1.out
            have hsz2 : w.heap.size ≤ w1.heap.size := HB2.out.size
            go_wp2
            go_roundg (gk - 1)
            case measure => omega
            case rel => rw [← HW1.out]; exact ⟨i + 1, by go_num, by rw [HST.out]; rw [HST3.out, List.append_nil]; exact HR2.out, HB2.out, by omega⟩
      · have ht : ts.take i = ts := List.take_of_length_le (by omega)
        rw [ht] at hown
        go_wp2
        go_ret
        exact ⟨_, rfl, hown, hbl⟩
set_option maxRecDepth 100000 in
set_option maxHeartbeats 4000000 in
theorem tokensR_fn : ∀ (n : Nat) (ts : List Tok), SizeOf.sizeOf ts ≤ n → ∀ (pre : Str) (w : World) (ok : Nat → Prop) (v : Value), ToksIs 33 w ok v ts →
    (shows pre ts).length ≤ 1000000000 → pre.length + wts ts ≤ 1000000 →
    Calls Tryz.prog 44 #[v, .string ⟨pre.toArray⟩] w fun e w' => e = .returned (.string ⟨(shows pre ts).toArray⟩) ∧ Below w.heap.size w w' := by
  intro n
  induction n with
  | zero => intro ts h; cases ts <;> simp at h
  | succ n ih =>
    intro ts hn pre w ok v hT hlen hpw
    have hlen' := hT.short
    obtain ⟨a1, c1, rfl⟩ : ∃ a c, v = .slice a ts.length c := by
      obtain ⟨a, cap, hv, _⟩ := RowIs.cell hT
      exact ⟨a, cap, hv⟩
    have hps : (⟨pre.toArray⟩ : ByteArray).size = pre.length := Lib.size_mk _
    have HT := hid hT.low
    have IH := hid ih
    clear hT ih
    go_enter Tryz.func44, Tryz.ntmps44
    go_wp2
    go_loopg [5, 10] ts.length (fun k sv iv wr => ∃ (i : Nat), sv = .string ⟨(shows pre (ts.take i)).toArray⟩ ∧ iv = .int .i64 (i : Nat) ∧ Below w.heap.size w wr ∧ i + k = ts.length)
    case atStart => exact ⟨0, by simp [shows], rfl, Below.refl _ _, by simp⟩
    case round =>
      obtain ⟨i, rfl, rfl, hbl, hk⟩ := hrel
      by_cases hi : i < ts.length
      · have h1 := HT.out.stay (Below.refl _ _) hbl
        obtain ⟨g1, q1, k, s, bb, ix, u1, e1, hx, ht1, x0, x1, x2, x3⟩ := tok_at h1 hi
        simp only [Value.slice.injEq] at e1
        obtain ⟨rfl, _, rfl⟩ := e1
        have hwt1 : 1 + s.length + wts ix ≤ wts ts := by
          have := wt_mem ts ts[i] (List.getElem_mem hi)
          rw [hx, Tok.wt] at this
          omega
        have hpart := shows_part pre ts hi
        have hdone : (⟨(shows pre (ts.take i)).toArray⟩ : ByteArray).size = (shows pre (ts.take i)).length := Lib.size_mk _
        have hql := quoteLen s
        rw [hx] at hpart
        have hi1 : (0 : Int) ≤ (i : Int) ∧ (i : Int) < (ts.length : Int) := by omega
        have hi2 : (i : Int) < (ts.length : Int) := by omega
        obtain ⟨a3, c3, rfl⟩ : ∃ a c, u1 = .slice a ix.length c := by
          obtain ⟨a, cap, hv, _⟩ := RowIs.cell ht1
          exact ⟨a, cap, hv⟩
        have IH1 := fun ok' wr' => IH.out ix (by
          have h3 : SizeOf.sizeOf ts[i] < SizeOf.sizeOf ts := List.sizeOf_lt_of_mem (List.getElem_mem hi)
          rw [hx] at h3
          simp at h3
          omega) (pre ++ [32]) wr' ok' (.slice a3 ix.length c3)
        have HI := hid IH1
        have HX := hid hx
        have HBL := hid hbl
        have HT1 := hid (fun w2 (h2 : Below w.heap.size w w2) => ht1.stay hbl h2)
        clear IH1 hx hbl ht1 h1
        by_cases hk2 : k = 2
        · subst hk2
          cases bb with
          | false =>
            have hsh : (Tok.mk 2 s false ix).show pre = pre ++ sVar ++ quote s ++ [10] := by rw [Tok.show]; simp
            rw [hsh] at hpart
            simp only [List.length_append, sVar, List.length_cons, List.length_nil] at hpart
            have HS := hid hsh
            clear hsh
            obtain ⟨w1, hw1⟩ : ∃ w1, w1 = wr.alloc (.cells #[.int .i64 2, .string ⟨s.toArray⟩, .bool false, .slice a3 ix.length c3] 33) := ⟨_, rfl⟩
            have hb1 : Below wr.heap.size wr w1 := by rw [hw1]; exact belowA _ _
            have hbk1 : w1.heap[wr.heap.size]? = some (.cells #[.int .i64 2, .string ⟨s.toArray⟩, .bool false, .slice a3 ix.length c3] 33 (0, 0)) := by rw [hw1]; exact heap_alloc_new _ _
            have HW1 := hid hw1
            have hq := hid (quoteR_fn s (by omega) w1)
            have hqs : (⟨(quote s).toArray⟩ : ByteArray).size = (quote s).length := Lib.size_mk _
            clear hw1
            go_wp2_with fail
            rw [← HW1.out]
            (with_reducible refine hq.out.mono ?_); rintro e w2 ⟨rfl, hb2⟩
            have HBW2 := hid (HBL.out.trans ((hb1.trans (hb2.mono hb1.size)).mono HBL.out.size))
            have HK2 := hid ((hb2.block _ (Array.getElem?_eq_some_iff.1 hbk1).1).trans hbk1)
            have hcat : (⟨pre.toArray⟩ : ByteArray) ++ ⟨#[118, 97, 114, 32]⟩ ++ ⟨(quote s).toArray⟩ ++ ⟨#[10]⟩ = ⟨(pre ++ sVar ++ quote s ++ [10]).toArray⟩ := by rw [ByteArray.ext_iff]; simp [sVar]
            have hsq : (⟨pre.toArray⟩ ++ ⟨#[118, 97, 114, 32]⟩ ++ ⟨(quote s).toArray⟩ : ByteArray).size = pre.length + sVar.length + (quote s).length := by rw [show (⟨#[118, 97, 114, 32]⟩ : ByteArray) = ⟨sVar.toArray⟩ from rfl, cat_mk, cat_mk, Lib.size_mk]; simp; omega
            have hsp : (⟨pre.toArray⟩ ++ ⟨#[118, 97, 114, 32]⟩ : ByteArray).size = pre.length + sVar.length := by rw [show (⟨#[118, 97, 114, 32]⟩ : ByteArray) = ⟨sVar.toArray⟩ from rfl, cat_mk, Lib.size_mk]; simp
            have hsr : (⟨(pre ++ sVar ++ quote s ++ [10]).toArray⟩ : ByteArray).size = pre.length + sVar.length + (quote s).length + 1 := by rw [Lib.size_mk]; simp; omega
            have hcl : sVar.length ≤ 10 := by decide
            have hlw2 : wr.heap.size < w2.heap.size := (Array.getElem?_eq_some_iff.1 HK2.out).1
            clear hbk1 hb1 hb2 hq
            have hsa : (⟨pre.toArray⟩ ++ ⟨#[118, 97, 114, 32]⟩ ++ ⟨(quote s).toArray⟩ ++ ⟨#[10]⟩ : ByteArray).size = pre.length + 4 + (quote s).length + 1 := by rw [hcat, Lib.size_mk]; simp [sVar]; omega
            clear hcat
            have y2 : w2.cell? ⟨wr.heap.size, 2, none⟩ = some (.bool false) := by rw [Lib.cell_of_heap HK2.out]; rfl
            go_wp2
            go_roundg (gk - 1)
            case measure => omega
            case rel => exact ⟨i + 1, by rw [shows_take pre ts hi, HX.out, HS.out]; rw [Value.string.injEq, ByteArray.ext_iff]; simp [sVar], by go_num, HBW2.out, by omega⟩
          | true =>
            have hsh : (Tok.mk 2 s true ix).show pre = pre ++ sVar ++ quote s ++ [10] ++ (pre ++ sIndex ++ shows (pre ++ [32]) ix) := by rw [Tok.show]; simp
            rw [hsh] at hpart
            simp only [List.length_append, sVar, sIndex, List.length_cons, List.length_nil] at hpart
            have HS := hid hsh
            clear hsh
            obtain ⟨w1, hw1⟩ : ∃ w1, w1 = wr.alloc (.cells #[.int .i64 2, .string ⟨s.toArray⟩, .bool true, .slice a3 ix.length c3] 33) := ⟨_, rfl⟩
            have hb1 : Below wr.heap.size wr w1 := by rw [hw1]; exact belowA _ _
            have hbk1 : w1.heap[wr.heap.size]? = some (.cells #[.int .i64 2, .string ⟨s.toArray⟩, .bool true, .slice a3 ix.length c3] 33 (0, 0)) := by rw [hw1]; exact heap_alloc_new _ _
            have HW1 := hid hw1
            have hq := hid (quoteR_fn s (by omega) w1)
            have hqs : (⟨(quote s).toArray⟩ : ByteArray).size = (quote s).length := Lib.size_mk _
            clear hw1
            go_wp2_with fail
            rw [← HW1.out]
            (with_reducible refine hq.out.mono ?_); rintro e w2 ⟨rfl, hb2⟩
            have HBW2 := hid (HBL.out.trans ((hb1.trans (hb2.mono hb1.size)).mono HBL.out.size))
            have HK2 := hid ((hb2.block _ (Array.getElem?_eq_some_iff.1 hbk1).1).trans hbk1)
            have hcat : (⟨pre.toArray⟩ : ByteArray) ++ ⟨#[118, 97, 114, 32]⟩ ++ ⟨(quote s).toArray⟩ ++ ⟨#[10]⟩ = ⟨(pre ++ sVar ++ quote s ++ [10]).toArray⟩ := by rw [ByteArray.ext_iff]; simp [sVar]
            have hsq : (⟨pre.toArray⟩ ++ ⟨#[118, 97, 114, 32]⟩ ++ ⟨(quote s).toArray⟩ : ByteArray).size = pre.length + sVar.length + (quote s).length := by rw [show (⟨#[118, 97, 114, 32]⟩ : ByteArray) = ⟨sVar.toArray⟩ from rfl, cat_mk, cat_mk, Lib.size_mk]; simp; omega
            have hsp : (⟨pre.toArray⟩ ++ ⟨#[118, 97, 114, 32]⟩ : ByteArray).size = pre.length + sVar.length := by rw [show (⟨#[118, 97, 114, 32]⟩ : ByteArray) = ⟨sVar.toArray⟩ from rfl, cat_mk, Lib.size_mk]; simp
            have hsr : (⟨(pre ++ sVar ++ quote s ++ [10]).toArray⟩ : ByteArray).size = pre.length + sVar.length + (quote s).length + 1 := by rw [Lib.size_mk]; simp; omega
            have hcl : sVar.length ≤ 10 := by decide
            have hlw2 : wr.heap.size < w2.heap.size := (Array.getElem?_eq_some_iff.1 HK2.out).1
            clear hbk1 hb1 hb2 hq
            have y2 : w2.cell? ⟨wr.heap.size, 2, none⟩ = some (.bool true) := by rw [Lib.cell_of_heap HK2.out]; rfl
            have y3 : w2.cell? ⟨wr.heap.size, 3, none⟩ = some (.slice a3 ix.length c3) := by rw [Lib.cell_of_heap HK2.out]; rfl
            have hcat2 : (⟨pre.toArray⟩ : ByteArray) ++ ⟨#[32]⟩ = ⟨(pre ++ [32]).toArray⟩ := by rw [ByteArray.ext_iff]; simp
            have HC2 := hid hcat2
            have hsi : (⟨pre.toArray⟩ ++ ⟨#[105, 110, 100, 101, 120, 10]⟩ : ByteArray).size = pre.length + 6 := by rw [show (⟨#[105, 110, 100, 101, 120, 10]⟩ : ByteArray) = ⟨sIndex.toArray⟩ from rfl, cat_mk, Lib.size_mk]; simp [sIndex]
            have hsx : (⟨(shows (pre ++ [32]) ix).toArray⟩ : ByteArray).size = (shows (pre ++ [32]) ix).length := Lib.size_mk _
            have hsd : (⟨(shows pre (List.take i ts)).toArray⟩ ++ (⟨pre.toArray⟩ ++ ⟨#[118, 97, 114, 32]⟩ ++ ⟨(quote s).toArray⟩ ++ ⟨#[10]⟩) : ByteArray).size = (shows pre (ts.take i)).length + (pre.length + 4 + (quote s).length + 1) := by rw [hcat, cat_mk, Lib.size_mk]; simp [sVar]; omega
            have hst : (⟨pre.toArray⟩ ++ ⟨#[105, 110, 100, 101, 120, 10]⟩ ++ ⟨(shows (pre ++ [32]) ix).toArray⟩ : ByteArray).size = pre.length + 6 + (shows (pre ++ [32]) ix).length := by rw [show (⟨#[105, 110, 100, 101, 120, 10]⟩ : ByteArray) = ⟨sIndex.toArray⟩ from rfl, cat_mk, cat_mk, Lib.size_mk]; simp [sIndex]; omega
            have hsa : (⟨pre.toArray⟩ ++ ⟨#[118, 97, 114, 32]⟩ ++ ⟨(quote s).toArray⟩ ++ ⟨#[10]⟩ : ByteArray).size = pre.length + 4 + (quote s).length + 1 := by rw [hcat, Lib.size_mk]; simp [sVar]; omega
            have hih := hid (HI.out _ w2 (HT1.out w2 HBW2.out) (by omega) (by simp only [List.length_append, List.length_cons, List.length_nil]; omega))
            clear hcat2 hcat
            go_wp2_with fail
            rw [HC2.out]
            (with_reducible refine hih.out.mono ?_); rintro e w5 ⟨rfl, hb5⟩
            have HB5 := hid (HBW2.out.trans (hb5.mono HBW2.out.size))
            clear hb5 hih y2 y3
            go_wp2
            go_roundg (gk - 1)
            case measure => omega
            case rel => exact ⟨i + 1, by rw [shows_take pre ts hi, HX.out, HS.out]; rw [Value.string.injEq, ByteArray.ext_iff]; simp [sVar, sIndex], by go_num, HB5.out, by omega⟩
        · have n2 : ((k : Int) == 2) = false := by rw [beq_eq_false_iff_ne]; omega
          by_cases hk3' : k = 3
          · subst hk3'
            have hsh : (Tok.mk 3 s bb ix).show pre = pre ++ sScript ++ quote s ++ [10] := by rw [Tok.show]; simp
            rw [hsh] at hpart
            simp only [List.length_append, sScript, List.length_cons, List.length_nil] at hpart
            have HS := hid hsh
            clear hsh
            obtain ⟨w1, hw1⟩ : ∃ w1, w1 = wr.alloc (.cells #[.int .i64 3, .string ⟨s.toArray⟩, .bool bb, .slice a3 ix.length c3] 33) := ⟨_, rfl⟩
            have hb1 : Below wr.heap.size wr w1 := by rw [hw1]; exact belowA _ _
            have hbk1 : w1.heap[wr.heap.size]? = some (.cells #[.int .i64 3, .string ⟨s.toArray⟩, .bool bb, .slice a3 ix.length c3] 33 (0, 0)) := by rw [hw1]; exact heap_alloc_new _ _
            have HW1 := hid hw1
            have hq := hid (quoteR_fn s (by omega) w1)
            have hqs : (⟨(quote s).toArray⟩ : ByteArray).size = (quote s).length := Lib.size_mk _
            clear hw1
            go_wp2_with fail
            rw [← HW1.out]
            (with_reducible refine hq.out.mono ?_); rintro e w2 ⟨rfl, hb2⟩
            have HBW2 := hid (HBL.out.trans ((hb1.trans (hb2.mono hb1.size)).mono HBL.out.size))
            have HK2 := hid ((hb2.block _ (Array.getElem?_eq_some_iff.1 hbk1).1).trans hbk1)
            have hcat : (⟨pre.toArray⟩ : ByteArray) ++ ⟨#[115, 99, 114, 105, 112, 116, 32]⟩ ++ ⟨(quote s).toArray⟩ ++ ⟨#[10]⟩ = ⟨(pre ++ sScript ++ quote s ++ [10]).toArray⟩ := by rw [ByteArray.ext_iff]; simp [sScript]
            have hsq : (⟨pre.toArray⟩ ++ ⟨#[115, 99, 114, 105, 112, 116, 32]⟩ ++ ⟨(quote s).toArray⟩ : ByteArray).size = pre.length + sScript.length + (quote s).length := by rw [show (⟨#[115, 99, 114, 105, 112, 116, 32]⟩ : ByteArray) = ⟨sScript.toArray⟩ from rfl, cat_mk, cat_mk, Lib.size_mk]; simp; omega
            have hsp : (⟨pre.toArray⟩ ++ ⟨#[115, 99, 114, 105, 112, 116, 32]⟩ : ByteArray).size = pre.length + sScript.length := by rw [show (⟨#[115, 99, 114, 105, 112, 116, 32]⟩ : ByteArray) = ⟨sScript.toArray⟩ from rfl, cat_mk, Lib.size_mk]; simp
            have hsr : (⟨(pre ++ sScript ++ quote s ++ [10]).toArray⟩ : ByteArray).size = pre.length + sScript.length + (quote s).length + 1 := by rw [Lib.size_mk]; simp; omega
            have hcl : sScript.length ≤ 10 := by decide
            have hlw2 : wr.heap.size < w2.heap.size := (Array.getElem?_eq_some_iff.1 HK2.out).1
            clear hbk1 hb1 hb2 hq
            have hsa : (⟨pre.toArray⟩ ++ ⟨#[115, 99, 114, 105, 112, 116, 32]⟩ ++ ⟨(quote s).toArray⟩ ++ ⟨#[10]⟩ : ByteArray).size = pre.length + 7 + (quote s).length + 1 := by rw [hcat, Lib.size_mk]; simp [sScript]; omega
            clear hcat
            go_wp2
            go_roundg (gk - 1)
            case measure => omega
            case rel => exact ⟨i + 1, by rw [shows_take pre ts hi, HX.out, HS.out]; rw [Value.string.injEq, ByteArray.ext_iff]; simp [sScript], by go_num, HBW2.out, by omega⟩
          · have n3 : ((k : Int) == 3) = false := by rw [beq_eq_false_iff_ne]; omega
            have hsh : (Tok.mk k s bb ix).show pre = pre ++ sText ++ quote s ++ [10] := by rw [Tok.show, if_neg (by simpa using hk2), if_neg (by simpa using hk3')]
            rw [hsh] at hpart
            simp only [List.length_append, sText, List.length_cons, List.length_nil] at hpart
            have HS := hid hsh
            clear hsh
            clear hk2 hk3'
            obtain ⟨w1, hw1⟩ : ∃ w1, w1 = wr.alloc (.cells #[.int .i64 (k : Nat), .string ⟨s.toArray⟩, .bool bb, .slice a3 ix.length c3] 33) := ⟨_, rfl⟩
            have hb1 : Below wr.heap.size wr w1 := by rw [hw1]; exact belowA _ _
            have hbk1 : w1.heap[wr.heap.size]? = some (.cells #[.int .i64 (k : Nat), .string ⟨s.toArray⟩, .bool bb, .slice a3 ix.length c3] 33 (0, 0)) := by rw [hw1]; exact heap_alloc_new _ _
            have HW1 := hid hw1
            have hq := hid (quoteR_fn s (by omega) w1)
            have hqs : (⟨(quote s).toArray⟩ : ByteArray).size = (quote s).length := Lib.size_mk _
            clear hw1
            go_wp2_with fail
            rw [← HW1.out]
            (with_reducible refine hq.out.mono ?_); rintro e w2 ⟨rfl, hb2⟩
            have HBW2 := hid (HBL.out.trans ((hb1.trans (hb2.mono hb1.size)).mono HBL.out.size))
            have HK2 := hid ((hb2.block _ (Array.getElem?_eq_some_iff.1 hbk1).1).trans hbk1)
            have hcat : (⟨pre.toArray⟩ : ByteArray) ++ ⟨#[116, 101, 120, 116, 32]⟩ ++ ⟨(quote s).toArray⟩ ++ ⟨#[10]⟩ = ⟨(pre ++ sText ++ quote s ++ [10]).toArray⟩ := by rw [ByteArray.ext_iff]; simp [sText]
            have hsq : (⟨pre.toArray⟩ ++ ⟨#[116, 101, 120, 116, 32]⟩ ++ ⟨(quote s).toArray⟩ : ByteArray).size = pre.length + sText.length + (quote s).length := by rw [show (⟨#[116, 101, 120, 116, 32]⟩ : ByteArray) = ⟨sText.toArray⟩ from rfl, cat_mk, cat_mk, Lib.size_mk]; simp; omega
            have hsp : (⟨pre.toArray⟩ ++ ⟨#[116, 101, 120, 116, 32]⟩ : ByteArray).size = pre.length + sText.length := by rw [show (⟨#[116, 101, 120, 116, 32]⟩ : ByteArray) = ⟨sText.toArray⟩ from rfl, cat_mk, Lib.size_mk]; simp
            have hsr : (⟨(pre ++ sText ++ quote s ++ [10]).toArray⟩ : ByteArray).size = pre.length + sText.length + (quote s).length + 1 := by rw [Lib.size_mk]; simp; omega
            have hcl : sText.length ≤ 10 := by decide
            have hlw2 : wr.heap.size < w2.heap.size := (Array.getElem?_eq_some_iff.1 HK2.out).1
            clear hbk1 hb1 hb2 hq
            have hsa : (⟨pre.toArray⟩ ++ ⟨#[116, 101, 120, 116, 32]⟩ ++ ⟨(quote s).toArray⟩ ++ ⟨#[10]⟩ : ByteArray).size = pre.length + 5 + (quote s).length + 1 := by rw [hcat, Lib.size_mk]; simp [sText]; omega
            clear hcat
            go_wp2
            go_roundg (gk - 1)
            case measure => omega
            case rel => exact ⟨i + 1, by rw [shows_take pre ts hi, HX.out, HS.out]; rw [Value.string.injEq, ByteArray.ext_iff]; simp [sText], by go_num, HBW2.out, by omega⟩
      · go_wp2
        go_ret
        have ht : ts.take i = ts := List.take_of_length_le (by omega)
        exact ⟨by rw [ht]; rfl, hbl⟩
end Go.Proofs.YtkgpmkkodpjdfaaGreatDoor.Pz
