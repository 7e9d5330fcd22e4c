/-
  Part K3 of the proofs of this seat: contracts of functions and plain facts, merged from 1 texts.
-/
import Derived.Test.YtkgpmkkodpjdfaaGreatDoorK0
import Derived.Test.YtkgpmkkodpjdfaaGreatDoorK1
import Derived.Test.YtkgpmkkodpjdfaaGreatDoorK2
/-
  Parts.
-/
namespace Go.Proofs.YtkgpmkkodpjdfaaGreatDoor.Pz
open Go.RowKit
/-- what holds at a round's head in 'parts' -/
structure PInv (f : Upto) (g : Told) (d : Nat) (s l : Str) (rb N : Nat) (w wr : World) (l' : Str) (i' : Nat) (v : Value) (ts : List Tok) (p : Str) : Prop where
  rd : RdAt wr rb s i' d g
  here : At s l' i'
  box : Box wr N 91 v
  out : OutIs wr N v ts
  last : LastOk ts
  bld : Bld wr (N + 1) p
  but : But rb N w wr
  res : acc ts p (parts f g d l') = parts f g d l
  small : ts.length + p.length + l'.length ≤ l.length
theorem OutIs.but {w w' : World} {B rb : Nat} {v : Value} {ts : List Tok} {s : Str} {i d : Nat} {g : Told} (h : OutIs w B v ts) (hb : But rb w.heap.size w w') (hr : RdAt w rb s i d g) : OutIs w' B v ts :=
  h.keep fun k cur _ hc => (hb.block k (Array.getElem?_eq_some_iff.1 hc).1 (by
    rintro rfl
    unfold RdAt at hr
    rw [hc] at hr
    simp at hr)).trans hc
theorem Bld.but {w w' : World} {b rb : Nat} {l : Str} {s : Str} {i d : Nat} {g : Told} (h : Bld w b l) (hb : But rb w.heap.size w w') (hr : RdAt w rb s i d g) : Bld w' b l :=
  h.of2 fun k cs T fz hk hT => hb.block k (Array.getElem?_eq_some_iff.1 hk).1 (by
    rintro rfl
    unfold RdAt at hr
    rw [hk] at hr
    simp only [Option.some.injEq, Obj.cells.injEq] at hr
    rcases hT with rfl | rfl
    · exact absurd hr.2.1 (by decide)
    · exact absurd hr.2.1 (by decide))
theorem filled_ne {l : List Tok} (h : l ≠ []) : filled l = l := by
  unfold filled
  rw [if_neg (by simpa using h)]
theorem unesc_one : ∀ (l : Str), (unesc l).1.length = 1
  | [] => rfl
  | c :: t => by
    show (unesc1 c t).1.length = 1
    unfold unesc1
    split
    · rfl
    · split
      · rfl
      · split
        · split <;> rfl
        · split <;> rfl
theorem PInv.drewN {f : Upto} {g : Told} {d : Nat} {s l : Str} {rb N : Nat} {w wr : World} {l' : Str} {i' : Nat} {v : Value} {ts : List Tok} {p : Str} (h : PInv f g d s l rb N w wr l' i' v ts p) (n : Nat) : PInv f g d s l rb N w (wr.drewN n) l' i' v ts p :=
  ⟨h.rd.drewN n, h.here, h.box, h.out.keep (fun _ _ _ h => h), h.last, h.bld.of (fun _ _ _ => rfl), h.but.drewN n, h.res, h.small⟩
theorem PInv.lt {f : Upto} {g : Told} {d : Nat} {s l : Str} {rb N : Nat} {w wr : World} {l' : Str} {i' : Nat} {v : Value} {ts : List Tok} {p : Str} (h : PInv f g d s l rb N w wr l' i' v ts p) : N + 1 < wr.heap.size := h.bld.lt
/-- behind a plain byte -/
theorem PInv.plain {f : Upto} {g : Told} {d : Nat} {s l : Str} {rb N : Nat} {w wr W1 : World} {c : UInt8} {t : Str} {i' : Nat} {v : Value} {ts : List Tok} {p : Str} (h : PInv f g d s l rb N w wr (c :: t) i' v ts p) (hN : rb < N) (hbld : Bld W1 (N + 1) (p ++ [c])) (hk : Kept (N + 1) wr W1)
    (hres : parts f g d (c :: t) = (parts f g d t).glue [c]) {u : Value} (hu : u = .int .i64 ((i' + 1 : Nat) : Int)) : PInv f g d s l rb N w (W1.setCell ⟨rb, 1, none⟩ u) t (i' + 1) v ts (p ++ [c]) := by
  have hrd : RdAt W1 rb s i' d g := hk.at h.bld h.rd (by decide) (by decide)
  have hbx : Box W1 N 91 v := hk.at h.bld h.box (by decide) (by decide)
  have hout : OutIs W1 N v ts := h.out.kept h.bld hk
  have hbut : But rb N w W1 := h.but.trans (but_of_below (hk.1.mono (Nat.le_succ N)) rb)
  have hne : ∀ k, k ≠ rb → (W1.setCell ⟨rb, 1, none⟩ u).heap[k]? = W1.heap[k]? := fun k hk => Below.heap_setCell _ _ _ _ (fun e => hk e)
  refine ⟨hrd.go hu, h.here.tail, (hne N (by omega)).trans hbx, ?_, h.last, ?_, hbut.set 1 u, ?_, ?_⟩
  · exact hout.keep fun k cur hk hc => (hne k (by omega)).trans hc
  · exact hbld.of fun k hk _ => hne k (by omega)
  · rw [← h.res, hres, acc_glue ts p (by simp)]
  · have := h.small
    simp at this ⊢
    omega
theorem PInv.below {f : Upto} {g : Told} {d : Nat} {s l : Str} {rb N : Nat} {w wr W2 : World} {l' : Str} {i' : Nat} {v : Value} {ts : List Tok} {p : Str} (h : PInv f g d s l rb N w wr l' i' v ts p) (_hN : rb < N) (hb : Below wr.heap.size wr W2) : PInv f g d s l rb N w W2 l' i' v ts p := by
  have h1 := h.lt
  exact ⟨h.rd.of (hb.block rb h.rd.lt), h.here, (hb.block N (by omega)).trans h.box, h.out.below hb, h.last, h.bld.below hb, h.but.trans (but_of_below (hb.mono (by omega)) rb), h.res, h.small⟩
/-- behind an escaped byte -/
theorem PInv.esc {f : Upto} {g : Told} {d : Nat} {s l : Str} {rb N : Nat} {w wr W1 : World} {t : Str} {i' j : Nat} {v : Value} {ts : List Tok} {p : Str} (h : PInv f g d s l rb N w wr (92 :: t) i' v ts p) (hN : rb < N) (hbld : Bld W1 (N + 1) (p ++ (unesc t).1)) (hk : Kept (N + 1) wr W1)
    (hres : parts f g d (92 :: t) = (parts f g d (unesc t).2).glue (unesc t).1) (hj : j = t.length + 1 - (unesc t).2.length) {u : Value} (hu : u = .int .i64 ((i' + j : Nat) : Int)) : PInv f g d s l rb N w (W1.setCell ⟨rb, 1, none⟩ u) (unesc t).2 (i' + j) v ts (p ++ (unesc t).1) := by
  have hrd : RdAt W1 rb s i' d g := hk.at h.bld h.rd (by decide) (by decide)
  have hbx : Box W1 N 91 v := hk.at h.bld h.box (by decide) (by decide)
  have hout : OutIs W1 N v ts := h.out.kept h.bld hk
  have hbut : But rb N w W1 := h.but.trans (but_of_below (hk.1.mono (Nat.le_succ N)) rb)
  have hne : ∀ k, k ≠ rb → (W1.setCell ⟨rb, 1, none⟩ u).heap[k]? = W1.heap[k]? := fun k hk => Below.heap_setCell _ _ _ _ (fun e => hk e)
  have hsuf := unesc_suf t
  have hsl := hsuf.length_le
  refine ⟨hrd.go hu, ?_, (hne N (by omega)).trans hbx, ?_, h.last, ?_, hbut.set 1 u, ?_, ?_⟩
  · have := h.here.fall (hsuf.trans (suf_tail 92 t))
    rw [hj]
    exact this
  · exact hout.keep fun k cur hk hc => (hne k (by omega)).trans hc
  · exact hbld.of fun k hk _ => hne k (by omega)
  · rw [← h.res, hres, acc_glue ts p (unesc_ne t)]
  · have := h.small
    have h1 := unesc_one t
    simp at this ⊢
    omega
theorem flush_len (p : Str) : (flush p).length ≤ p.length := by
  unfold flush
  cases p with
  | nil => exact Nat.le_refl _
  | cons c p => simp
/-- what stands where only the reader and what is new has turned -/
theorem PInv.over {f : Upto} {g : Told} {d : Nat} {s l : Str} {rb N : Nat} {w wr W2 : World} {l' : Str} {i' : Nat} {v : Value} {ts : List Tok} {p : Str} (h : PInv f g d s l rb N w wr l' i' v ts p) (hN : rb < N) (hb : But rb wr.heap.size wr W2) :
    Box W2 N 91 v ∧ OutIs W2 N v ts ∧ Bld W2 (N + 1) p ∧ But rb N w W2 := by
  have := h.lt
  refine ⟨Box.but h.box hb (by omega), h.out.but hb h.rd, h.bld.but hb h.rd, h.but.trans (hb.mono (by omega))⟩
/-- behind a token -/
theorem PInv.tok {f : Upto} {g : Told} {d : Nat} {s l : Str} {rb N : Nat} {w wr W2 : World} {l' l'' : Str} {i' i'' : Nat} {v v' : Value} {ts : List Tok} {p : Str} {x : Tok} (h : PInv f g d s l rb N w wr l' i' v ts p)
    (hrd : RdAt W2 rb s i'' d g) (hat : At s l'' i'') (hbx : Box W2 N 91 v') (hout : OutIs W2 N v' (ts ++ flush p ++ [x])) (hbld : Bld W2 (N + 1) []) (hbut : But rb N w W2) (hx : x.kind ≠ 1) (hl : l''.length < l'.length)
    (hres : parts f g d l' = (parts f g d l'').cons x) : PInv f g d s l rb N w W2 l'' i'' v' (ts ++ flush p ++ [x]) [] := by
  refine ⟨hrd, hat, hbx, hout, LastOk.snoc _ hx, hbld, hbut, ?_, ?_⟩
  · rw [← h.res, hres, acc_cons ts p hx]
  · have h1 := h.small
    have h2 := flush_len p
    simp
    omega
set_option maxRecDepth 100000 in
set_option maxHeartbeats 8000000 in
theorem parts_walk {f : Upto} {g : Told} {d : Nat} {l : Str} (ihV : ∀ l', l'.length < l.length → VarC g d l') (ihS : ∀ l', l'.length < l.length → ScriptC d l') : PartsC f g d l := by
  intro w rb s i k fst cap hs hd h hat hends
  have hmf : ∀ (fn : Fn) (first cap : Array Value) (w : World), (Instr.makeFunc fn first cap).run Tryz.prog w = .ok (.func fn first cap) w := fun _ _ _ _ => rfl
  have eg : ∀ args w, (callFunc k args).run Tryz.prog w = .ok (.enter k args) w := hends.enters
  have ef : ∀ args w, (callFunc 53 args).run Tryz.prog w = .ok (.enter 53 args) w := enters_of Tryz.func53 (by kernel_rfl) rfl
  obtain ⟨N, hN⟩ : ∃ N, N = w.heap.size := ⟨_, rfl⟩
  have hlt := h.lt
  rw [← hN] at hlt
  have HN := hid hN
  obtain ⟨R, hR⟩ : ∃ R, R = parts f g d l := ⟨_, rfl⟩
  rw [← hR]
  have HR := hid hR
  have hll := hat.len
  clear hR
  go_enter Tryz.func31, Tryz.ntmps31
  go_wp2
  refine at_world fun W hW => ?_
  have hW1 : W = (w.alloc (.cells #[.slice none 0 0] 91)).alloc (.cells #[.pointer none, .slice none 0 0] 77) := hW
  have hsz : W.heap.size = N + 2 := by rw [hW1, hN]; simp
  have hinv : PInv f g d s l rb N w W l i (.slice none 0 0) [] [] := by
    obtain ⟨q1, q2⟩ := new2 w (.cells #[.slice none 0 0] 91) (.cells #[.pointer none, .slice none 0 0] 77)
    refine ⟨by rw [hW1]; exact (h.alloc _).alloc _, hat, by rw [hW1, hN]; exact q1, OutIs.nil _ _, .inl rfl, ?_, ?_, by rw [acc_nil], by simp⟩
    · have := Bld.new (w.alloc (.cells #[.slice none 0 0] 91))
      rw [hW1, hN]
      simpa using this
    · rw [hW1]
      exact ((But.refl rb N w).alloc (by omega) _).alloc (by simp; omega) _
  rw [← hN]
  have HI := hid hinv
  clear hW hW1 hinv h hat hN
  go_loopg [] l.length (fun n wr => ∃ l' i' v ts p, n = l'.length ∧ PInv f g d s l rb N w wr l' i' v ts p)
  case atStart => exact ⟨l, i, _, _, _, rfl, HI.out⟩
  case round =>
    obtain ⟨l', i', v, ts, p, rfl, hI⟩ := hrel
    clear HI hsz W
    have HI := hid hI
    have hrd := hI.rd
    have hsm := hI.small
    have hle : i' ≤ s.length := by have := hI.here.len; omega
    have hends' := hends.tells wr s l' i' d g (by rw [← HN.out]; exact hI.but) hI.rd hI.here hs
    cases hfe : f.ends l' with
    | true =>
      rw [hfe] at hends'
      have HE := hid hends'
      clear hends' hrd
      have hI' := fun m => hI.drewN m
      have hres := hI.res
      rw [parts_end hfe, acc_end, ← HR.out] at hres
      have HRES := hid hres.symm
      clear hI hres HI hfe
      go_wp2_with fail
      (with_reducible refine HE.out.mono ?_); rintro e W0 ⟨rfl, m, hW0⟩
      have hI := hI' m
      rw [← hW0] at hI
      clear hW0 hI' HE
      have hf := hid (flush_fn hI.bld hI.box hI.out (by omega) (Nat.le_refl N) (Nat.le_succ N) hI.last (by omega))
      have hrd := hI.rd
      have hbut := hI.but
      have hat := hI.here
      clear hI
      go_wp2_with fail
      (with_reducible refine hf.out.mono ?_); rintro e W1 ⟨rfl, v1, hbx, hout, _, _, hB, hbl⟩
      have hrd1 : RdAt W1 rb s i' d g := hrd.of (hbl.block rb hlt)
      have hbut1 : But rb N w W1 := hbut.trans (but_of_below hbl rb)
      obtain ⟨a, c, rfl, _⟩ := hout.shape
      have b0 := Box.cell hbx
      have hw1 : N + 1 < W1.heap.size := hB.lt
      have hei : s.length - l'.length = i' := by have := hat.len; omega
      clear hf hrd hbut hbl
      by_cases hnil : ts ++ flush p = []
      · have hlit := hid (literal_fn [] W1)
        rw [hnil] at HRES
        have hl0 : (ts ++ flush p).length = 0 := by rw [hnil]; rfl
        have HO := hid hout
        generalize (ts ++ flush p).length = n at *
        subst hl0
        clear hnil hout
        go_wp2_with fail
        (with_reducible refine hlit.out.mono ?_); rintro e W2 ⟨rfl, rfl⟩
        go_wp2
        go_ret
        rw [HRES.out]
        refine ⟨_, rfl, ?_, ?_, ?_⟩
        · rw [hei]; exact hrd1.alloc _
        · refine ⟨[[.int .i64 1, .string ⟨([] : Str).toArray⟩, .bool false, .slice none 0 0]], ?_, ?_, rfl, ?_⟩
          · refine ⟨rfl, .inr ⟨W1.heap.size, 1, _, rfl, Nat.zero_le _, new1 _ _, Nat.le_refl _, by decide, rfl, rfl⟩⟩
          · intro q hq
            have hq' : W1.heap.size = q := Option.some.inj hq
            show w.heap.size ≤ q
            rw [← HN.out]
            omega
          · intro j h1 h2
            obtain rfl : j = 0 := by simp at h1; omega
            refine ⟨.mk 1 [] false [] (.slice none 0 0) [] (World.ownsRow_nil _ _ _ _) (fun q hq => by simp [Value.ownBlock] at hq) rfl (fun i h1 => by simp at h1), rfl⟩
        · rw [← HN.out]; exact hbut1.alloc (by omega) _
      · have hl0 : ((((ts ++ flush p).length : Nat) : Int) == 0) = false := by
          rw [beq_eq_false_iff_ne]
          intro e
          exact hnil (List.eq_nil_of_length_eq_zero (by omega))
        have hfl := filled_ne hnil
        have HF := hid hfl
        have HO := hid hout
        generalize (ts ++ flush p).length = n at *
        clear hnil hout hfl
        go_wp2
        go_ret
        rw [HRES.out]
        refine ⟨_, rfl, by rw [hei]; exact hrd1, ?_, by rw [← HN.out]; exact hbut1⟩
        rw [HF.out]
        have h1 := HO.out.toks
        rw [HN.out] at h1
        exact h1
    | false =>
      rw [hfe] at hends'
      have HE := hid hends'
      cases l' with
      | nil => rw [ends_nil f] at hfe; cases hfe
      | cons c t =>
      have hI' := fun m => hI.drewN m
      have HPC := hid (parts_cons hfe g d)
      clear hends' hI hrd HI hfe
      simp only [List.length_cons] at hsm
      go_wp2_with fail
      (with_reducible refine HE.out.mono ?_); rintro e W0 ⟨rfl, m, hW0⟩
      have hI := hI' m
      rw [← hW0] at hI
      clear hW0 hI' HE
      have hx := hI.here.byte
      have hi1 := hI.here.lt
      have hsz' : (⟨s.toArray⟩ : ByteArray).size = s.length := Lib.size_mk _
      have hI' := fun m => hI.drewN m
      obtain ⟨c0, c1, _⟩ := hI.rd.cells
      have HI := hid hI
      clear hI
      go_wp2
      go_quiet (fail)
      have hI := hI' nq
      generalize W0.drewN nq = W1 at *
      clear hI' HI c0 c1
      obtain ⟨c0, c1, _, c3, c4, c5⟩ := hI.rd.cells
      have HI := hid hI
      clear hI
      by_cases h92 : c = 92
      · cases hgs : g.slashes with
        | true =>
          subst h92
          rw [hgs] at c3
          have hG : parts f g d (92 :: t) = (parts f g d (unesc t).2).glue (unesc t).1 := by rw [HPC.out, hgs]; rfl
          have HG := hid hG
          clear hG HPC hgs
          have hus := (unesc_suf t).length_le
          have hu := hid (unescape_fn t (by omega) W1.drew)
          obtain ⟨x, hxx⟩ : ∃ x, x = (unesc t).1 := ⟨_, rfl⟩
          obtain ⟨n, hn⟩ : ∃ n, n = t.length + 1 - (unesc t).2.length := ⟨_, rfl⟩
          rw [← hxx, ← hn] at hu
          have HXX := hid hxx
          have hx1 : x.length = 1 := by rw [hxx]; exact unesc_one t
          have hn1 : n ≤ t.length + 1 := by omega
          have HNN := hid hn
          have hall := HI.out.here.all
          have hhl := HI.out.here.len
          simp only [List.length_cons] at hhl
          clear hxx hn hus
          go_wp2
          have S0 : Hid ((fun u => u.cell? ⟨rb, 0, none⟩ = some (.string ⟨s.toArray⟩) ∧ u.cell? ⟨rb, 1, none⟩ = some (.int .i64 (i' : Nat))) W1.drew) := hid ⟨by go_simp, by go_simp⟩
          refine U_begin (late := fun _ => false) (S := fun u => u.cell? ⟨rb, 0, none⟩ = some (.string ⟨s.toArray⟩) ∧ u.cell? ⟨rb, 1, none⟩ = some (.int .i64 (i' : Nat))) (by kernel_rfl) ?_
          refine U_take2 9 (i := 0) (v := .pointer (some ⟨rb, 0, none⟩)) rfl (by kernel_rfl) (by kernel_rfl) (by kernel_rfl) (by kernel_rfl) (by kernel_rfl) (fun _ _ _ h => h) (.inl ⟨rfl, fun u hu => (by go_simp)⟩) S0.out ?_
          refine U_take2 9 (i := 1) (v := .pointer (some ⟨rb, 0, none⟩)) rfl (by kernel_rfl) (by kernel_rfl) (by kernel_rfl) (by kernel_rfl) (by kernel_rfl) (fun _ _ _ h => h) (.inl ⟨rfl, fun u hu => (by go_simp)⟩) S0.out ?_
          refine U_take2 9 (i := 2) (v := .pointer (some ⟨rb, 0, none⟩)) rfl (by kernel_rfl) (by kernel_rfl) (by kernel_rfl) (by kernel_rfl) (by kernel_rfl) (fun _ _ _ h => h) (.inl ⟨rfl, fun u hu => (by go_simp)⟩) S0.out ?_
          refine U_take2 9 (i := 3) (v := .string ⟨s.toArray⟩) rfl (by kernel_rfl) (by kernel_rfl) (by kernel_rfl) (by kernel_rfl) (by kernel_rfl) (fun _ _ _ h => h) (.inl ⟨rfl, fun u hu => (by obtain ⟨h1, h2⟩ := hu; go_simp)⟩) S0.out ?_
          refine U_take2 9 (i := 4) (v := .pointer (some ⟨rb, 0, none⟩)) rfl (by kernel_rfl) (by kernel_rfl) (by kernel_rfl) (by kernel_rfl) (by kernel_rfl) (fun _ _ _ h => h) (.inl ⟨rfl, fun u hu => (by go_simp)⟩) S0.out ?_
          refine U_take2 9 (i := 5) (v := .pointer (some ⟨rb, 0, none⟩)) rfl (by kernel_rfl) (by kernel_rfl) (by kernel_rfl) (by kernel_rfl) (by kernel_rfl) (fun _ _ _ h => h) (.inl ⟨rfl, fun u hu => (by go_simp)⟩) S0.out ?_
          refine U_take2 9 (i := 6) (v := .pointer (some ⟨rb, 1, none⟩)) rfl (by kernel_rfl) (by kernel_rfl) (by kernel_rfl) (by kernel_rfl) (by kernel_rfl) (fun _ _ _ h => h) (.inl ⟨rfl, fun u hu => (by go_simp)⟩) S0.out ?_
          refine U_take2 9 (i := 7) (v := .int .i64 (i' : Nat)) rfl (by kernel_rfl) (by kernel_rfl) (by kernel_rfl) (by kernel_rfl) (by kernel_rfl) (fun _ _ _ h => h) (.inl ⟨rfl, fun u hu => (by obtain ⟨h1, h2⟩ := hu; go_simp)⟩) S0.out ?_
          refine U_take2 9 (i := 8) (v := .string ⟨(92 :: t).toArray⟩) rfl (by kernel_rfl) (by kernel_rfl) (by kernel_rfl) (by kernel_rfl) (by kernel_rfl) (fun _ _ _ h => h) (.inl ⟨rfl, fun u hu => (by go_simp)⟩) S0.out ?_
          refine U_step (j := 9) (by kernel_rfl) rfl (fun K hK => ?_)
          go_simp
          (with_reducible refine hu.out.mono ?_); rintro e W2 ⟨rfl, hb2⟩
          have hlt1 : rb < W1.drew.heap.size := HI.out.rd.lt
          have hrd2 : RdAt W2 rb s i' d g := (HI.out.drewN 1).rd.of (hb2.block rb hlt1)
          have S2 : Hid ((fun u => u.cell? ⟨rb, 0, none⟩ = some (.string ⟨s.toArray⟩) ∧ u.cell? ⟨rb, 1, none⟩ = some (.int .i64 (i' : Nat))) W2) := hid ⟨hrd2.cells.1, hrd2.cells.2.1⟩
          refine hK.out _ _ (.inr S2.out) ?_
          clear hK K
          refine U_take2 9 (i := 10) (v := .tuple #[.string ⟨x.toArray⟩, .int .i64 (n : Nat)]) rfl (by kernel_rfl) (by kernel_rfl) (by kernel_rfl) (by kernel_rfl) (by kernel_rfl) (fun _ _ _ h => h) (.inl ⟨rfl, fun u hu => (by go_simp)⟩) S2.out ?_
          refine U_take2 9 (i := 11) (v := .string ⟨x.toArray⟩) rfl (by kernel_rfl) (by kernel_rfl) (by kernel_rfl) (by kernel_rfl) (by kernel_rfl) (fun _ _ _ h => h) (.inl ⟨rfl, fun u hu => (by go_simp)⟩) S2.out ?_
          refine U_take2 9 (i := 12) (v := .int .i64 (n : Nat)) rfl (by kernel_rfl) (by kernel_rfl) (by kernel_rfl) (by kernel_rfl) (by kernel_rfl) (fun _ _ _ h => h) (.inl ⟨rfl, fun u hu => (by go_simp)⟩) S2.out ?_
          refine U_take2 9 (i := 13) (v := .string ⟨x.toArray⟩) rfl (by kernel_rfl) (by kernel_rfl) (by kernel_rfl) (by kernel_rfl) (by kernel_rfl) (fun _ _ _ h => h) (.inl ⟨rfl, fun u hu => (by go_simp)⟩) S2.out ?_
          refine U_take2 9 (i := 14) (v := .int .i64 (n : Nat)) rfl (by kernel_rfl) (by kernel_rfl) (by kernel_rfl) (by kernel_rfl) (by kernel_rfl) (fun _ _ _ h => h) (.inl ⟨rfl, fun u hu => (by go_simp)⟩) S2.out ?_
          refine U_done (by kernel_rfl) ?_ _
          have hIB : PInv f g d s l rb N w W2 (92 :: t) i' v ts p := (HI.out.drewN 1).below hlt hb2
          have hw := hid (wstr_fn hIB.bld x (by have := hIB.small; simp at this; omega))
          have HIB := hid hIB
          clear hIB hrd2 hb2 S2 S0 HI hu c0 c1 c3 c4 c5
          go_wp2_with fail
          (with_reducible refine hw.out.mono ?_); rintro e W3 ⟨rfl, hB3, hk3⟩
          have hrd3 : RdAt W3 rb s i' d g := hk3.at HIB.out.bld HIB.out.rd (by decide) (by decide)
          obtain ⟨c0, c1, _⟩ := hrd3.cells
          have z1 := hrd3.free 1
          rw [HXX.out] at hB3
          have hE := HIB.out.esc hlt hB3 hk3 HG.out HNN.out (u := .int .i64 ((i' : Int) + (n : Nat))) (by rw [Value.int.injEq]; exact ⟨rfl, by omega⟩)
          have HEE := hid hE
          have hul := (unesc_suf t).length_le
          clear hE hB3 hk3 hrd3
          go_wp2
          go_roundg (unesc t).2.length
          case measure => simp; omega
          case rel => exact ⟨_, _, _, _, _, rfl, HEE.out⟩
        | false =>
          subst h92
          rw [hgs] at c3
          have hG : parts f g d (92 :: t) = (parts f g d t).glue [92] := by rw [HPC.out, hgs]; rfl
          have HG := hid hG
          clear hG HPC hgs
          go_wp2
          have S0 : Hid ((fun u => u.cell? ⟨rb, 0, none⟩ = some (.string ⟨s.toArray⟩) ∧ u.cell? ⟨rb, 1, none⟩ = some (.int .i64 (i' : Nat))) W1.drew) := hid ⟨by go_simp, by go_simp⟩
          have hIP : PInv f g d s l rb N w W1.drew (92 :: t) i' v ts p := HI.out.drewN 1
          have hsmP := hIP.small
          simp only [List.length_cons] at hsmP
          have hwb0 : Calls Tryz.prog 60 #[.pointer (some ⟨N + 1, 0, none⟩), .int .u8 92] W1.drew fun e w' => e = .returned .nilIface ∧ Bld w' (N + 1) (p ++ [92]) ∧ Kept (N + 1) W1.drew w' := wbyte_fn hIP.bld 92 (by omega)
          have hwb := hid hwb0
          have HIP := hid hIP
          clear hIP hsmP hwb0
          refine U_begin (late := fun _ => false) (S := fun u => u.cell? ⟨rb, 0, none⟩ = some (.string ⟨s.toArray⟩) ∧ u.cell? ⟨rb, 1, none⟩ = some (.int .i64 (i' : Nat))) (by kernel_rfl) ?_
          refine U_take2 9 (i := 0) (v := .pointer (some ⟨rb, 0, none⟩)) rfl (by kernel_rfl) (by kernel_rfl) (by kernel_rfl) (by kernel_rfl) (by kernel_rfl) (fun _ _ _ h => h) (.inl ⟨rfl, fun u hu => (by go_simp)⟩) S0.out ?_
          refine U_take2 9 (i := 1) (v := .pointer (some ⟨rb, 0, none⟩)) rfl (by kernel_rfl) (by kernel_rfl) (by kernel_rfl) (by kernel_rfl) (by kernel_rfl) (fun _ _ _ h => h) (.inl ⟨rfl, fun u hu => (by go_simp)⟩) S0.out ?_
          refine U_take2 9 (i := 2) (v := .pointer (some ⟨rb, 0, none⟩)) rfl (by kernel_rfl) (by kernel_rfl) (by kernel_rfl) (by kernel_rfl) (by kernel_rfl) (fun _ _ _ h => h) (.inl ⟨rfl, fun u hu => (by go_simp)⟩) S0.out ?_
          refine U_take2 9 (i := 3) (v := .string ⟨s.toArray⟩) rfl (by kernel_rfl) (by kernel_rfl) (by kernel_rfl) (by kernel_rfl) (by kernel_rfl) (fun _ _ _ h => h) (.inl ⟨rfl, fun u hu => (by obtain ⟨h1, h2⟩ := hu; go_simp)⟩) S0.out ?_
          refine U_take2 9 (i := 4) (v := .pointer (some ⟨rb, 0, none⟩)) rfl (by kernel_rfl) (by kernel_rfl) (by kernel_rfl) (by kernel_rfl) (by kernel_rfl) (fun _ _ _ h => h) (.inl ⟨rfl, fun u hu => (by go_simp)⟩) S0.out ?_
          refine U_take2 9 (i := 5) (v := .pointer (some ⟨rb, 0, none⟩)) rfl (by kernel_rfl) (by kernel_rfl) (by kernel_rfl) (by kernel_rfl) (by kernel_rfl) (fun _ _ _ h => h) (.inl ⟨rfl, fun u hu => (by go_simp)⟩) S0.out ?_
          refine U_take2 9 (i := 6) (v := .pointer (some ⟨rb, 1, none⟩)) rfl (by kernel_rfl) (by kernel_rfl) (by kernel_rfl) (by kernel_rfl) (by kernel_rfl) (fun _ _ _ h => h) (.inl ⟨rfl, fun u hu => (by go_simp)⟩) S0.out ?_
          refine U_take2 9 (i := 7) (v := .int .i64 (i' : Nat)) rfl (by kernel_rfl) (by kernel_rfl) (by kernel_rfl) (by kernel_rfl) (by kernel_rfl) (fun _ _ _ h => h) (.inl ⟨rfl, fun u hu => (by obtain ⟨h1, h2⟩ := hu; go_simp)⟩) S0.out ?_
          refine U_take2 9 (i := 8) (v := .int .u8 92) rfl (by kernel_rfl) (by kernel_rfl) (by kernel_rfl) (by kernel_rfl) (by kernel_rfl) (fun _ _ _ h => h) (.inl ⟨rfl, fun u hu => (by go_simp)⟩) S0.out ?_
          refine U_step (j := 9) (by kernel_rfl) rfl (fun K hK => ?_)
          go_simp
          (with_reducible refine hwb.out.mono ?_); rintro e WB ⟨rfl, hBb, hkb⟩
          have hrb := hkb.at HIP.out.bld HIP.out.rd (by decide) (by decide)
          refine hK.out _ _ (.inr ⟨by rw [Lib.cell_of_heap hrb]; rfl, by rw [Lib.cell_of_heap hrb]; rfl⟩) ?_
          clear hK K
          refine U_done (by kernel_rfl) ?_ _
          have q1 : WB.cell? ⟨rb, 1, none⟩ = some (.int .i64 (i' : Nat)) := by rw [Lib.cell_of_heap hrb]; rfl
          have q2 : WB.frozen? ⟨rb, 1, none⟩ = false := Lib.frozen_of_heap hrb 1
          have hpl := HIP.out.plain hlt hBb hkb HG.out (u := .int .i64 ((i' : Int) + 1)) (by go_num)
          have HPL := hid hpl
          clear hpl hBb hkb hrb hwb
          go_wp2
          go_roundg t.length
          case measure => simp
          case rel => exact ⟨t, i' + 1, v, ts, p ++ [92], rfl, HPL.out⟩
      have n92 := byte_ne 92 h92 rfl
      by_cases h36 : c = 36
      · cases hgs : g.vars with
        | true =>
          subst h36
          rw [hgs] at c4
          have hpc := HPC.out
          rw [hgs, if_neg (by simp), if_pos (by decide)] at hpc
          have HPV := hid hpc
          have hv := ihV t (by omega) W1 rb s i' hs hd HI.out.rd HI.out.here
          have HV := hid hv
          clear hpc hv HPC hgs
          have hres := HI.out.res
          rw [← HR.out] at hres
          have HRES := hid hres
          clear hres
          go_wp2_with fail
          (with_reducible refine HV.out.mono ?_); intro e W2 hv2
          cases hvo : varOf g d t with
          | halt hh =>
            rw [hvo] at hv2
            obtain ⟨rfl, hb⟩ := hv2
            refine ⟨rfl, ?_⟩
            have hpv := HPV.out
            rw [hvo] at hpv
            have hRR : R = .halt hh := by rw [← HRES.out, hpv]; rfl
            rw [hRR]
            exact ⟨rfl, by rw [← HN.out]; exact HI.out.but.trans (hb.mono (by have := HI.out.lt; omega))⟩
          | ok xo r =>
            have hvok := var_ok g d t xo r hvo
            cases xo with
            | none =>
              rw [hvo] at hv2
              obtain ⟨rfl, hrd2, hb⟩ := hv2
              have hG : parts f g d (36 :: t) = (parts f g d t).glue [36] := by rw [HPV.out, hvo]
              have HG := hid hG
              obtain ⟨q1, q2, q3, q4⟩ := HI.out.over hlt hb
              have hI2 : PInv f g d s l rb N w W2 (36 :: t) i' v ts p := ⟨hrd2, HI.out.here, q1, q2, HI.out.last, q3, q4, HI.out.res, HI.out.small⟩
              have HI2 := hid hI2
              clear hG hvok hvo hI2 q1 q2 q3 q4 hrd2 hb HI HV HPV c0 c1 c3 c4 c5
              go_wp2
              refine at_world fun W3 hW3 => ?_
              have HI : Hid (PInv f g d s l rb N w W3 (36 :: t) i' v ts p) := by
                refine hid ?_
                rw [hW3]
                exact HI2.out.below hlt ((Below.refl _ _).alloc (Nat.le_refl _) _)
              clear hW3 HI2
              obtain ⟨c0, c1, _⟩ := HI.out.rd.cells
              have S0 : Hid ((fun u => u.cell? ⟨rb, 0, none⟩ = some (.string ⟨s.toArray⟩) ∧ u.cell? ⟨rb, 1, none⟩ = some (.int .i64 (i' : Nat))) W3.drew) := hid ⟨by go_simp, by go_simp⟩
              have hIP : PInv f g d s l rb N w W3.drew (36 :: t) i' v ts p := HI.out.drewN 1
              have hsmP := hIP.small
              simp only [List.length_cons] at hsmP
              have hwb0 : Calls Tryz.prog 60 #[.pointer (some ⟨N + 1, 0, none⟩), .int .u8 36] W3.drew fun e w' => e = .returned .nilIface ∧ Bld w' (N + 1) (p ++ [36]) ∧ Kept (N + 1) W3.drew w' := wbyte_fn hIP.bld 36 (by omega)
              have hwb := hid hwb0
              have HIP := hid hIP
              clear hIP hsmP hwb0
              refine U_begin (late := fun _ => false) (S := fun u => u.cell? ⟨rb, 0, none⟩ = some (.string ⟨s.toArray⟩) ∧ u.cell? ⟨rb, 1, none⟩ = some (.int .i64 (i' : Nat))) (by kernel_rfl) ?_
              refine U_take2 9 (i := 0) (v := .pointer (some ⟨rb, 0, none⟩)) rfl (by kernel_rfl) (by kernel_rfl) (by kernel_rfl) (by kernel_rfl) (by kernel_rfl) (fun _ _ _ h => h) (.inl ⟨rfl, fun u hu => (by go_simp)⟩) S0.out ?_
              refine U_take2 9 (i := 1) (v := .pointer (some ⟨rb, 0, none⟩)) rfl (by kernel_rfl) (by kernel_rfl) (by kernel_rfl) (by kernel_rfl) (by kernel_rfl) (fun _ _ _ h => h) (.inl ⟨rfl, fun u hu => (by go_simp)⟩) S0.out ?_
              refine U_take2 9 (i := 2) (v := .pointer (some ⟨rb, 0, none⟩)) rfl (by kernel_rfl) (by kernel_rfl) (by kernel_rfl) (by kernel_rfl) (by kernel_rfl) (fun _ _ _ h => h) (.inl ⟨rfl, fun u hu => (by go_simp)⟩) S0.out ?_
              refine U_take2 9 (i := 3) (v := .string ⟨s.toArray⟩) rfl (by kernel_rfl) (by kernel_rfl) (by kernel_rfl) (by kernel_rfl) (by kernel_rfl) (fun _ _ _ h => h) (.inl ⟨rfl, fun u hu => (by obtain ⟨h1, h2⟩ := hu; go_simp)⟩) S0.out ?_
              refine U_take2 9 (i := 4) (v := .pointer (some ⟨rb, 0, none⟩)) rfl (by kernel_rfl) (by kernel_rfl) (by kernel_rfl) (by kernel_rfl) (by kernel_rfl) (fun _ _ _ h => h) (.inl ⟨rfl, fun u hu => (by go_simp)⟩) S0.out ?_
              refine U_take2 9 (i := 5) (v := .pointer (some ⟨rb, 0, none⟩)) rfl (by kernel_rfl) (by kernel_rfl) (by kernel_rfl) (by kernel_rfl) (by kernel_rfl) (fun _ _ _ h => h) (.inl ⟨rfl, fun u hu => (by go_simp)⟩) S0.out ?_
              refine U_take2 9 (i := 6) (v := .pointer (some ⟨rb, 1, none⟩)) rfl (by kernel_rfl) (by kernel_rfl) (by kernel_rfl) (by kernel_rfl) (by kernel_rfl) (fun _ _ _ h => h) (.inl ⟨rfl, fun u hu => (by go_simp)⟩) S0.out ?_
              refine U_take2 9 (i := 7) (v := .int .i64 (i' : Nat)) rfl (by kernel_rfl) (by kernel_rfl) (by kernel_rfl) (by kernel_rfl) (by kernel_rfl) (fun _ _ _ h => h) (.inl ⟨rfl, fun u hu => (by obtain ⟨h1, h2⟩ := hu; go_simp)⟩) S0.out ?_
              refine U_take2 9 (i := 8) (v := .int .u8 36) rfl (by kernel_rfl) (by kernel_rfl) (by kernel_rfl) (by kernel_rfl) (by kernel_rfl) (fun _ _ _ h => h) (.inl ⟨rfl, fun u hu => (by go_simp)⟩) S0.out ?_
              refine U_step (j := 9) (by kernel_rfl) rfl (fun K hK => ?_)
              go_simp
              (with_reducible refine hwb.out.mono ?_); rintro e WB ⟨rfl, hBb, hkb⟩
              have hrb := hkb.at HIP.out.bld HIP.out.rd (by decide) (by decide)
              refine hK.out _ _ (.inr ⟨by rw [Lib.cell_of_heap hrb]; rfl, by rw [Lib.cell_of_heap hrb]; rfl⟩) ?_
              clear hK K
              refine U_done (by kernel_rfl) ?_ _
              have q1 : WB.cell? ⟨rb, 1, none⟩ = some (.int .i64 (i' : Nat)) := by rw [Lib.cell_of_heap hrb]; rfl
              have q2 : WB.frozen? ⟨rb, 1, none⟩ = false := Lib.frozen_of_heap hrb 1
              have hpl := HIP.out.plain hlt hBb hkb HG.out (u := .int .i64 ((i' : Int) + 1)) (by go_num)
              have HPL := hid hpl
              clear hpl hBb hkb hrb hwb
              go_wp2
              go_roundg t.length
              case measure => simp
              case rel => exact ⟨t, i' + 1, v, ts, p ++ [36], rfl, HPL.out⟩
            | some x0 =>
              obtain ⟨k0, x, h0, ix⟩ := x0
              have hkd : k0 = 2 := var_kind hvo
              subst hkd
              rw [hvo] at hv2
              obtain ⟨v', rfl, hrd2, htk, hb⟩ := hv2
              obtain ⟨a', n', c', rfl⟩ : ∃ a n c, v' = .slice a n c := by
                obtain ⟨a, c, h, _⟩ := RowIs.cell htk
                exact ⟨a, _, c, h⟩
              have hG : parts f g d (36 :: t) = (parts f g d r).cons (.mk 2 x h0 ix) := by rw [HPV.out, hvo]
              have HG := hid hG
              obtain ⟨q1, q2, q3, q4⟩ := HI.out.over hlt hb
              obtain ⟨_, _, _, hvb⟩ := HI.out.out.shape
              have hW1 := HI.out.lt
              have hsz2 := hb.size
              have hrl := hvok.1.length_le
              have hat2 : At s r (s.length - r.length) := HI.out.here.suf (hvok.1.trans (suf_tail 36 t))
              have W3b : Below W2.heap.size W2 (W2.alloc (.cells #[.int .i64 2, .string ⟨x.toArray⟩, .bool h0, .slice a' n' c'] 33)) := (Below.refl _ _).alloc (Nat.le_refl _) _
              have hbx3 : Box _ N 91 v := (W3b.block N (by omega)).trans q1
              have hout3 := q2.below W3b
              have hB3 := q3.below W3b
              have hrd3 := hrd2.of (W3b.block rb (by omega))
              have hbut3 := q4.trans (but_of_below (W3b.mono (show N ≤ W2.heap.size by omega)) rb)
              have htb3 := new1 W2 (.cells #[.int .i64 2, .string ⟨x.toArray⟩, .bool h0, .slice a' n' c'] 33)
              have hsz3 : (W2.alloc (.cells #[.int .i64 2, .string ⟨x.toArray⟩, .bool h0, .slice a' n' c'] 33)).heap.size = W2.heap.size + 1 := by simp
              have hsmI := HI.out.small
              simp only [List.length_cons] at hsmI
              have hfl := hid (flush_fn hB3 hbx3 hout3 (by omega) (Nat.le_refl N) (Nat.le_succ N) HI.out.last (by omega))
              have HHL := hid hvok.2
              have HVB := hid hvb
              have HTK := hid htk
              obtain ⟨Q, hQ⟩ : ∃ Q, Q = W2.heap.size := ⟨_, rfl⟩
              have HQ := hid hQ
              clear hG hvok hvo q1 q2 q3 q4 hrd2 hb HV HPV c0 c1 c3 c4 c5 hvb htk hQ
              go_wp2_with fail
              (with_reducible refine hfl.out.mono ?_); rintro e W4 ⟨rfl, v4, hbx4, hout4, hgr4, hkp4, hB4, hbl4⟩
              rw [hsz3] at hgr4
              rw [← HQ.out] at hgr4 htb3 hsz3 hsz2 ⊢
              have hown3 : v.ownBlock ≠ some Q := fun e => by have := (HVB.out Q e).2; omega
              have htb4 := hkp4 Q _ htb3 hown3
              have t0 : W4.cell? ⟨Q, 0, none⟩ = some (.int .i64 2) := by rw [Lib.cell_of_heap htb4]; rfl
              have t1 : W4.cell? ⟨Q, 1, none⟩ = some (.string ⟨x.toArray⟩) := by rw [Lib.cell_of_heap htb4]; rfl
              have t2 : W4.cell? ⟨Q, 2, none⟩ = some (.bool h0) := by rw [Lib.cell_of_heap htb4]; rfl
              have t3 : W4.cell? ⟨Q, 3, none⟩ = some (.slice a' n' c') := by rw [Lib.cell_of_heap htb4]; rfl
              have W5b : Below W4.heap.size W4 (W4.alloc (.cells #[.int .i64 2, .string ⟨x.toArray⟩, .bool h0, .slice a' n' c'] 33)) := (Below.refl _ _).alloc (Nat.le_refl _) _
              have hmb5 := new1 W4 (.cells #[.int .i64 2, .string ⟨x.toArray⟩, .bool h0, .slice a' n' c'] 33)
              have hW4 := hB4.lt
              have hszl := hbl4.size
              have hbx5 : Box _ N 91 v4 := (W5b.block N (by omega)).trans hbx4
              have hout5 := hout4.below W5b
              have hB5 := hB4.below W5b
              have hrd4 := hrd3.of (hbl4.block rb hlt)
              have hrd5 := hrd4.of (W5b.block rb hrd4.lt)
              have hbut4 := hbut3.trans (but_of_below hbl4 rb)
              have hbut5 := hbut4.trans (but_of_below (W5b.mono (show N ≤ W4.heap.size by omega)) rb)
              have hx5 : TokIs 33 (W4.alloc (.cells #[.int .i64 2, .string ⟨x.toArray⟩, .bool h0, .slice a' n' c'] 33)) (fun g => N ≤ g ∧ v4.ownBlock ≠ some g) [.int .i64 ((2 : Nat) : Int), .string ⟨x.toArray⟩, .bool h0, .slice a' n' c'] (.mk 2 x h0 ix) := by
                refine TokIs.of (HTK.out.keep2 (fun q hq hq2 => ?_) (fun q cur hq hc => ?_)) 2 x h0
                · have hq1 : W1.heap.size ≤ q := hq
                  rw [← HQ.out] at hq2
                  refine ⟨by omega, fun e => ?_⟩
                  rcases hgr4 with h | ⟨g', h, h'⟩
                  · have := (HVB.out q (by rw [← h]; exact e)).2
                    omega
                  · have e1 := Option.some.inj (h.symm.trans e)
                    omega
                · have hq1 : W1.heap.size ≤ q := hq
                  have hq2 : q < Q := by rw [HQ.out]; exact (Array.getElem?_eq_some_iff.1 hc).1
                  have h3 := (W3b.block q (by rw [← HQ.out]; exact hq2)).trans hc
                  have h4 := hkp4 q cur h3 (fun e => by have := (HVB.out q e).2; omega)
                  exact (W5b.block q (Array.getElem?_eq_some_iff.1 h4).1).trans h4
              have hfp := flush_len p
              have hadd := hid (add_a hbx5 hout5 hmb5 hx5 (by simp; omega) (by simp; omega) (by decide) (by decide))
              have HHW := hid hW4
              clear hx5 hmb5 htb3 htb4 hkp4 hgr4
              go_wp2_with fail
              (with_reducible refine hadd.out.mono ?_); rintro e W6 ⟨rfl, v6, hbx6, hout6, hg6, ht6⟩
              obtain ⟨_, _, _, hvb4⟩ := hout5.shape
              have hbl6 : Below N _ W6 := ht6.below (Nat.le_refl N) (by simp; omega) (fun g hg => (hvb4 g hg).1)
              have hI6 := HI.out.tok (hrd5.of (hbl6.block rb hlt)) hat2 hbx6 hout6 (hB5.two ht6 hout5 hbx5) (hbut5.trans (but_of_below hbl6 rb)) (by simp [Tok.kind]) (by simp; omega) HG.out
              have HI6 := hid hI6
              clear hI6 hbl6 ht6 hg6 hout6 hbx6
              go_wp2
              go_roundg r.length
              case measure => simp; omega
              case rel => exact ⟨_, _, _, _, _, rfl, HI6.out⟩
        | false =>
          subst h36
          rw [hgs] at c4
          have hG : parts f g d (36 :: t) = (parts f g d t).glue [36] := by rw [HPC.out, hgs]; rfl
          have HG := hid hG
          clear hG HPC hgs
          go_wp2
          have S0 : Hid ((fun u => u.cell? ⟨rb, 0, none⟩ = some (.string ⟨s.toArray⟩) ∧ u.cell? ⟨rb, 1, none⟩ = some (.int .i64 (i' : Nat))) W1.drew) := hid ⟨by go_simp, by go_simp⟩
          have hIP : PInv f g d s l rb N w W1.drew (36 :: t) i' v ts p := HI.out.drewN 1
          have hsmP := hIP.small
          simp only [List.length_cons] at hsmP
          have hwb0 : Calls Tryz.prog 60 #[.pointer (some ⟨N + 1, 0, none⟩), .int .u8 36] W1.drew fun e w' => e = .returned .nilIface ∧ Bld w' (N + 1) (p ++ [36]) ∧ Kept (N + 1) W1.drew w' := wbyte_fn hIP.bld 36 (by omega)
          have hwb := hid hwb0
          have HIP := hid hIP
          clear hIP hsmP hwb0
          refine U_begin (late := fun _ => false) (S := fun u => u.cell? ⟨rb, 0, none⟩ = some (.string ⟨s.toArray⟩) ∧ u.cell? ⟨rb, 1, none⟩ = some (.int .i64 (i' : Nat))) (by kernel_rfl) ?_
          refine U_take2 9 (i := 0) (v := .pointer (some ⟨rb, 0, none⟩)) rfl (by kernel_rfl) (by kernel_rfl) (by kernel_rfl) (by kernel_rfl) (by kernel_rfl) (fun _ _ _ h => h) (.inl ⟨rfl, fun u hu => (by go_simp)⟩) S0.out ?_
          refine U_take2 9 (i := 1) (v := .pointer (some ⟨rb, 0, none⟩)) rfl (by kernel_rfl) (by kernel_rfl) (by kernel_rfl) (by kernel_rfl) (by kernel_rfl) (fun _ _ _ h => h) (.inl ⟨rfl, fun u hu => (by go_simp)⟩) S0.out ?_
          refine U_take2 9 (i := 2) (v := .pointer (some ⟨rb, 0, none⟩)) rfl (by kernel_rfl) (by kernel_rfl) (by kernel_rfl) (by kernel_rfl) (by kernel_rfl) (fun _ _ _ h => h) (.inl ⟨rfl, fun u hu => (by go_simp)⟩) S0.out ?_
          refine U_take2 9 (i := 3) (v := .string ⟨s.toArray⟩) rfl (by kernel_rfl) (by kernel_rfl) (by kernel_rfl) (by kernel_rfl) (by kernel_rfl) (fun _ _ _ h => h) (.inl ⟨rfl, fun u hu => (by obtain ⟨h1, h2⟩ := hu; go_simp)⟩) S0.out ?_
          refine U_take2 9 (i := 4) (v := .pointer (some ⟨rb, 0, none⟩)) rfl (by kernel_rfl) (by kernel_rfl) (by kernel_rfl) (by kernel_rfl) (by kernel_rfl) (fun _ _ _ h => h) (.inl ⟨rfl, fun u hu => (by go_simp)⟩) S0.out ?_
          refine U_take2 9 (i := 5) (v := .pointer (some ⟨rb, 0, none⟩)) rfl (by kernel_rfl) (by kernel_rfl) (by kernel_rfl) (by kernel_rfl) (by kernel_rfl) (fun _ _ _ h => h) (.inl ⟨rfl, fun u hu => (by go_simp)⟩) S0.out ?_
          refine U_take2 9 (i := 6) (v := .pointer (some ⟨rb, 1, none⟩)) rfl (by kernel_rfl) (by kernel_rfl) (by kernel_rfl) (by kernel_rfl) (by kernel_rfl) (fun _ _ _ h => h) (.inl ⟨rfl, fun u hu => (by go_simp)⟩) S0.out ?_
          refine U_take2 9 (i := 7) (v := .int .i64 (i' : Nat)) rfl (by kernel_rfl) (by kernel_rfl) (by kernel_rfl) (by kernel_rfl) (by kernel_rfl) (fun _ _ _ h => h) (.inl ⟨rfl, fun u hu => (by obtain ⟨h1, h2⟩ := hu; go_simp)⟩) S0.out ?_
          refine U_take2 9 (i := 8) (v := .int .u8 36) rfl (by kernel_rfl) (by kernel_rfl) (by kernel_rfl) (by kernel_rfl) (by kernel_rfl) (fun _ _ _ h => h) (.inl ⟨rfl, fun u hu => (by go_simp)⟩) S0.out ?_
          refine U_step (j := 9) (by kernel_rfl) rfl (fun K hK => ?_)
          go_simp
          (with_reducible refine hwb.out.mono ?_); rintro e WB ⟨rfl, hBb, hkb⟩
          have hrb := hkb.at HIP.out.bld HIP.out.rd (by decide) (by decide)
          refine hK.out _ _ (.inr ⟨by rw [Lib.cell_of_heap hrb]; rfl, by rw [Lib.cell_of_heap hrb]; rfl⟩) ?_
          clear hK K
          refine U_done (by kernel_rfl) ?_ _
          have q1 : WB.cell? ⟨rb, 1, none⟩ = some (.int .i64 (i' : Nat)) := by rw [Lib.cell_of_heap hrb]; rfl
          have q2 : WB.frozen? ⟨rb, 1, none⟩ = false := Lib.frozen_of_heap hrb 1
          have hpl := HIP.out.plain hlt hBb hkb HG.out (u := .int .i64 ((i' : Int) + 1)) (by go_num)
          have HPL := hid hpl
          clear hpl hBb hkb hrb hwb
          go_wp2
          go_roundg t.length
          case measure => simp
          case rel => exact ⟨t, i' + 1, v, ts, p ++ [36], rfl, HPL.out⟩
      have n36 := byte_ne 36 h36 rfl
      by_cases h91 : c = 91
      · cases hgs : g.scripts with
        | true =>
          subst h91
          rw [hgs] at c5
          have hpc := HPC.out
          rw [hgs, if_neg (by simp), if_neg (by simp), if_pos (by decide)] at hpc
          have HPV := hid hpc
          have hres := HI.out.res
          rw [← HR.out] at hres
          have HRES := hid hres
          have hsmI := HI.out.small
          simp only [List.length_cons] at hsmI
          have hW1 := HI.out.lt
          have hfl := hid (flush_fn HI.out.bld HI.out.box HI.out.out (by omega) (Nat.le_refl N) (Nat.le_succ N) HI.out.last (by omega))
          clear hpc HPC hgs hres
          go_wp2_with fail
          (with_reducible refine hfl.out.mono ?_); rintro e W2 ⟨rfl, v2, hbx2, hout2, hgr2, hkp2, hB2, hbl2⟩
          have hrd2 := HI.out.rd.of (hbl2.block rb hlt)
          have hbut2 := HI.out.but.trans (but_of_below hbl2 rb)
          have hsc := ihS t (by omega) W2 rb s i' g hs hd hrd2 HI.out.here
          have HSC := hid hsc
          have hsz2 := hbl2.size
          clear hsc hfl hgr2 hkp2 c0 c1 c3 c4 c5
          go_wp2_with fail
          (with_reducible refine HSC.out.mono ?_); intro e W3 hs3
          cases hso : script d t with
          | halt hh =>
            rw [hso] at hs3
            obtain ⟨rfl, hb⟩ := hs3
            refine ⟨rfl, ?_⟩
            have hpv := HPV.out
            rw [hso] at hpv
            have hRR : R = .halt hh := by rw [← HRES.out, hpv]; rfl
            rw [hRR]
            exact ⟨rfl, by rw [← HN.out]; exact hbut2.trans (hb.mono (by omega))⟩
          | ok x r =>
            have hsok := script_ok d t x r hso
            rw [hso] at hs3
            obtain ⟨rfl, hrd3, hb3⟩ := hs3
            have hG : parts f g d (91 :: t) = (parts f g d r).cons (.mk 3 x false []) := by rw [HPV.out, hso]
            have HG := hid hG
            have hrt : r <:+ t := ⟨x ++ [93], by rw [hsok]; simp⟩
            have hrl : r.length < t.length := by rw [hsok]; simp; omega
            have hat3 : At s r (s.length - r.length) := HI.out.here.suf (hrt.trans (suf_tail 91 t))
            have hbx3 : Box W3 N 91 v2 := Box.but hbx2 hb3 (by omega)
            have hout3 := hout2.but hb3 hrd2
            have hB3 := hB2.but hb3 hrd2
            have hW2 := hB2.lt
            have hbut3 := hbut2.trans (hb3.mono (show N ≤ W2.heap.size by omega))
            have hsz3 := hb3.size
            have W4b : Below W3.heap.size W3 (W3.alloc (.cells #[.int .i64 3, .string ⟨x.toArray⟩, .bool false, .slice none 0 0] 33)) := (Below.refl _ _).alloc (Nat.le_refl _) _
            have hmb4 := new1 W3 (.cells #[.int .i64 3, .string ⟨x.toArray⟩, .bool false, .slice none 0 0] 33)
            have hbx4 : Box _ N 91 v2 := (W4b.block N (by omega)).trans hbx3
            have hout4 := hout3.below W4b
            have hB4 := hB3.below W4b
            have hrd4 := hrd3.of (W4b.block rb hrd3.lt)
            have hbut4 := hbut3.trans (but_of_below (W4b.mono (show N ≤ W3.heap.size by omega)) rb)
            have hx4 : TokIs 33 (W3.alloc (.cells #[.int .i64 3, .string ⟨x.toArray⟩, .bool false, .slice none 0 0] 33)) (fun g => N ≤ g ∧ v2.ownBlock ≠ some g) [.int .i64 ((3 : Nat) : Int), .string ⟨x.toArray⟩, .bool false, .slice none 0 0] (.mk 3 x false []) :=
              .mk 3 x false [] (.slice none 0 0) [] (World.ownsRow_nil _ _ _ _) (fun g hg => by simp [Value.ownBlock] at hg) rfl (fun i h1 => by simp at h1)
            have hfp := flush_len p
            have hadd := hid (add_a hbx4 hout4 hmb4 hx4 (by simp; omega) (by simp; omega) (by decide) (by decide))
            clear hx4 hmb4 hsok hso hG HSC HPV HRES
            go_wp2_with fail
            (with_reducible refine hadd.out.mono ?_); rintro e W6 ⟨rfl, v6, hbx6, hout6, hg6, ht6⟩
            obtain ⟨_, _, _, hvb4⟩ := hout4.shape
            have hbl6 : Below N _ W6 := ht6.below (Nat.le_refl N) (by simp; omega) (fun g hg => (hvb4 g hg).1)
            have hI6 := HI.out.tok (hrd4.of (hbl6.block rb hlt)) hat3 hbx6 hout6 (hB4.two ht6 hout4 hbx4) (hbut4.trans (but_of_below hbl6 rb)) (by simp [Tok.kind]) (by simp; omega) HG.out
            have HI6 := hid hI6
            clear hI6 hbl6 ht6 hg6 hout6 hbx6
            go_wp2
            go_roundg r.length
            case measure => simp; omega
            case rel => exact ⟨_, _, _, _, _, rfl, HI6.out⟩
        | false =>
          subst h91
          rw [hgs] at c5
          have hG : parts f g d (91 :: t) = (parts f g d t).glue [91] := by rw [HPC.out, hgs]; rfl
          have HG := hid hG
          clear hG HPC hgs
          go_wp2
          have S0 : Hid ((fun u => u.cell? ⟨rb, 0, none⟩ = some (.string ⟨s.toArray⟩) ∧ u.cell? ⟨rb, 1, none⟩ = some (.int .i64 (i' : Nat))) W1.drew) := hid ⟨by go_simp, by go_simp⟩
          have hIP : PInv f g d s l rb N w W1.drew (91 :: t) i' v ts p := HI.out.drewN 1
          have hsmP := hIP.small
          simp only [List.length_cons] at hsmP
          have hwb0 : Calls Tryz.prog 60 #[.pointer (some ⟨N + 1, 0, none⟩), .int .u8 91] W1.drew fun e w' => e = .returned .nilIface ∧ Bld w' (N + 1) (p ++ [91]) ∧ Kept (N + 1) W1.drew w' := wbyte_fn hIP.bld 91 (by omega)
          have hwb := hid hwb0
          have HIP := hid hIP
          clear hIP hsmP hwb0
          refine U_begin (late := fun _ => false) (S := fun u => u.cell? ⟨rb, 0, none⟩ = some (.string ⟨s.toArray⟩) ∧ u.cell? ⟨rb, 1, none⟩ = some (.int .i64 (i' : Nat))) (by kernel_rfl) ?_
          refine U_take2 9 (i := 0) (v := .pointer (some ⟨rb, 0, none⟩)) rfl (by kernel_rfl) (by kernel_rfl) (by kernel_rfl) (by kernel_rfl) (by kernel_rfl) (fun _ _ _ h => h) (.inl ⟨rfl, fun u hu => (by go_simp)⟩) S0.out ?_
          refine U_take2 9 (i := 1) (v := .pointer (some ⟨rb, 0, none⟩)) rfl (by kernel_rfl) (by kernel_rfl) (by kernel_rfl) (by kernel_rfl) (by kernel_rfl) (fun _ _ _ h => h) (.inl ⟨rfl, fun u hu => (by go_simp)⟩) S0.out ?_
          refine U_take2 9 (i := 2) (v := .pointer (some ⟨rb, 0, none⟩)) rfl (by kernel_rfl) (by kernel_rfl) (by kernel_rfl) (by kernel_rfl) (by kernel_rfl) (fun _ _ _ h => h) (.inl ⟨rfl, fun u hu => (by go_simp)⟩) S0.out ?_
          refine U_take2 9 (i := 3) (v := .string ⟨s.toArray⟩) rfl (by kernel_rfl) (by kernel_rfl) (by kernel_rfl) (by kernel_rfl) (by kernel_rfl) (fun _ _ _ h => h) (.inl ⟨rfl, fun u hu => (by obtain ⟨h1, h2⟩ := hu; go_simp)⟩) S0.out ?_
          refine U_take2 9 (i := 4) (v := .pointer (some ⟨rb, 0, none⟩)) rfl (by kernel_rfl) (by kernel_rfl) (by kernel_rfl) (by kernel_rfl) (by kernel_rfl) (fun _ _ _ h => h) (.inl ⟨rfl, fun u hu => (by go_simp)⟩) S0.out ?_
          refine U_take2 9 (i := 5) (v := .pointer (some ⟨rb, 0, none⟩)) rfl (by kernel_rfl) (by kernel_rfl) (by kernel_rfl) (by kernel_rfl) (by kernel_rfl) (fun _ _ _ h => h) (.inl ⟨rfl, fun u hu => (by go_simp)⟩) S0.out ?_
          refine U_take2 9 (i := 6) (v := .pointer (some ⟨rb, 1, none⟩)) rfl (by kernel_rfl) (by kernel_rfl) (by kernel_rfl) (by kernel_rfl) (by kernel_rfl) (fun _ _ _ h => h) (.inl ⟨rfl, fun u hu => (by go_simp)⟩) S0.out ?_
          refine U_take2 9 (i := 7) (v := .int .i64 (i' : Nat)) rfl (by kernel_rfl) (by kernel_rfl) (by kernel_rfl) (by kernel_rfl) (by kernel_rfl) (fun _ _ _ h => h) (.inl ⟨rfl, fun u hu => (by obtain ⟨h1, h2⟩ := hu; go_simp)⟩) S0.out ?_
          refine U_take2 9 (i := 8) (v := .int .u8 91) rfl (by kernel_rfl) (by kernel_rfl) (by kernel_rfl) (by kernel_rfl) (by kernel_rfl) (fun _ _ _ h => h) (.inl ⟨rfl, fun u hu => (by go_simp)⟩) S0.out ?_
          refine U_step (j := 9) (by kernel_rfl) rfl (fun K hK => ?_)
          go_simp
          (with_reducible refine hwb.out.mono ?_); rintro e WB ⟨rfl, hBb, hkb⟩
          have hrb := hkb.at HIP.out.bld HIP.out.rd (by decide) (by decide)
          refine hK.out _ _ (.inr ⟨by rw [Lib.cell_of_heap hrb]; rfl, by rw [Lib.cell_of_heap hrb]; rfl⟩) ?_
          clear hK K
          refine U_done (by kernel_rfl) ?_ _
          have q1 : WB.cell? ⟨rb, 1, none⟩ = some (.int .i64 (i' : Nat)) := by rw [Lib.cell_of_heap hrb]; rfl
          have q2 : WB.frozen? ⟨rb, 1, none⟩ = false := Lib.frozen_of_heap hrb 1
          have hpl := HIP.out.plain hlt hBb hkb HG.out (u := .int .i64 ((i' : Int) + 1)) (by go_num)
          have HPL := hid hpl
          clear hpl hBb hkb hrb hwb
          go_wp2
          go_roundg t.length
          case measure => simp
          case rel => exact ⟨t, i' + 1, v, ts, p ++ [91], rfl, HPL.out⟩
      have n91 := byte_ne 91 h91 rfl
      have hG : parts f g d (c :: t) = (parts f g d t).glue [c] := by rw [HPC.out]; simp [h92, h36, h91]
      have HG := hid hG
      clear hG HPC
      go_wp2
      have S0 : Hid ((fun u => u.cell? ⟨rb, 0, none⟩ = some (.string ⟨s.toArray⟩) ∧ u.cell? ⟨rb, 1, none⟩ = some (.int .i64 (i' : Nat))) W1.drew) := hid ⟨by go_simp, by go_simp⟩
      have hIP : PInv f g d s l rb N w W1.drew (c :: t) i' v ts p := HI.out.drewN 1
      have hsmP := hIP.small
      simp only [List.length_cons] at hsmP
      have hwb0 : Calls Tryz.prog 60 #[.pointer (some ⟨N + 1, 0, none⟩), .int .u8 c.toNat] W1.drew fun e w' => e = .returned .nilIface ∧ Bld w' (N + 1) (p ++ [c]) ∧ Kept (N + 1) W1.drew w' := wbyte_fn hIP.bld c (by omega)
      have hwb := hid hwb0
      have HIP := hid hIP
      clear hIP hsmP hwb0
      refine U_begin (late := fun _ => false) (S := fun u => u.cell? ⟨rb, 0, none⟩ = some (.string ⟨s.toArray⟩) ∧ u.cell? ⟨rb, 1, none⟩ = some (.int .i64 (i' : Nat))) (by kernel_rfl) ?_
      refine U_take2 9 (i := 0) (v := .pointer (some ⟨rb, 0, none⟩)) rfl (by kernel_rfl) (by kernel_rfl) (by kernel_rfl) (by kernel_rfl) (by kernel_rfl) (fun _ _ _ h => h) (.inl ⟨rfl, fun u hu => (by go_simp)⟩) S0.out ?_
      refine U_take2 9 (i := 1) (v := .pointer (some ⟨rb, 0, none⟩)) rfl (by kernel_rfl) (by kernel_rfl) (by kernel_rfl) (by kernel_rfl) (by kernel_rfl) (fun _ _ _ h => h) (.inl ⟨rfl, fun u hu => (by go_simp)⟩) S0.out ?_
      refine U_take2 9 (i := 2) (v := .pointer (some ⟨rb, 0, none⟩)) rfl (by kernel_rfl) (by kernel_rfl) (by kernel_rfl) (by kernel_rfl) (by kernel_rfl) (fun _ _ _ h => h) (.inl ⟨rfl, fun u hu => (by go_simp)⟩) S0.out ?_
      refine U_take2 9 (i := 3) (v := .string ⟨s.toArray⟩) rfl (by kernel_rfl) (by kernel_rfl) (by kernel_rfl) (by kernel_rfl) (by kernel_rfl) (fun _ _ _ h => h) (.inl ⟨rfl, fun u hu => (by obtain ⟨h1, h2⟩ := hu; go_simp)⟩) S0.out ?_
      refine U_take2 9 (i := 4) (v := .pointer (some ⟨rb, 0, none⟩)) rfl (by kernel_rfl) (by kernel_rfl) (by kernel_rfl) (by kernel_rfl) (by kernel_rfl) (fun _ _ _ h => h) (.inl ⟨rfl, fun u hu => (by go_simp)⟩) S0.out ?_
      refine U_take2 9 (i := 5) (v := .pointer (some ⟨rb, 0, none⟩)) rfl (by kernel_rfl) (by kernel_rfl) (by kernel_rfl) (by kernel_rfl) (by kernel_rfl) (fun _ _ _ h => h) (.inl ⟨rfl, fun u hu => (by go_simp)⟩) S0.out ?_
      refine U_take2 9 (i := 6) (v := .pointer (some ⟨rb, 1, none⟩)) rfl (by kernel_rfl) (by kernel_rfl) (by kernel_rfl) (by kernel_rfl) (by kernel_rfl) (fun _ _ _ h => h) (.inl ⟨rfl, fun u hu => (by go_simp)⟩) S0.out ?_
      refine U_take2 9 (i := 7) (v := .int .i64 (i' : Nat)) rfl (by kernel_rfl) (by kernel_rfl) (by kernel_rfl) (by kernel_rfl) (by kernel_rfl) (fun _ _ _ h => h) (.inl ⟨rfl, fun u hu => (by obtain ⟨h1, h2⟩ := hu; go_simp)⟩) S0.out ?_
      refine U_take2 9 (i := 8) (v := .int .u8 c.toNat) rfl (by kernel_rfl) (by kernel_rfl) (by kernel_rfl) (by kernel_rfl) (by kernel_rfl) (fun _ _ _ h => h) (.inl ⟨rfl, fun u hu => (by go_simp)⟩) S0.out ?_
      refine U_step (j := 9) (by kernel_rfl) rfl (fun K hK => ?_)
      go_simp
      (with_reducible refine hwb.out.mono ?_); rintro e WB ⟨rfl, hBb, hkb⟩
      have hrb := hkb.at HIP.out.bld HIP.out.rd (by decide) (by decide)
      refine hK.out _ _ (.inr ⟨by rw [Lib.cell_of_heap hrb]; rfl, by rw [Lib.cell_of_heap hrb]; rfl⟩) ?_
      clear hK K
      refine U_done (by kernel_rfl) ?_ _
      have q1 : WB.cell? ⟨rb, 1, none⟩ = some (.int .i64 (i' : Nat)) := by rw [Lib.cell_of_heap hrb]; rfl
      have q2 : WB.frozen? ⟨rb, 1, none⟩ = false := Lib.frozen_of_heap hrb 1
      have hpl := HIP.out.plain hlt hBb hkb HG.out (u := .int .i64 ((i' : Int) + 1)) (by go_num)
      have HPL := hid hpl
      clear hpl hBb hkb hrb hwb
      go_wp2
      go_roundg t.length
      case measure => simp
      case rel => exact ⟨t, i' + 1, v, ts, p ++ [c], rfl, HPL.out⟩
end Go.Proofs.YtkgpmkkodpjdfaaGreatDoor.Pz
