/-
  Part K7 of the proofs of this seat, merged by a program out of 6 texts; remarks are struck.
-/
import Derived.RangeFuncNested
import Derived.RangeFuncBound
import Derived.RangeFuncCalls
import Derived.RangeFuncLeaves
import Derived.RangeFuncBox
import Derived.Shelf.Abstract
import Derived.Shelf.RegionOpen
import Derived.OwnWalkIn
import Derived.TacticsInMore
import Derived.LoopNIn
import Derived.LoopIn
import Derived.WalkKit
import Derived.Defers
import Derived.Recover
import Derived.RecoverIn
import Derived.OrdersIn
import Derived.Sort.CutIn
import Derived.Maps.OwnIn
import Derived.Test.YtbilphfbfnohmaaGreatDoorK6
namespace Go.Proofs.YtbilphfbfnohmaaGreatDoor.Pz
open Go.RowKit
structure TurnA (Ts:List TypeId) (B:Nat) (W W':World):Prop where
 os:W'.os=W.os
 tape:W'.tape=W.tape
 output:W'.output=W.output
 size:W.heap.size≤W'.heap.size
 block:∀ (k:Nat) (o:Obj),W.heap[k]? = some o→(k<B∨∀ cs t fz,o=Obj.cells cs t fz→t ∉ Ts)→W'.heap[k]? = some o
structure TurnO (Ts:List TypeId) (B:Nat) (W W':World):Prop where
 os:W'.os=W.os
 tape:W'.tape=W.tape
 output:W'.output=W.output
 size:W.heap.size≤W'.heap.size
 block:∀ (k:Nat) (o:Obj),W.heap[k]? = some o→(k<B∨∃ cs t fz,o=Obj.cells cs t fz∧t ∉ Ts)→W'.heap[k]? = some o
theorem TurnA.o {Ts:List TypeId} {B B':Nat} {W W':World} (h:TurnA Ts B W W') (hB:B'≤B):TurnO Ts B' W W':=
 ⟨h.os,h.tape,h.output,h.size,fun k o hk hc=>h.block k o hk (by
  rcases hc with hc | ⟨cs,t,fz,rfl,ht⟩
  ·exact .inl (by omega)
  ·exact .inr fun cs' t' fz' e=>by cases e;exact ht)⟩
theorem TurnO.cells {Ts:List TypeId} {B:Nat} {W W':World} (h:TurnO Ts B W W') {k:Nat} {cs:Array Value} {t:TypeId} {fz:Nat×Nat} (hk:W.heap[k]? = some (.cells cs t fz)) (ht:t ∉ Ts):W'.heap[k]? = some (.cells cs t fz):=h.block k _ hk (.inr ⟨_,_,_,rfl,ht⟩)
theorem TurnO.low {Ts:List TypeId} {B:Nat} {W W':World} (h:TurnO Ts B W W') (hB:B≤W.heap.size):Below B W W':=
 ⟨h.os,h.tape,h.output,h.size,fun k hk=>by
  have hk2:k<W.heap.size:=by omega
  rw [Array.getElem?_eq_getElem hk2]
  exact h.block k _ (Array.getElem?_eq_getElem hk2) (.inl hk)⟩
theorem TurnO.of_below {Ts:List TypeId} {B:Nat} {W W':World} (h:Below W.heap.size W W'):TurnO Ts B W W':=
 ⟨h.os,h.tape,h.output,h.size,fun k _ hk _=>(h.block k (Array.getElem?_eq_some_iff.1 hk).1).trans hk⟩
theorem TurnA.of_below {Ts:List TypeId} {B:Nat} {W W':World} (h:Below W.heap.size W W'):TurnA Ts B W W':=
 ⟨h.os,h.tape,h.output,h.size,fun k _ hk _=>(h.block k (Array.getElem?_eq_some_iff.1 hk).1).trans hk⟩
theorem TurnA.trans {Ts:List TypeId} {B:Nat} {X Y Z:World} (h:TurnA Ts B X Y) (k:TurnA Ts B Y Z):TurnA Ts B X Z:=
 ⟨k.os.trans h.os,k.tape.trans h.tape,k.output.trans h.output,Nat.le_trans h.size k.size,fun i o hi hc=>k.block i o (h.block i o hi hc) hc⟩
def AbideT {β:Type} (Ts:List TypeId) (B:Nat) (J:β→World→Prop):Prop:=∀ s W W',J s W→TurnA Ts B W W'→J s W'
def OwnT {β:Type} (Ts:List TypeId) (B:Nat) (I:β→World→Prop):Prop:=∀ s W W',I s W→TurnO Ts B W W'→I s W'
theorem OwnT.alloc {β:Type} {Ts:List TypeId} {B:Nat} {I:β→World→Prop} (h:OwnT Ts B I) {s:β} {W:World} (o:Obj) (hs:I s W):I s (W.alloc o):=
 h s W _ hs (TurnO.of_below ((Below.refl _ _).alloc (Nat.le_refl _) _))
theorem OwnT.putObj {β:Type} {Ts:List TypeId} {B:Nat} {I:β→World→Prop} (h:OwnT Ts B I) {s:β} {W:World} {l:Nat} {o:Obj} (o':Obj) (hs:I s W) (hB:B≤l) (hl:W.heap[l]? = some o) (ho:o.isCells=false):I s (W.putObj l o'):=
 h s W _ hs ⟨rfl,rfl,rfl,by rw [World.putObj_size];exact Nat.le_refl _,fun k o2 hk hc=>by
  refine (World.putObj_heap_other ?_).trans hk
  rintro rfl
  rw [hl] at hk
  cases hk
  rcases hc with hc | ⟨cs,t,fz,rfl,_⟩
  ·omega
  ·cases ho⟩
structure KeepT (B:Nat) (Ts:List TypeId) (Bx:List Nat) (W W':World):Prop where
 low:Below B W W'
 ts:∀ (k:Nat) (cs:Array Value) (t:TypeId) (fz:Nat×Nat),W.heap[k]? = some (Obj.cells cs t fz)→t∈Ts→W'.heap[k]? = some (Obj.cells cs t fz)
 bx:∀ k∈Bx,W'.heap[k]? = W.heap[k]?
theorem KeepT.refl (B:Nat) (Ts:List TypeId) (Bx:List Nat) (W:World):KeepT B Ts Bx W W:=⟨Below.refl _ _,fun _ _ _ _ h _=>h,fun _ _=>rfl⟩
theorem KeepT.trans {B:Nat} {Ts:List TypeId} {Bx:List Nat} {X Y Z:World} (h:KeepT B Ts Bx X Y) (k:KeepT B Ts Bx Y Z):KeepT B Ts Bx X Z:=⟨h.low.trans k.low,fun i cs t fz hi ht=>k.ts i cs t fz (h.ts i cs t fz hi ht) ht,fun i hi=>(k.bx i hi).trans (h.bx i hi)⟩
theorem KeepT.of_below {B:Nat} {Ts:List TypeId} {Bx:List Nat} {W W':World} (h:Below W.heap.size W W') (hB:B≤W.heap.size) (hx:∀ k∈Bx,k<W.heap.size):KeepT B Ts Bx W W':=
 ⟨h.mono hB,fun k _ _ _ hk _=>(h.block k (Array.getElem?_eq_some_iff.1 hk).1).trans hk,fun k hk=>h.block k (hx k hk)⟩
theorem KeepT.putObj {B:Nat} {Ts:List TypeId} {Bx:List Nat} {W:World} {l:Nat} {o:Obj} (o':Obj) (hB:B≤l) (hx:l ∉ Bx) (hl:W.heap[l]? = some o) (ho:o.isCells=false):KeepT B Ts Bx W (W.putObj l o'):=
 ⟨⟨rfl,rfl,rfl,by rw [World.putObj_size];exact Nat.le_refl _,fun k hk=>World.putObj_heap_other (by omega)⟩,fun k cs t fz hk _=>(by
  refine (World.putObj_heap_other ?_).trans hk
  rintro rfl
  rw [hl] at hk
  cases hk
  cases ho),fun k hk=>World.putObj_heap_other fun e=>hx (by rw [← e];exact hk)⟩
theorem KeepT.setCell {B:Nat} {Ts:List TypeId} {Bx:List Nat} {W:World} {b i:Nat} {cs:Array Value} {t:TypeId} {fz:Nat×Nat} (hB:B≤b) (hx:b ∉ Bx) (hb:W.heap[b]? = some (.cells cs t fz)) (ht:t ∉ Ts) (v:Value):KeepT B Ts Bx W (W.setCell ⟨b,i,none⟩ v):=
 ⟨(Below.refl _ _).setCell hB _,fun k cs' t' fz' hk ht'=>(by
  refine (Below.heap_setCell _ _ _ _ ?_).trans hk
  rintro rfl
  rw [hb] at hk
  cases hk
  exact ht ht'),fun k hk=>Below.heap_setCell _ _ _ _ fun e=>hx (by rw [← (show k=b from e)];exact hk)⟩
def SeqN (F:Fence) (n:Nat) (P:Program) (g:Nat) (lb:Array Value) (enc:Nat→Array Value) (Ts:List TypeId) (B:Nat) (Bx:List Nat) (N:Nat) (w:World):Prop:=
 ∀ (l:Nat) (J:Nat→World→Prop) (W:World),Below w.heap.size w W→AbideT Ts W.heap.size J→
  (∀ k W1,J k W1→k<N→YieldAt F (n-1) P l (enc k) W1 fun e W'=>e=.returned (.bool true)∧J (k+1) W'∧KeepT B Ts Bx W1 W')→
  J 0 W→CallsIn F n P g (#[.func (.yield l) #[] #[]]++lb) W fun e W'=>(∃ v,e=.returned v)∧J N W'
def endPost (B0 B:Nat) (Ts:List TypeId) (Bx:List Nat) (I:Nat→World→Prop) (k:Nat) (W:World):Exit→Act→World→Prop
 | .normal,_,W'=>KeepsFrom B0 W W'∧KeepT B Ts Bx W W'∧I k W'
 | .ret,_,_=>False
 | .exit _,_,_=>False
 | .goto _,_,_=>False
 | .panic _,_,_=>False
 | .outgrown,_,_=>False
theorem wpIn_range_n {F:Fence} {n:Nat} {P:Program} {g:Operand} {ps:Array Tmp} {assign body:Code} {Q:Exit→Act→World→Prop} {a:Act} {w:World}
  (hro:F.round=none) (h1:1≤n) {gf:Nat} {lb:Array Value} (hg:a.eval g=.func (.func gf) #[] lb) (hFg:F.fn gf) (eg:∀ args w,(callFunc gf args).run P w=.ok (.enter gf args) w)
  {enc:Nat→Array Value} {Ts:List TypeId} {B N:Nat} {Bx:List Nat} {w0:World} (hseq:SeqN F (n-1) P gf lb enc Ts B Bx N w0) (hB:B≤w.heap.size) (hBx:∀ k∈Bx,k<w.heap.size) (hb0:Below w0.heap.size w0 w) (hps:∀ x,(enc x).size=ps.size)
  (I:Nat→World→Prop) (hI:OwnT Ts w.heap.size I) (h0:I 0 w) (Ax:Nat→Act→World→Prop) (hAx:∀ x a',OwnFrom w.heap.size (fun (_:Unit) W=>Ax x a' W))
  (hassign:∀ (l k:Nat) (W:World) (K:Act→World→Prop),I k W→k<N→(∀ a' W',KeepsFrom w.heap.size W W'→KeepT B Ts Bx W W'→I k W'→Ax k a' W'→K a' W')→
   assign.wpIn (F.inRound l) (n-1-1) P (Exit.then K (fun _ _ _=>False)) { tmps:=(ps.zip (enc k)).foldl (fun t (p,v)=>t.setIfInBounds p v) a.tmps,defers:=[] } W)
  (hbody:∀ (l k:Nat) (a':Act) (W:World),I k W→Ax k a' W→k<N→body.wpIn (F.inRound l) (n-1-1) P (endPost w.heap.size B Ts Bx I (k+1) W) a' W)
  (hdone:∀ (D:Nat) (W:World),w.heap.size≤D→I N W→W.heap[D]? = some (.deferred (some []))→Q .normal { a with defers:={ target:=.collected D,args:=#[] } :: a.defers } W) :
  (Code.rangeFunc g ps assign body).wpIn F n P Q a w:=by
 refine wpIn_rangeFunc fun fn hfn=>?_
 rw [hro]
 obtain ⟨rc,hrc⟩:∃ rc:LoopState→Loop,rc=fun st=>{ state:=st,pending:=none,fn,tmps:=a.tmps,params:=ps,assign,body,defers:=w.heap.size }:=⟨_,rfl⟩
 obtain ⟨D,hD⟩:∃ D,D=w.heap.size:=⟨_,rfl⟩
 obtain ⟨W1,hW1⟩:∃ W1,W1=(w.alloc (.deferred (some []))).alloc (.loop (rc .ready)):=⟨_,rfl⟩
 have hz1:W1.heap.size=D+1+1:=by rw [hW1,hD];simp
 have hdef1:W1.heap[D]? = some (.deferred (some [])):=by
  rw [hW1,hD]
  exact (Below.heap_alloc _ _ _ (by simp)).trans (World.alloc_heap_new w _)
 have hrec1:W1.heap[D+1]? = some (.loop (rc .ready)):=by
  have h:=World.alloc_heap_new (w.alloc (.deferred (some []))) (.loop (rc .ready))
  rw [World.size_alloc] at h
  rw [hW1,hD]
  exact h
 have hst1:I 0 W1:=by rw [hW1];exact hI.alloc _ (hI.alloc _ h0)
 have hlow1:Below w0.heap.size w0 W1:=by
  rw [hW1]
  exact hb0.trans ((((Below.refl _ w).alloc (Nat.le_refl _) _).alloc (by simp) _).mono hb0.size)
 rw [← hD] at hI hAx hassign hbody hdone hB hBx
 have hnx:D+1 ∉ Bx:=fun h=>by have:=hBx _ h;omega
 refine ⟨D+1,[{ target:=.collected D,args:=#[] }],W1,{ target:=.fn (.func gf) lb,args:=#[.func (.yield (D+1)) #[] #[]] },W1,gf,#[.func (.yield (D+1)) #[] #[]]++lb,W1,
  by rw [hW1,hrc,hD];exact run_enterLoop_outer _ _ _ _ _,by simp only [resolve,hg];simp [go_sem],fun f' hf'=>by simp [Target.leads] at hf';subst hf';exact hFg,by simp [invoke,go_sem,eg],fun _=>h1,?_⟩
 have turn:∀ (A C:World) (k:Nat) (o:Obj),TurnA Ts W1.heap.size A C→A.heap[k]? = some o→o.isCells=false→C.heap[k]? = some o:=fun A C k o ht hk ho=>
  ht.block k o hk (.inr fun cs t fz e=>by subst e;cases ho)
 refine (hseq (D+1) (fun k W=>I k W∧W.heap[D+1]? = some (.loop (rc .ready))∧W.heap[D]? = some (.deferred (some []))) W1 hlow1
  (fun s A C hs ht=>⟨hI s A C hs.1 (ht.o (by omega)),turn A C _ _ ht hs.2.1 rfl,turn A C _ _ ht hs.2.2 rfl⟩) ?_ ⟨hst1,hrec1,hdef1⟩).mono ?_
 ·
  rintro k W ⟨hi,hl,hk⟩ hpre
  have hy:=run_yield (P:=P) (args:=enc k) hl (by rw [hrc];exact hps k)
  rw [hrc] at hy
  refine ⟨fn,_,assign,body,hy,roundIn_of_wpIn hfn (hassign _ k W _ hi hpre ?_)⟩
  clear hy
  intro a' Wa hka hta hia hxa
  have hla:=hka.same _ _ (by omega) hl rfl
  have hda:=hka.same _ _ (Nat.le_refl _) hk rfl
  have hlt:D+1<Wa.heap.size:=(Array.getElem?_eq_some_iff.1 hla).1
  refine ⟨_,run_beginRound hla (by rw [hrc]),?_⟩
  obtain ⟨busy,hbusy⟩:∃ busy,busy = { rc .ready with state:=.busy }:=⟨_,rfl⟩
  obtain ⟨Wb,hWb⟩:∃ Wb,Wb=Wa.putObj (D+1) (.loop busy):=⟨_,rfl⟩
  have hlb:Wb.heap[D+1]? = some (.loop busy):=by rw [hWb];exact World.putObj_heap_same hlt
  have hdb:Wb.heap[D]? = some (.deferred (some [])):=by rw [hWb];exact (World.putObj_heap_other (by omega)).trans hda
  have htb:KeepT B Ts Bx Wa Wb:=by rw [hWb];exact KeepT.putObj _ (by omega) hnx hla rfl
  have hib:I k Wb:=by rw [hWb];exact hI.putObj _ hia (by omega) hla rfl
  have hxb:Ax k a' Wb:=by rw [hWb];exact (hAx k a').putObj (s:=()) _ hxa (by omega) hla rfl
  rw [← hbusy,← hWb]
  refine wpIn_mono (hbody _ k a' Wb hib hxb hpre) ?_
  rintro e a3 W3 hp
  cases e with
  | normal=>
   obtain ⟨hk3,ht3,hi3⟩:=hp
   have hl3:=hk3.same _ _ (by omega) hlb rfl
   have hd3:=hk3.same _ _ (Nat.le_refl _) hdb rfl
   have hr3:({ busy with state:=.ready,pending:=none }:Loop)=rc .ready:=by rw [hbusy,hrc]
   have hend:=run_endRound (P:=P) none hl3
   simp only [Option.isNone_none,if_true] at hend
   rw [hr3] at hend
   exact ⟨_,_,hend,rfl,⟨hI.putObj _ hi3 (by omega) hl3 rfl,World.putObj_heap_same (Array.getElem?_eq_some_iff.1 hl3).1,(World.putObj_heap_other (by omega)).trans hd3⟩,
    hta.trans (htb.trans (ht3.trans (KeepT.putObj _ (by omega) hnx hl3 rfl)))⟩
  | ret=>exact hp.elim
  | exit id=>exact hp.elim
  | goto t=>exact hp.elim
  | panic ch=>exact hp.elim
  | outgrown=>exact hp.elim
 ·
  rintro e W2 ⟨⟨v,rfl⟩,hi,hl,hk⟩
  have hend:=run_endLoop (P:=P) hl (by rw [hrc];simp)
  rw [hrc] at hend
  exact ⟨none,_,hend,hdone D _ (Nat.le_refl _) (hI.putObj _ hi (by omega) hl rfl) ((World.putObj_heap_other (by omega)).trans hk)⟩
end Go.Proofs.YtbilphfbfnohmaaGreatDoor.Pz
namespace Go.Proofs.YtbilphfbfnohmaaGreatDoor.Pz
open Go.RowKit
theorem belowN (w:World) (o:Obj):Below w.heap.size w (w.alloc o):=(Below.refl _ _).alloc (Nat.le_refl _) _
theorem idx_none:∀ (l:Str),(37:UInt8) ∉ l→Lib.indexByte l 37 = -1
 | [],_=>rfl
 | x::l,h=>by
  rw [Lib.indexByte,if_neg (by intro e;exact h (by rw [beq_iff_eq.1 e];simp)),idx_none l fun e=>h (List.mem_cons_of_mem _ e)]
  rfl
theorem idx_app:∀ (l t:Str),(37:UInt8) ∉ l→Lib.indexByte (l++37::t) 37=(l.length:Nat)
 | [],_,_=>rfl
 | x::l,t,h=>by
  show Lib.indexByte (x::(l++37::t)) 37=_
  rw [Lib.indexByte,if_neg (by intro e;exact h (by rw [beq_iff_eq.1 e];simp)),idx_app l t fun e=>h (List.mem_cons_of_mem _ e),if_neg (by rw [beq_iff_eq];omega),List.length_cons]
  omega
theorem conversions_fn (s:Str) (q:Bool) (w:World):Calls Tryz.prog 47 #[.string ⟨s.toArray⟩,.bool q] w fun e w'=>
  e=.returned (.func (.func 87) #[] #[.pointer (some ⟨w.heap.size,0,none⟩),.pointer (some ⟨w.heap.size+1,0,none⟩)])∧Below w.heap.size w w'∧
   w'.heap[w.heap.size]? = some (.cells #[.string ⟨s.toArray⟩] 9 (0,0))∧w'.heap[w.heap.size+1]? = some (.cells #[.bool q] 4 (0,0))∧w'.heap.size=w.heap.size+1+1:=by
 have hmf:∀ (fn:Fn) (first cap:Array Value) (w:World),(Instr.makeFunc fn first cap).run Tryz.prog w=.ok (.func fn first cap) w:=fun _ _ _ _=>rfl
 go_enter Tryz.func47,Tryz.ntmps47
 go_wp2
 go_ret
 refine ⟨rfl,((belowN _ _).trans ((belowN _ _).mono (by simp))),?_,?_,by simp⟩
 ·rw [Below.heap_alloc _ _ _ (by simp)]
  exact heap_alloc_new _ _
 ·have h:=heap_alloc_new (w.alloc (.cells #[.string ⟨s.toArray⟩] 9)) (.cells #[.bool q] 4)
  rw [World.size_alloc] at h
  exact h
theorem at_wrld {P:Program} {c:Code} {Q:Exit→Act→World→Prop} {a:Act} {w:World} (h:∀ W,W=w→c.wp P Q a W):c.wp P Q a w:=h w rfl
structure ItSt (scan:Bool) (ps:List Pc) (b rb k:Nat) (W wr:World):Prop where
 rd:SRd wr rb (shwAll ps) (offP ps k)
 bs:wr.heap[b]? = some (.cells #[.string ⟨(shwAll ps).toArray⟩] 9 (0,0))
 bq:wr.heap[b+1]? = some (.cells #[.bool scan] 4 (0,0))
 low:W.heap.size≤rb
theorem ItSt.on {scan:Bool} {ps:List Pc} {b rb k:Nat} {W wr wx:World} (h:ItSt scan ps b rb k W wr) (hb:Below wr.heap.size wr wx):ItSt scan ps b rb k W wx:=
 ⟨(hb.block _ h.rd.lt).trans h.rd,(hb.block _ (Array.getElem?_eq_some_iff.1 h.bs).1).trans h.bs,(hb.block _ (Array.getElem?_eq_some_iff.1 h.bq).1).trans h.bq,h.low⟩
theorem OnlyS.turnA {Ts:List TypeId} {B:Nat} {A:List Nat} {W W':World} (h:OnlyS A W W') (hA:∀ k∈A,B≤k∧∃ cs t fz,W.heap[k]? = some (.cells cs t fz)∧t∈Ts):TurnA Ts B W W':=
 ⟨h.os,h.tape,h.output,h.size,fun k o hk hc=>by
  by_cases hkA:k∈A
  ·obtain ⟨h1,cs,t,fz,h2,h3⟩:=hA k hkA
   rw [hk] at h2
   have h4:=Option.some.inj h2
   subst h4
   rcases hc with hc | hc
   ·omega
   ·exact absurd h3 (hc _ _ _ rfl)
  ·exact (h.block k (Array.getElem?_eq_some_iff.1 hk).1 hkA).trans hk⟩
abbrev convTs:List TypeId:=[126,78]
set_option maxRecDepth 1000000 in
set_option maxHeartbeats 4000000 in
theorem convs_n {scan:Bool} {ps:List Pc} (hok:partsOk scan ps=true) (hs:(shwAll ps).length≤1000000) {b B:Nat} (N:Nat) {w:World}
  (h1:w.heap[b]? = some (.cells #[.string ⟨(shwAll ps).toArray⟩] 9 (0,0))) (h2:w.heap[b+1]? = some (.cells #[.bool scan] 4 (0,0))) :
  SeqN Fence.wide N Tryz.prog 87 #[.pointer (some ⟨b,0,none⟩),.pointer (some ⟨b+1,0,none⟩)] (encP scan ps) convTs B [b,b+1] ps.length w:=by
 intro l J W hW hJ hY h0
 have hb1:W.heap[b]? = _:=(hW.block _ (Array.getElem?_eq_some_iff.1 h1).1).trans h1
 have hb2:W.heap[b+1]? = _:=(hW.block _ (Array.getElem?_eq_some_iff.1 h2).1).trans h2
 have hmf:∀ (fn:Fn) (first cap:Array Value) (w:World),(Instr.makeFunc fn first cap).run Tryz.prog w=.ok (.func fn first cap) w:=fun _ _ _ _=>rfl
 have d1:W.cell? ⟨b,0,none⟩=some (.string ⟨(shwAll ps).toArray⟩):=by rw [Lib.cell_of_heap hb1];rfl
 obtain ⟨s,hse⟩:∃ s,s=shwAll ps:=⟨_,rfl⟩
 rw [← hse] at hs d1
 have hsz:(⟨s.toArray⟩:ByteArray).size=s.length:=Lib.size_mk _
 have hbW:=(Array.getElem?_eq_some_iff.1 hb2).1
 obtain ⟨W1,hW1⟩:∃ W1,W1=W.alloc (.cells #[.string ⟨s.toArray⟩,.int .i64 0] 126):=⟨_,rfl⟩
 have hI:ItSt scan ps b W.heap.size 0 W W1:=by
  rw [hW1,hse]
  exact ⟨heap_alloc_new _ _,(Below.heap_alloc _ _ _ (Array.getElem?_eq_some_iff.1 hb1).1).trans hb1,(Below.heap_alloc _ _ _ (Array.getElem?_eq_some_iff.1 hb2).1).trans hb2,Nat.le_refl _⟩
 have hJ1:J 0 W1:=by rw [hW1];exact hJ _ _ _ h0 (TurnA.of_below (belowN _ _))
 have HW1:=hid hW1
 have HI:=hid hI
 have HJ1:=hid hJ1
 have HJ:=hid hJ
 have HY:=hid hY
 have HSE:=hid hse
 have HOK:=hid hok
 clear hW1 hI hJ1 hJ hY hse hW h1 h2 hb1 hb2 h0 hok
 refine callsIn_wide.2 ?_
 go_enter Tryz.func87,Tryz.ntmps87
 go_wp2_with fail
 rw [← HW1.out]
 clear d1
 obtain ⟨rb,hrb⟩:∃ rb,rb=W.heap.size:=⟨_,rfl⟩
 rw [← hrb] at HI ⊢
 have HRB:=hid hrb
 clear hrb
 go_loopg [] ps.length (fun m wr=>∃ k:Nat,k≤ps.length∧ItSt scan ps b rb k W wr∧J k wr∧m=ps.length-k)
 case atStart=>exact ⟨0,Nat.zero_le _,HI.out,HJ1.out,rfl⟩
 case round=>
  obtain ⟨k,hk,hI,hJk,rfl⟩:=hrel
  have c0:=hI.rd.c0
  have c1:=hI.rd.c1
  have bs:=hI.bs
  rw [← HSE.out] at c0 bs
  have bsc:wr.cell? ⟨b,0,none⟩=some (.string ⟨s.toArray⟩):=by rw [Lib.cell_of_heap bs];rfl
  have hat:At s (shwAll (ps.drop k)) (offP ps k):=by rw [HSE.out];exact off_at ps k
  obtain ⟨i,hi⟩:∃ i,i=offP ps k:=⟨_,rfl⟩
  rw [← hi] at c1 hat
  have HI:=hid hI
  have HJK:=hid hJk
  have HII:=hid hi
  clear hI hJk hi bs
  rcases Nat.lt_or_ge k ps.length with hlt | hge
  ·obtain ⟨pc,hpc⟩:∃ pc,pc=ps[k]:=⟨_,rfl⟩
   obtain ⟨T,hT⟩:∃ T,T=shwAll (ps.drop (k+1)):=⟨_,rfl⟩
   have hpart:shwAll (ps.drop k)=pc.shw++T:=by rw [hpc,hT];exact drop_shw hlt
   have hpok:pc.ok scan=true:=by rw [hpc];exact (partsOk_at HOK.out hlt).1
   rw [hpart] at hat
   have hne:0<pc.shw.length:=by
    cases pc with
    | txt l=>
     have h:(!l.isEmpty && !l.contains 37)=true:=hpok
     cases l with
     | nil=>cases h
     | cons x l=>show 0<(x::l).length;rw [List.length_cons];omega
    | pct=>exact Nat.zero_lt_succ _
    | cnv a b c=>exact Nat.zero_lt_succ _
   have hil:i<s.length:=by have:=hat.len;rw [List.length_append] at this;omega
   have hilI:(i:Int)<(s.length:Int):=by omega
   obtain ⟨L,hL⟩:∃ L,L=pc.shw++T:=⟨_,rfl⟩
   rw [← hL] at hat
   have hext:(⟨s.toArray⟩:ByteArray).extract i s.length=⟨L.toArray⟩:=hat.all
   obtain ⟨m,hm⟩:∃ m,m=Lib.indexByte L 37:=⟨_,rfl⟩
   have hix:∀ w,Calls Tryz.prog 88 #[.string ⟨L.toArray⟩,.int .u8 37] w fun e w'=>e=.returned (.int .i64 m)∧w'=w:=fun w=>by
    rw [hm]
    exact Tryz.strings_IndexByte ⟨L.toArray⟩ 37 w
   have HIX:=hid hix
   have HAT:=hid hat
   have HL:=hid hL
   have HM:=hid hm
   have HPC:=hid hpc
   have HT:=hid hT
   have HPO:=hid hpok
   clear hix hat hL hm hpc hT hpok hpart hne
   go_wp2
   go_quiet (fail)
   obtain ⟨wq,hwq⟩:∃ wq,wq=wr.drewN nq:=⟨_,rfl⟩
   have hIq:ItSt scan ps b rb k W wq:=by rw [hwq];exact HI.out.on (OnlyS.low (OnlyS.drewN [] _ _) (Nat.le_refl _) (by simp))
   have hJq:J k wq:=by rw [hwq];exact HJ.out _ _ _ HJK.out (TurnA.of_below (OnlyS.low (OnlyS.drewN [] _ _) (Nat.le_refl _) (by simp)))
   rw [← hwq]
   clear hwq c0 c1 bsc
   have c0:=hIq.rd.c0
   have c1:=hIq.rd.c1
   have bs:=hIq.bs
   rw [← HSE.out] at c0 bs
   have bsc:wq.cell? ⟨b,0,none⟩=some (.string ⟨s.toArray⟩):=by rw [Lib.cell_of_heap bs];rfl
   rw [← HII.out] at c1
   have hbl:b<wq.heap.size:=(Array.getElem?_eq_some_iff.1 hIq.bs).1
   have hb1l:b+1<wq.heap.size:=(Array.getElem?_eq_some_iff.1 hIq.bq).1
   have hrl:rb<wq.heap.size:=hIq.rd.lt
   have HIQ:=hid hIq
   have HJQ:=hid hJq
   clear hIq hJq bs
   go_upto_if 30 with ((with_reducible refine (HIX.out _).mono ?_);rintro e w4 ⟨rfl,rfl⟩)
   refine at_wrld fun W3 hW3=>?_
   have hcv3:CvS W3 wq.heap.size (cvCells (i:Nat) [] [] 0 0 false false 0 false):=by rw [hW3];exact heap_alloc_new _ _
   have hbw:Below wq.heap.size wq W3:=by rw [hW3];exact belowN _ _
   have hI3:ItSt scan ps b rb k W W3:=HIQ.out.on hbw
   have hJ3:J k W3:=HJ.out _ _ _ HJQ.out (TurnA.of_below hbw)
   have hsz3:W3.heap.size=wq.heap.size+1:=by rw [hW3];simp
   obtain ⟨q,hq⟩:∃ q,q=wq.heap.size:=⟨_,rfl⟩
   rw [← hq] at hcv3 hbw hsz3 hbl hb1l hrl ⊢
   clear hW3 c0 c1 bsc
   have c0:=hI3.rd.c0
   have c1:=hI3.rd.c1
   have g1:=hI3.rd.f1
   have bs:=hI3.bs
   rw [← HSE.out] at c0 bs
   have bsc:W3.cell? ⟨b,0,none⟩=some (.string ⟨s.toArray⟩):=by rw [Lib.cell_of_heap bs];rfl
   have bqc:W3.cell? ⟨b+1,0,none⟩=some (.bool scan):=by rw [Lib.cell_of_heap hI3.bq];rfl
   rw [← HII.out] at c1
   have HQ:=hid hq
   have HCV3:=hid hcv3
   have HI3:=hid hI3
   have HJ3:=hid hJ3
   have HBW:=hid hbw
   have HSZ3:=hid hsz3
   clear hq hcv3 hI3 hJ3 hbw hsz3 bs HIX
   go_cut [] from 12 to 73 (fun wx=>SRd wx rb s (offP ps (k+1))∧CvS wx q (pcCells scan i pc)∧OnlyS [rb,q] W3 wx)
   case first=>as_aux_lemma=>
    have hnext:offP ps (k+1)=i+pc.shw.length:=by rw [HII.out,HPC.out];exact off_succ hlt
    have HNX:=hid hnext
    have hpq:rb≠q:=by omega
    clear hnext
    cases pc with
    | txt l=>
     obtain ⟨n,hn⟩:∃ n,n=l.length:=⟨_,rfl⟩
     have k1:=HCV3.out.cell 1 (v:=.string ⟨#[]⟩) rfl
     have g2:=HCV3.out.fz 1
     have hat:At s (l++T) i:=by have h9:=HAT.out;rw [HL.out] at h9;exact h9
     have hxt:(⟨s.toArray⟩:ByteArray).extract i (i+n)=⟨l.toArray⟩:=by rw [hn];exact hat.text
     have hlen:=hat.len
     rw [List.length_append,← hn] at hlen
     have hno:(37:UInt8) ∉ l:=by
      have h9:(!l.isEmpty && !l.contains 37)=true:=HPO.out
      simp at h9
      exact h9.2
     have hn0:0<n:=by
      have h9:(!l.isEmpty && !l.contains 37)=true:=HPO.out
      rw [hn]
      cases l with
      | nil=>cases h9
      | cons x l=>rw [List.length_cons];omega
     have HN:=hid hn
     have HRD3:=hid (show SRd W3 rb s i by have h9:=HI3.out.rd;rw [← HSE.out,← HII.out] at h9;exact h9)
     have hend:T=[]∧m = -1∧s.length=i+n∨m=(n:Int):=by
      rcases behind_txt HOK.out hlt HPC.out.symm with h9 | ⟨t9,h9⟩
      ·rw [← HT.out] at h9
       refine .inl ⟨h9,?_,by rw [h9] at hlen;simp at hlen;omega⟩
       rw [HM.out,HL.out,h9]
       show Lib.indexByte (l++[]) 37 = -1
       rw [List.append_nil]
       exact idx_none l hno
      ·rw [← HT.out] at h9
       refine .inr ?_
       rw [HM.out,HL.out,h9,hn]
       exact idx_app l t9 hno
     have HTL:=hid hlen
     have HXT:=hid hxt
     have hlen9:i+n≤s.length:=by omega
     clear hn hat hxt hlen hno
     rcases hend with ⟨hT0,rfl,hsl⟩ | rfl
     ·have hsz9:(⟨s.toArray⟩:ByteArray).size=i+n:=by rw [hsz,hsl]
      have hext9:(⟨s.toArray⟩:ByteArray).extract i (i+n)=⟨l.toArray⟩:=HXT.out
      have hlow9:i+n≤1000000:=by omega
      clear hT0 hsl hsz hilI hil hlen9 hs hext
      go_wp2
      go_meet
      case rel=>exact ⟨by rw [HNX.out];exact SRd.put (i:=i) (HRD3.out.other hpq _ _) _ (by show _=((i+l.length:Nat):Int);rw [← HN.out];omega),(HCV3.out.set 1 _).other (fun e=>hpq e.symm) _ _,(OnlyS.set (by simp) _).trans (OnlyS.set (by simp) _)⟩
     ·have hnI:(n:Int)≠0:=by omega
      have hnN:¬ ((n:Int)<0):=by omega
      have hnb:((n:Int) != 0)=true:=by rw [bne_iff_ne];exact hnI
      have hext9:(⟨s.toArray⟩:ByteArray).extract i (i+n)=⟨l.toArray⟩:=HXT.out
      have hti:((i:Int)+(n:Int)).toNat=i+n:=by omega
      go_wp2
      go_meet
      case rel=>exact ⟨by rw [HNX.out];exact SRd.put (i:=i) (HRD3.out.other hpq _ _) _ (by show _=((i+l.length:Nat):Int);rw [← HN.out];omega),(HCV3.out.set 1 _).other (fun e=>hpq e.symm) _ _,(OnlyS.set (by simp) _).trans (OnlyS.set (by simp) _)⟩
    | pct=>
     have hsc:scan=false:=by
      have h9:(!scan)=true:=HPO.out
      simpa using h9
     have hm0:m=0:=by rw [HM.out,HL.out];rfl
     subst hsc
     subst hm0
     have hat:At s (37::T) (i+1):=by have h9:=HAT.out;rw [HL.out] at h9;exact h9.tail
     have hrd4:SRd (W3.setCell ⟨rb,1,none⟩ (.int .i64 ((i:Int)+1))) rb s (i+1):=by
      have h9:=HI3.out.rd
      rw [← HSE.out,← HII.out] at h9
      exact SRd.put h9 _ (by omega)
     have hcv4:CvS (W3.setCell ⟨rb,1,none⟩ (.int .i64 ((i:Int)+1))) q (cvCells (i:Nat) [] [] 0 0 false false 0 false):=HCV3.out.other (fun e=>hpq e.symm) _ _
     have HWR:=hid (written_pct hrd4 hat hs hcv4 hpq)
     clear hat hrd4 hcv4
     go_wp2_with fail
     (with_reducible refine HWR.out.mono ?_);rintro e w5 ⟨rfl,h5,hc5,ho5⟩
     have H5:=hid h5
     have HC5:=hid hc5
     have HO5:=hid ((OnlyS.set (A:=[rb,q]) (w:=W3) (a:=⟨rb,1,none⟩) (by simp) (.int .i64 ((i:Int)+1))).trans ho5)
     clear h5 hc5 ho5
     go_wp2
     go_meet
     case rel=>exact ⟨by rw [HNX.out];exact H5.out,HC5.out,HO5.out⟩
    | cnv fl wd c=>
     have hcp:=cnvOk_p (scan:=scan) (fl:=fl) (wd:=wd) (c:=c) HPO.out
     have hm0:m=0:=by rw [HM.out,HL.out];rfl
     subst hm0
     have hat:At s (fl++(wd++c::T)) (i+1):=by
      have h9:=HAT.out
      rw [HL.out] at h9
      have h8:=h9.tail
      rw [show fl++(wd++c::T)=(fl++(wd++[c]))++T by simp]
      exact h8
     have hrd4:SRd (W3.setCell ⟨rb,1,none⟩ (.int .i64 ((i:Int)+1))) rb s (i+1):=by
      have h9:=HI3.out.rd
      rw [← HSE.out,← HII.out] at h9
      exact SRd.put h9 _ (by omega)
     have hcv4:CvS (W3.setCell ⟨rb,1,none⟩ (.int .i64 ((i:Int)+1))) q (cvCells (i:Nat) [] [] 0 0 false false 0 false):=HCV3.out.other (fun e=>hpq e.symm) _ _
     have hlen9:(Pc.cnv fl wd c).shw.length=1+(fl.length+wd.length+1):=by
      show (37::(fl++(wd++[c]))).length=_
      simp;omega
     cases scan with
     | false=>
      have HWR:=hid (written_cnv hrd4 hat hs hcv4 hpq hcp)
      have HLN:=hid hlen9
      clear hat hrd4 hcv4 hcp hlen9
      go_wp2_with fail
      (with_reducible refine HWR.out.mono ?_);rintro e w5 ⟨rfl,h5,hc5,ho5⟩
      have H5:=hid h5
      have HC5:=hid hc5
      have HO5:=hid ((OnlyS.set (A:=[rb,q]) (w:=W3) (a:=⟨rb,1,none⟩) (by simp) (.int .i64 ((i:Int)+1))).trans ho5)
      clear h5 hc5 ho5
      go_wp2
      go_meet
      case rel=>exact ⟨by rw [HNX.out,HLN.out,← Nat.add_assoc];exact H5.out,HC5.out,HO5.out⟩
     | true=>
      obtain ⟨rfl,rfl⟩:=hcp.bare rfl
      have HWR:=hid (read_cnv hrd4 hat hs hcv4 hpq hcp.letter)
      have HLN:=hid hlen9
      clear hat hrd4 hcv4 hcp hlen9
      go_wp2_with fail
      (with_reducible refine HWR.out.mono ?_);rintro e w5 ⟨rfl,h5,hc5,ho5⟩
      have H5:=hid h5
      have HC5:=hid hc5
      have HO5:=hid ((OnlyS.set (A:=[rb,q]) (w:=W3) (a:=⟨rb,1,none⟩) (by simp) (.int .i64 ((i:Int)+1))).trans ho5)
      clear h5 hc5 ho5
      go_wp2
      go_meet
      case rel=>exact ⟨by rw [HNX.out,HLN.out,← Nat.add_assoc];exact H5.out,HC5.out,HO5.out⟩
   have HCQ:=HCV3
   clear HCV3 c0 c1 g1 bsc bqc hilI hil hext HAT HL HM HPO
   obtain ⟨h4,hc4,ho4⟩:=hcut
   have hJ4:J k wc:=HJ.out _ _ _ HJ3.out (ho4.turnA (by
    intro x hx
    rcases List.mem_cons.1 hx with rfl | hx
    ·exact ⟨HI3.out.low,_,_,_,HI3.out.rd,by simp⟩
    ·rw [List.mem_singleton.1 hx]
     exact ⟨by have:=HI3.out.low;omega,_,_,_,HCQ.out,by simp⟩))
   have hI4:ItSt scan ps b rb (k+1) W wc:=⟨by rw [← HSE.out];exact h4,ho4.cells HI3.out.bs (by have:=HI3.out.low;simp;omega),ho4.cells HI3.out.bq (by have:=HI3.out.low;simp;omega),HI3.out.low⟩
   obtain ⟨fn,tmps,assign,body,hy,hR⟩:=HY.out k wc hJ4 hlt
   obtain ⟨tx,htx⟩:∃ tx,tx=pc.text:=⟨_,rfl⟩
   obtain ⟨fl,hfl⟩:∃ fl,fl=pc.flags:=⟨_,rfl⟩
   obtain ⟨wi,hwi⟩:∃ wi,wi=pc.width:=⟨_,rfl⟩
   obtain ⟨pr,hpr⟩:∃ pr,pr=pc.prec scan:=⟨_,rfl⟩
   obtain ⟨lt,hlt9⟩:∃ lt,lt=pc.letter:=⟨_,rfl⟩
   have henc:encP scan ps k=#[.agg (cvCells (i:Nat) tx fl wi pr false false lt false)]:=by
    unfold encP pcCells
    rw [← HII.out,List.getD_eq_getElem?_getD,List.getElem?_eq_getElem hlt,Option.getD_some,← HPC.out,htx,hfl,hwi,hpr,hlt9]
   have hcv4:CvS wc q (cvCells (i:Nat) tx fl wi pr false false lt false):=by
    rw [htx,hfl,hwi,hpr,hlt9]
    exact hc4
   rw [henc] at hy
   unfold cvCells at hy
   have q0:=hcv4.cell 0 (v:=.int .i64 (i:Nat)) rfl
   have q1:=hcv4.cell 1 (v:=.string ⟨tx.toArray⟩) rfl
   have q2:=hcv4.cell 2 (v:=.int .i64 0) rfl
   have q3:=hcv4.cell 3 (v:=.string ⟨fl.toArray⟩) rfl
   have q4:=hcv4.cell 4 (v:=.int .i64 wi) rfl
   have q5:=hcv4.cell 5 (v:=.int .i64 pr) rfl
   have q6:=hcv4.cell 6 (v:=.bool false) rfl
   have q7:=hcv4.cell 7 (v:=.bool false) rfl
   have q8:=hcv4.cell 8 (v:=.int .u8 (lt.toNat:Nat)) rfl
   have q9:=hcv4.cell 9 (v:=.bool false) rfl
   have q10:=hcv4.cell 10 (v:=.string ⟨#[]⟩) rfl
   have HR:=hid hR
   have HI4:=hid hI4
   clear hR hI4 hJ4 h4 hc4 ho4 htx hfl hwi hpr hlt9 henc hcv4
   go_upto_region 16 with fail
   go_cut [73] from 12 to 73 (fun v wx=>v=.bool false∧J (k+1) wx∧KeepT B convTs [b,b+1] wc wx)
   case first=>as_aux_lemma=>
    refine (wpIn_wide (n:=N)).1 ?_
    gi_wp2
    refine ⟨fun h=>by (cases h),?_⟩
    refine HR.out.mono ?_
    rintro e W5 ⟨rfl,hJ5,hk5⟩
    have HJ5:=hid hJ5
    have HK5:=hid hk5
    clear hJ5 hk5
    gi_wp2
    go_meet
    case rel=>exact ⟨rfl,HJ5.out,HK5.out⟩
   obtain ⟨rfl,hJ5,hk5⟩:=hcut
   have hI5:ItSt scan ps b rb (k+1) W wc:=⟨hk5.ts _ _ _ _ HI4.out.rd (by simp),(hk5.bx b (by simp)).trans HI4.out.bs,(hk5.bx (b+1) (by simp)).trans HI4.out.bq,HI4.out.low⟩
   have HJ5:=hid hJ5
   have HI5:=hid hI5
   clear hJ5 hk5 hI5 q0 q1 q2 q3 q4 q5 q6 q7 q8 q9 q10
   go_wp2
   go_roundg (ps.length-(k+1))
   case measure=>omega
   case rel=>exact ⟨k+1,hlt,HI5.out,HJ5.out,rfl⟩
  ·obtain rfl:k=ps.length:=by omega
   have hie:i=s.length:=by
    have h9:=hat.len
    rw [List.drop_eq_nil_of_le (Nat.le_refl _)] at h9
    exact h9
   have hin:¬ ((i:Int)<(s.length:Int)):=by omega
   have hdn:decide (i<s.length)=false:=decide_eq_false (by omega)
   clear hat hie
   go_wp2
   go_quiet (fail)
   go_wp2
   go_end0
   exact ⟨⟨_,rfl⟩,HJ.out _ _ _ HJK.out (TurnA.of_below (OnlyS.low (OnlyS.drewN [] _ _) (Nat.le_refl _) (by simp)))⟩
end Go.Proofs.YtbilphfbfnohmaaGreatDoor.Pz
namespace Go.Proofs.YtbilphfbfnohmaaGreatDoor.Pz
open Go.RowKit
set_option maxRecDepth 100000 in
theorem caught_idle (n:Nat) (p q:Addr) (w:World):CallsDIn Fence.wide n Tryz.prog 44 #[.pointer (some p),.pointer (some q)] .returning w fun e u' w'=>e=.returned (.tuple #[])∧u'=.returning∧Below w.heap.size w w':=by
 have hta:∀ w:World,(Instr.typeAssert .nilIface 20 85 true).run Tryz.prog w=.ok (.tuple #[.agg #[.int .i64 0,.int .i64 0],.bool false]) w:=fun _=>by kernel_rfl
 refine callsDIn_of_wpSIn Tryz.func44 rfl trivial fun c₀ cs hu=>?_
 apply wpSIn_seq
 apply wpSIn_region
 simp [wpOpsSIn,go_sem,recoverD,hu,Tryz.ntmps44,Exit.thenS,hta]
 refine wpSIn_of_wpIn rfl ?_
 rw [show Array.replicate 18 undef=#[undef,undef,undef,undef,undef,undef,undef,undef,undef,undef,undef,undef,undef,undef,undef,undef,undef,undef] from rfl]
 have HU:=hid hu
 clear hu hta
 gi_wp2
 have hu:=HU.out
 cases c₀
 simp only at hu
 subst hu
 clear HU
 simp [bodyPostS,results,Tryz.results44]
 exact belowS _ _
theorem format1_idle (n:Nat) {q:Nat} (p:Addr) {u:FrameMode} {w:World} (h:w.heap[q]? = some (.cells #[.int .i64 0] 22 (0,0))) :
  CallsDIn Fence.wide n Tryz.prog 43 #[.pointer (some ⟨q,0,none⟩),.pointer (some p)] u w fun e u' w'=>u'=u∧(e=.returned (.tuple #[])∧w'=w):=by
 have c0:w.cell? ⟨q,0,none⟩=some (.int .i64 0):=by rw [Lib.cell_of_heap h];rfl
 refine callsDIn_of_wp Tryz.func43 rfl trivial ?_
 simp only [Tryz.ntmps43,List.size_toArray,List.length_cons,List.length_nil,Nat.reduceAdd,Nat.reduceSub,Array.replicate_succ,Array.replicate_zero,List.push_toArray,List.append_toArray,List.nil_append,List.cons_append]
 gi_wp2
 go_end0
 exact ⟨rfl,rfl⟩
def FmtQ (out:Str) (w:World) (e:Ending) (w':World):Prop:=e=.returned (.tuple #[.string ⟨out.toArray⟩,.int .i64 0,.int .i64 0])∧Below w.heap.size w w'
set_option maxRecDepth 100000 in
theorem format_end {out:Str} {b D:Nat} {w W:World} {T:Array Value} (hb:b=w.heap.size) (hD:b+1+1<D) (h0:W.heap[b]? = some (.cells #[.string ⟨out.toArray⟩] 9 (0,0))) (h1:W.heap[b+1]? = some (.cells #[.int .i64 0] 3 (0,0)))
  (h2:W.heap[b+1+1]? = some (.cells #[.int .i64 0] 22 (0,0))) (hK:W.heap[D]? = some (.deferred (some []))) (hlow:Below b w W) (t4:T[4]? = some (.pointer (some ⟨b,0,none⟩))) (t5:T[5]? = some (.pointer (some ⟨b+1,0,none⟩))) (t6:T[6]? = some (.pointer (some ⟨b+1+1,0,none⟩))) :
  bodyPostM Fence.wide 5 Tryz.prog Tryz.f14 (FmtQ out w) Exit.ret { tmps:=T,defers:=[{ target:=.collected D,args:=#[] },{ target:=.fn (.func 44) #[],args:=#[.pointer (some ⟨b+1,0,none⟩),.pointer (some ⟨b+1+1,0,none⟩)] },
   { target:=.fn (.func 43) #[.pointer (some ⟨b+1+1,0,none⟩),.pointer (some ⟨b,0,none⟩)],args:=#[] }] } W:=by
 have hlt:b+1+1<W.heap.size:=(Array.getElem?_eq_some_iff.1 h2).1
 refine ⟨by simp,.inl ⟨_,_,rfl,run_takeDeferred hK,?_⟩⟩
 obtain ⟨W1,hW1⟩:∃ W1,W1=W.putObj D (.deferred none):=⟨_,rfl⟩
 have g0:W1.heap[b]? = some (.cells #[.string ⟨out.toArray⟩] 9 (0,0)):=by rw [hW1];exact (World.putObj_heap_other (by omega)).trans h0
 have g1:W1.heap[b+1]? = some (.cells #[.int .i64 0] 3 (0,0)):=by rw [hW1];exact (World.putObj_heap_other (by omega)).trans h1
 have g2:W1.heap[b+1+1]? = some (.cells #[.int .i64 0] 22 (0,0)):=by rw [hW1];exact (World.putObj_heap_other (by omega)).trans h2
 have hl1:Below b w W1:=by rw [hW1];exact hlow.trans ⟨rfl,rfl,rfl,by rw [World.putObj_size];exact Nat.le_refl _,fun k hk=>World.putObj_heap_other (by omega)⟩
 rw [← hW1]
 clear hW1 h0 h1 h2 hK hlow hlt
 refine ⟨by simp,.inr ⟨fun _=>by decide,.func 44,#[],44,#[.pointer (some ⟨b+1,0,none⟩),.pointer (some ⟨b+1+1,0,none⟩)],rfl,?_,fun _ _=>trivial,?_⟩⟩
 ·simp [invoke,go_sem]
 refine (caught_idle _ _ _ _).mono ?_
 rintro e u' W2 ⟨rfl,rfl,hb2⟩
 have k0:=(hb2.block _ (Array.getElem?_eq_some_iff.1 g0).1).trans g0
 have k1:=(hb2.block _ (Array.getElem?_eq_some_iff.1 g1).1).trans g1
 have k2:=(hb2.block _ (Array.getElem?_eq_some_iff.1 g2).1).trans g2
 have hl2:Below b w W2:=hl1.trans (hb2.mono (by have:=(Array.getElem?_eq_some_iff.1 g0).1;omega))
 clear g0 g1 g2 hl1 hb2
 refine ⟨by simp [settle],.inr ⟨fun _=>by decide,.func 43,#[.pointer (some ⟨b+1+1,0,none⟩),.pointer (some ⟨b,0,none⟩)],43,#[.pointer (some ⟨b+1+1,0,none⟩),.pointer (some ⟨b,0,none⟩)],rfl,?_,fun _ _=>trivial,?_⟩⟩
 ·simp [invoke,go_sem]
 refine (format1_idle _ _ k2).mono ?_
 rintro e u' W3 ⟨rfl,rfl,rfl⟩
 have c0:W3.cell? ⟨b,0,none⟩=some (.string ⟨out.toArray⟩):=by rw [Lib.cell_of_heap k0];rfl
 have c1:W3.cell? ⟨b+1,0,none⟩=some (.int .i64 0):=by rw [Lib.cell_of_heap k1];rfl
 have c2:W3.cell? ⟨b+1+1,0,none⟩=some (.int .i64 0):=by rw [Lib.cell_of_heap k2];rfl
 refine ⟨.tuple #[.string ⟨out.toArray⟩,.int .i64 0,.int .i64 0],?_,rfl,by rw [← hb];exact hl2⟩
 simp [results,Tryz.results14,asAddr,go_sem,c0,c1,c2,t4,t5,t6]
end Go.Proofs.YtbilphfbfnohmaaGreatDoor.Pz
namespace Go.Proofs.YtbilphfbfnohmaaGreatDoor.Pz
open Go.RowKit
theorem len_fn {w:World} {b:Nat} {l:Str} (h:Bld w b l) :
  Calls Tryz.prog 51 #[.pointer (some ⟨b,0,none⟩)] w fun e w'=>e=.returned (.int .i64 (l.length:Nat))∧w'=w:=by
 obtain ⟨p,_,hB,v,hbk,hown,hne⟩:=h.at
 rw [Lib.byteCells_length] at hown
 obtain ⟨ao,cap,rfl⟩:∃ ao cap,v=.slice ao l.length cap:=by
  rcases hown.2 with ⟨hv,h0⟩ | ⟨g,cap,cur,fz,hv,_⟩
  ·exact ⟨none,0,by rw [hv,h0]⟩
  ·exact ⟨_,_,hv⟩
 have c1:w.cell? ⟨b,1,none⟩=some (.slice ao l.length cap):=by rw [Lib.cell_of_heap hbk];rfl
 clear hown hne hbk
 go_enter Tryz.func51,Tryz.ntmps51
 go_wp2
 go_ret
 exact ⟨rfl,rfl⟩
def cntC:List Pc→Nat
 | []=>0
 | .cnv _ _ _::ps=>cntC ps+1
 | .txt _::ps=>cntC ps
 | .pct::ps=>cntC ps
theorem cntC_app:∀ (a b:List Pc),cntC (a++b)=cntC a+cntC b
 | [],b=>by show cntC b=0+cntC b;omega
 | .cnv _ _ _::a,b=>by show cntC (a++b)+1=cntC a+1+cntC b;rw [cntC_app a b];omega
 | .txt _::a,b=>cntC_app a b
 | .pct::a,b=>cntC_app a b
def pcOut (pc:Pc) (arg:Str):Str×Int:=match pc with
 | .txt l=>(l,0)
 | .pct=>([37],0)
 | .cnv fl wd c=>writeE fl (numE wd) (-1) c arg
def argC (ps:List Pc) (l:List Str) (k:Nat):Str:=l.getD (cntC (ps.take k)) []
def outF (ps:List Pc) (l:List Str):Nat→Str
 | 0=>[]
 | k+1=>outF ps l k++(pcOut (ps.getD k .pct) (argC ps l k)).1
theorem outF_mono (ps:List Pc) (l:List Str) (k:Nat):∀ j,(outF ps l k).length≤(outF ps l (k+j)).length
 | 0=>Nat.le_refl _
 | j+1=>by
  refine Nat.le_trans (outF_mono ps l k j) ?_
  show _≤(outF ps l (k+j)++_).length
  rw [List.length_append]
  omega
theorem Bld.turn {w w':World} {b B:Nat} {l:Str} (h:Bld w b l) (ht:TurnO convTs B w w'):Bld w' b l:=by
 have go:∀ p,Lib.BuilderAtF 73 5 b b p (Lib.byteCells l) w→Lib.BuilderAtF 73 5 b b p (Lib.byteCells l) w':=by
  intro p h
  obtain ⟨hB,v,hb,hown,hne⟩:=h
  refine ⟨hB,v,ht.cells hb (by decide),⟨hown.1,?_⟩,hne⟩
  rcases hown.2 with hn | ⟨g,cap,cur,fz,hv,hbg,hg,rest⟩
  ·exact .inl hn
  ·exact .inr ⟨g,cap,cur,fz,hv,hbg,ht.cells hg (by decide),rest⟩
 exact h.elim (fun x=>.inl (go _ x)) (fun x=>.inr (go _ x))
theorem Bld.cells {w:World} {b:Nat} {l:Str} (h:Bld w b l):∃ cs,w.heap[b]? = some (.cells cs 73 (0,0)):=by
 obtain ⟨p,_,hB,v,hb,_⟩:=h.at
 exact ⟨_,hb⟩
theorem Bld.setCell {w:World} {b g i:Nat} {l:Str} (h:Bld w b l) {cs:Array Value} {t:TypeId} {fz:Nat×Nat} (hg:w.heap[g]? = some (.cells cs t fz)) (h1:t≠73) (h2:t≠5) (v:Value):Bld (w.setCell ⟨g,i,none⟩ v) b l:=by
 have ne:∀ {k:Nat} {cs':Array Value} {t':TypeId} {fz':Nat×Nat},t'≠t→w.heap[k]? = some (.cells cs' t' fz')→(w.setCell ⟨g,i,none⟩ v).heap[k]? = some (.cells cs' t' fz'):=by
  intro k cs' t' fz' hne hk
  refine (Below.heap_setCell _ _ _ _ ?_).trans hk
  rintro rfl
  rw [hg] at hk
  cases hk
  exact hne rfl
 have go:∀ p,Lib.BuilderAtF 73 5 b b p (Lib.byteCells l) w→Lib.BuilderAtF 73 5 b b p (Lib.byteCells l) (w.setCell ⟨g,i,none⟩ v):=by
  intro p h
  obtain ⟨hB,v',hb,hown,hne⟩:=h
  refine ⟨hB,v',ne (fun e=>h1 e.symm) hb,⟨hown.1,?_⟩,hne⟩
  rcases hown.2 with hn | ⟨g',cap,cur,fz',hv,hbg,hg',rest⟩
  ·exact .inl hn
  ·exact .inr ⟨g',cap,cur,fz',hv,hbg,ne (fun e=>h2 e.symm) hg',rest⟩
 exact h.elim (fun x=>.inl (go _ x)) (fun x=>.inr (go _ x))
structure StepF (A:List Nat) (B:Nat) (W W':World):Prop where
 low:Below B W W'
 keep:∀ (k:Nat) (o:Obj),W.heap[k]? = some o→k ∉ A→(∀ c fz,o≠.cells c 5 fz)→W'.heap[k]? = some o
section
variable {A:List Nat} {B:Nat} {X Y Z:World}
theorem StepF.refl (A:List Nat) (B:Nat) (X:World):StepF A B X X:=⟨Below.refl _ _,fun _ _ h _ _=>h⟩
theorem StepF.trans (h:StepF A B X Y) (k:StepF A B Y Z):StepF A B X Z:=⟨h.low.trans k.low,fun i o hi hA hu=>k.keep i o (h.keep i o hi hA hu) hA hu⟩
theorem StepF.of_below (h:Below X.heap.size X Y) (hB:B≤X.heap.size):StepF A B X Y:=⟨h.mono hB,fun k _ hk _ _=>(h.block k (Array.getElem?_eq_some_iff.1 hk).1).trans hk⟩
theorem StepF.of_only {A':List Nat} (h:OnlyS A' X Y) (hA:∀ k∈A',k∈A) (hB:∀ k∈A',B≤k) (hX:B≤X.heap.size):StepF A B X Y:=
 ⟨h.low hX hB,fun k _ hk hn _=>(h.block k (Array.getElem?_eq_some_iff.1 hk).1 fun e=>hn (hA k e)).trans hk⟩
theorem StepF.of_kept {b:Nat} (h:Kept b X Y) (hA:b∈A) (hB:B≤b):StepF A B X Y:=
 ⟨h.1.mono hB,fun k o hk hn hu=>h.2 k o hk (fun e=>hn (by rw [Option.some.inj e];exact hA)) hu⟩
theorem StepF.cells (h:StepF A B X Y) {k:Nat} {cs:Array Value} {t:TypeId} {fz:Nat×Nat} (hk:X.heap[k]? = some (.cells cs t fz)) (hA:k ∉ A) (ht:t≠5):Y.heap[k]? = some (.cells cs t fz):=
 h.keep k _ hk hA fun c f e=>by cases e;exact ht rfl
theorem StepF.keeps {M:Nat} (h:StepF A B X Y) (hA:∀ k∈A,∃ cs t fz,X.heap[k]? = some (.cells cs t fz)∧t ∉ convTs):KeepsFrom M X Y:=
 ⟨h.low.size,fun k o _ hk ho=>h.keep k o hk (fun e=>by
  obtain ⟨cs,t,fz,h1,_⟩:=hA k e
  rw [hk] at h1
  cases h1
  cases ho) fun c fz e=>by rw [e] at ho;cases ho⟩
theorem StepF.keepT {Bx:List Nat} (h:StepF A B X Y) (hA:∀ k∈A,∃ cs t fz,X.heap[k]? = some (.cells cs t fz)∧t ∉ convTs) (hx:∀ k∈Bx,k ∉ A∧∃ cs t fz,X.heap[k]? = some (.cells cs t fz)∧t≠5):KeepT B convTs Bx X Y:=
 ⟨h.low,fun k cs t fz hk ht=>h.cells hk (fun e=>by
  obtain ⟨cs',t',fz',h1,h2⟩:=hA k e
  rw [hk] at h1
  cases h1
  exact h2 ht) (by rintro rfl;exact absurd ht (by decide)),fun k hk=>by
  obtain ⟨h1,cs,t,fz,h2,h3⟩:=hx k hk
  rw [h2]
  exact h.cells h2 h1 h3⟩
end
structure FSt (s:Str) (av:Value) (B m ab q:Nat) (w:World) (cnt:Nat) (out:Str) (W:World):Prop where
 num:B+1+1<m∧m<q∧B+1+1<ab∧ab+1<q∧q+7≤W.heap.size
 rs:W.heap[B]? = some (.cells #[.string ⟨#[]⟩] 9 (0,0))
 pt:W.heap[B+1]? = some (.cells #[.int .i64 0] 3 (0,0))
 er:W.heap[B+1+1]? = some (.cells #[.int .i64 0] 22 (0,0))
 lt:W.heap[q]? = some (.cells #[.map (some m)] 67 (0,0))
 wm:WMap W m 8 wrF
 tk:W.heap[q+1]? = some (.cells #[.func (.func 86) #[] #[.pointer (some ⟨ab+1,0,none⟩),.pointer (some ⟨ab,0,none⟩)]] 54 (0,0))
 ts:TkS W ab av cnt
 bd:Bld W (q+2) out
 pl:W.heap[q+3]? = some (.cells #[.bool false] 4 (0,0))
 ot:∃ v:Bool,W.heap[q+4]? = some (.cells #[.bool v] 4 (0,0))
 bs:W.heap[q+5]? = some (.cells #[.string ⟨s.toArray⟩] 9 (0,0))
 bq:W.heap[q+6]? = some (.cells #[.bool false] 4 (0,0))
 low:Below B w W
section
variable {s:Str} {av:Value} {B m ab q:Nat} {w:World} {cnt:Nat} {out:Str} {W W':World}
theorem FSt.below (h:FSt s av B m ab q w cnt out W) (hb:Below W.heap.size W W'):FSt s av B m ab q w cnt out W':=by
 obtain ⟨n1,n2,n3,n4,n5⟩:=h.num
 obtain ⟨v,hv⟩:=h.ot
 have o:∀ k,k<q+7→W'.heap[k]? = W.heap[k]?:=fun k hk=>hb.block k (by omega)
 exact ⟨⟨n1,n2,n3,n4,Nat.le_trans n5 hb.size⟩,(o _ (by omega)).trans h.rs,(o _ (by omega)).trans h.pt,(o _ (by omega)).trans h.er,(o _ (by omega)).trans h.lt,h.wm.of (o _ (by omega)),(o _ (by omega)).trans h.tk,
  ⟨(o _ (by omega)).trans h.ts.args,(o _ (by omega)).trans h.ts.next⟩,h.bd.below hb,(o _ (by omega)).trans h.pl,⟨v,(o _ (by omega)).trans hv⟩,(o _ (by omega)).trans h.bs,(o _ (by omega)).trans h.bq,h.low.trans (hb.mono (by omega))⟩
theorem FSt.built (h:FSt s av B m ab q w cnt out W) {out':Str} (hb:Bld W' (q+2) out') (hk:Kept (q+2) W W'):FSt s av B m ab q w cnt out' W':=by
 obtain ⟨n1,n2,n3,n4,n5⟩:=h.num
 obtain ⟨v,hv⟩:=h.ot
 have o:∀ k,k<q+2→W'.heap[k]? = W.heap[k]?:=fun k hk2=>hk.1.block k hk2
 have c:∀ {k:Nat} {cs:Array Value} {t:TypeId} {fz:Nat×Nat},W.heap[k]? = some (.cells cs t fz)→k≠q+2→t≠5→W'.heap[k]? = some (.cells cs t fz):=fun {k cs t fz} h1 h2 h3=>
  hk.2 k _ h1 (fun e=>h2 (Option.some.inj e)) fun c f e=>by cases e;exact h3 rfl
 exact ⟨⟨n1,n2,n3,n4,Nat.le_trans n5 hk.1.size⟩,(o _ (by omega)).trans h.rs,(o _ (by omega)).trans h.pt,(o _ (by omega)).trans h.er,(o _ (by omega)).trans h.lt,h.wm.of (o _ (by omega)),(o _ (by omega)).trans h.tk,
  ⟨(o _ (by omega)).trans h.ts.args,(o _ (by omega)).trans h.ts.next⟩,hb,c h.pl (by omega) (by decide),⟨v,c hv (by omega) (by decide)⟩,c h.bs (by omega) (by decide),c h.bq (by omega) (by decide),h.low.trans (hk.1.mono (by omega))⟩
theorem FSt.next (h:FSt s av B m ab q w cnt out W) {cnt':Nat} (ht:TkS W' ab av cnt') (ho:OnlyS [ab+1] W W') (hbd:Bld W' (q+2) out):FSt s av B m ab q w cnt' out W':=by
 obtain ⟨n1,n2,n3,n4,n5⟩:=h.num
 obtain ⟨v,hv⟩:=h.ot
 have o:∀ k,k<q+7→k≠ab+1→W'.heap[k]? = W.heap[k]?:=fun k hk hne=>ho.block k (by omega) (by simpa using hne)
 have hwm:WMap W' m 8 wrF:=by
  by_cases hm:m=ab+1
  ·exfalso
   obtain ⟨D,⟨es,clock,h1,_⟩,_⟩:=h.wm
   have h2:=h.ts.next
   rw [← hm,h1] at h2
   cases h2
  ·exact h.wm.of (o _ (by omega) hm)
 exact ⟨⟨n1,n2,n3,n4,Nat.le_trans n5 ho.size⟩,(o _ (by omega) (by omega)).trans h.rs,(o _ (by omega) (by omega)).trans h.pt,(o _ (by omega) (by omega)).trans h.er,(o _ (by omega) (by omega)).trans h.lt,hwm,(o _ (by omega) (by omega)).trans h.tk,
  ht,hbd,(o _ (by omega) (by omega)).trans h.pl,⟨v,(o _ (by omega) (by omega)).trans hv⟩,(o _ (by omega) (by omega)).trans h.bs,(o _ (by omega) (by omega)).trans h.bq,h.low.trans (ho.low (by omega) (by simp;omega))⟩
theorem FSt.marks (h:FSt s av B m ab q w cnt out W):FSt s av B m ab q w cnt out ((W.setCell ⟨q+1+1+1,0,none⟩ (.bool false)).setCell ⟨q+1+1+1+1,0,none⟩ (.bool true)).drew:=by
 obtain ⟨n1,n2,n3,n4,n5⟩:=h.num
 obtain ⟨v,hv⟩:=h.ot
 have o:∀ k,k≠q+3→k≠q+4→((W.setCell ⟨q+1+1+1,0,none⟩ (.bool false)).setCell ⟨q+1+1+1+1,0,none⟩ (.bool true)).drew.heap[k]? = W.heap[k]?:=fun k h3 h4=>
  (Below.heap_setCell _ _ _ _ (by exact h4)).trans (Below.heap_setCell _ _ _ _ (by exact h3))
 have z3:(W.setCell ⟨q+1+1+1,0,none⟩ (.bool false)).heap[q+3]? = some (.cells #[.bool false] 4 (0,0)):=by
  have hp:=h.pl
  simp [World.setCell,Array.getElem?_modify,hp]
 have z4':(W.setCell ⟨q+1+1+1,0,none⟩ (.bool false)).heap[q+4]? = some (.cells #[.bool v] 4 (0,0)):=(Below.heap_setCell _ _ _ _ (by show q+4≠q+3;omega)).trans hv
 have z4:((W.setCell ⟨q+1+1+1,0,none⟩ (.bool false)).setCell ⟨q+1+1+1+1,0,none⟩ (.bool true)).heap[q+4]? = some (.cells #[.bool true] 4 (0,0)):=by
  simp [World.setCell,Array.getElem?_modify] at z4' ⊢
  simp [z4']
 have z3':((W.setCell ⟨q+1+1+1,0,none⟩ (.bool false)).setCell ⟨q+1+1+1+1,0,none⟩ (.bool true)).heap[q+3]? = some (.cells #[.bool false] 4 (0,0)):=(Below.heap_setCell _ _ _ _ (by show q+3≠q+4;omega)).trans z3
 have hb1:Bld (W.setCell ⟨q+1+1+1,0,none⟩ (.bool false)) (q+2) out:=h.bd.setCell h.pl (by decide) (by decide) _
 have hb2:=hb1.setCell (i:=0) z4' (by decide) (by decide) (.bool true)
 exact ⟨⟨n1,n2,n3,n4,by show q+7≤(((W.setCell _ _).setCell _ _).drew).heap.size;simpa [World.setCell] using n5⟩,(o _ (by omega) (by omega)).trans h.rs,(o _ (by omega) (by omega)).trans h.pt,(o _ (by omega) (by omega)).trans h.er,(o _ (by omega) (by omega)).trans h.lt,h.wm.of (o _ (by omega) (by omega)),(o _ (by omega) (by omega)).trans h.tk,
  ⟨(o _ (by omega) (by omega)).trans h.ts.args,(o _ (by omega) (by omega)).trans h.ts.next⟩,hb2.below (Below.refl _ _).drew,z3',⟨true,z4⟩,(o _ (by omega) (by omega)).trans h.bs,(o _ (by omega) (by omega)).trans h.bq,((h.low.setCell (by show B≤q+1+1+1;omega) _).setCell (by show B≤q+1+1+1+1;omega) _).drew⟩
theorem FSt.own {M:Nat} (hM:q+7≤M) (f:Nat→Nat) (g:Nat→Str):OwnT convTs M (fun (k:Nat) W=>FSt s av B m ab q w (f k) (g k) W):=by
 intro k X Y h ht
 obtain ⟨n1,n2,n3,n4,n5⟩:=h.num
 obtain ⟨v,hv⟩:=h.ot
 have o:∀ k,k<q+7→Y.heap[k]? = X.heap[k]?:=fun k hk=>by
  have hk2:k<X.heap.size:=by omega
  rw [Array.getElem?_eq_getElem hk2]
  exact ht.block k _ (Array.getElem?_eq_getElem hk2) (.inl (by omega))
 exact ⟨⟨n1,n2,n3,n4,Nat.le_trans n5 ht.size⟩,(o _ (by omega)).trans h.rs,(o _ (by omega)).trans h.pt,(o _ (by omega)).trans h.er,(o _ (by omega)).trans h.lt,h.wm.of (o _ (by omega)),(o _ (by omega)).trans h.tk,
  ⟨(o _ (by omega)).trans h.ts.args,(o _ (by omega)).trans h.ts.next⟩,h.bd.turn ht,(o _ (by omega)).trans h.pl,⟨v,(o _ (by omega)).trans hv⟩,(o _ (by omega)).trans h.bs,(o _ (by omega)).trans h.bq,h.low.trans ⟨ht.os,ht.tape,ht.output,ht.size,fun k hk=>o k (by omega)⟩⟩
end
end Go.Proofs.YtbilphfbfnohmaaGreatDoor.Pz
namespace Go.Proofs.YtbilphfbfnohmaaGreatDoor.Pz
open Go.RowKit
section
variable {P:Program} {ops:Array Oper} {Q:Exit→Act→World→Prop} {md:Region.Mode} {l n:Nat}
theorem rows_round {row:String} {args:Array Value} {w:World} {R:Value→World→Prop} (h:Rows P row args w R):RowsIn (Fence.wide.inRound l) n P row args w R:=
 fun c cs _=>let ⟨v,w',r,s⟩:=h c cs;⟨v,w',r,stepsIn_wide.2 s⟩
theorem calls_round {f:FuncId} {args:Array Value} {w:World} {R:Ending→World→Prop} (h:Calls P f args w R):CallsIn (Fence.wide.inRound l) n P f args w R:=
 CallsIn.inRound l (callsIn_wide.2 h)
theorem oper_round {o:Oper} {a:Act} {w:World} {K:Act→World→Prop} (hd:∀ c,o.op≠.defer c) (h:o.wp P a w K Q):o.wpIn (Fence.wide.inRound l) n P a w K Q:=by
 refine ⟨fun _ _=>trivial,?_⟩
 rw [Oper.semAt_eq _ _ _ hd]
 unfold Oper.wp at h
 generalize (execOp a.eval o).run P w=r at h ⊢
 cases r with
 | ok x w'=>
  cases x with
  | value v=>exact h
  | skip=>exact h
  | defer d=>exact h
  | enter f args=>exact ⟨fun h9=>by simp [Fence.wide] at h9,calls_round h⟩
  | row r args=>exact ⟨fun h9=>by simp [Fence.wide] at h9,rows_round h⟩
  | _=>exact h.elim
 | halt x w'=>
  cases x with
  | panic v=>exact h
  | _=>exact h.elim
def noDefer (ops:Array Oper):Bool:=ops.all fun o=>match o.op with | .defer _=>false | _=>true
theorem noDefer_spec (h:noDefer ops=true) {i:Nat} {o:Oper} (hi:ops[i]? = some o) (c):o.op≠.defer c:=by
 intro he
 have h1:=Array.all_eq_true_iff_forall_mem.1 h o (Array.mem_of_getElem? hi)
 rw [he] at h1
 cases h1
theorem wpOp_round (hno:∀ a w,¬ Q .outgrown a w) (hd:noDefer ops=true) {i:Nat} {a:Act} {w:World} {K:Act→World→Prop} (h:wpOp P ops Q i K a w):wpOpIn (Fence.wide.inRound l) n P ops Q i K a w:=by
 unfold wpOp at h
 unfold wpOpIn
 cases hi:ops[i]? with
 | none=>rw [hi] at h;exact h
 | some o=>
  rw [hi] at h
  dsimp only at h ⊢
  split
  ·rename_i hw
   rw [if_pos hw] at h
   exact oper_round (noDefer_spec hd hi) (h.resolve_right fun ⟨_,a,w,h9⟩=>hno a w h9)
  ·rename_i hw
   rw [if_neg hw] at h
   exact ⟨fun _ _=>trivial,h⟩
theorem any_round (hno:∀ a w,¬ Q .outgrown a w) (hd:noDefer ops=true):∀ (fuel:Nat) (listed:Array Bool) (a:Act) (w:World),wpAny P md ops Q fuel listed a w→wpAnyIn (Fence.wide.inRound l) n P md ops Q fuel listed a w
 | 0,_,_,_,h=>h
 | fuel+1,_,_,_,h=>⟨h.1,fun i hi=>wpOp_round hno hd (wpOp_mono (fun b u k=>any_round hno hd fuel _ b u k) (h.2 i hi))⟩
theorem U_beginR {late:Nat→Bool} {S:World→Prop} {id:Nat} {a:Act} {w:World} (hno:∀ a w,¬ Q .outgrown a w) (hd:noDefer ops=true) (hm:P.follows .mixedOrders=true) (h:anyU P .any ops Q late S ops.size (Array.replicate ops.size false) a w.drew) :
  (Code.region id ops true).wpIn (Fence.wide.inRound l) n P Q a w:=
 wpIn_region_any hm (any_round hno hd _ _ _ _ (any_of_U _ _ _ _ h))
end
end Go.Proofs.YtbilphfbfnohmaaGreatDoor.Pz
namespace Go.Proofs.YtbilphfbfnohmaaGreatDoor.Pz
open Go.RowKit Go.Shelf
attribute [local go_sem] Oper.semAt_some
theorem at_callsIn {F:Fence} {n:Nat} {P:Program} {f:FuncId} {args:Array Value} {w:World} {R:Ending→World→Prop} (h:∀ W,W=w→CallsIn F n P f args W R):CallsIn F n P f args w R:=h w rfl
def CutP (A:Act) (w1:World):Exit→Act→World→Prop
 | .normal,a,w=>a=A∧w=w1
 | _,_,_=>False
theorem cut_region {F:Fence} {n:Nat} {P:Program} {c:Code} {Q:Exit→Act→World→Prop} {a:Act} {w:World} {A:Act} {w1:World} (h:c.wpIn F n P (CutP A w1) a w) (hr:Q .normal A w1):c.wpIn F n P Q a w:=by
 refine wpIn_mono h ?_
 rintro e a' w' hp
 cases e with
 | normal=>obtain ⟨rfl,rfl⟩:=hp;exact hr
 | _=>exact hp.elim
theorem heap_set1 {W:World} {g:Nat} {u:Value} {T:TypeId} (h:W.heap[g]? = some (.cells #[u] T (0,0))) (x:Value):(W.setCell ⟨g,0,none⟩ x).heap[g]? = some (.cells #[x] T (0,0)):=by
 simp [World.setCell,Array.getElem?_modify,h]
theorem heap_setO (W:World) {g k:Nat} (h:k≠g) (x:Value):(W.setCell ⟨g,0,none⟩ x).heap[k]? = W.heap[k]?:=Below.heap_setCell _ _ _ _ (by exact h)
theorem five_new (X:World) (o0 o1 o2 o3 o4:Obj) {Y:World} (hY:Y=((((X.alloc o0).alloc o1).alloc o2).alloc o3).alloc o4) :
  Y.heap[X.heap.size]? = some o0∧Y.heap[X.heap.size+1]? = some o1∧Y.heap[X.heap.size+2]? = some o2∧Y.heap[X.heap.size+3]? = some o3∧Y.heap[X.heap.size+4]? = some o4∧Y.heap.size=X.heap.size+5∧Below X.heap.size X Y:=by
 subst hY
 have z0:=heap_alloc_new X o0
 have z1:=heap_alloc_new (X.alloc o0) o1
 have z2:=heap_alloc_new ((X.alloc o0).alloc o1) o2
 have z3:=heap_alloc_new (((X.alloc o0).alloc o1).alloc o2) o3
 have z4:=heap_alloc_new ((((X.alloc o0).alloc o1).alloc o2).alloc o3) o4
 simp only [World.size_alloc] at z1 z2 z3 z4
 refine ⟨?_,?_,?_,?_,z4,by simp,?_⟩
 ·rw [Below.heap_alloc _ _ _ (by simp<;>omega),Below.heap_alloc _ _ _ (by simp<;>omega),Below.heap_alloc _ _ _ (by simp<;>omega),Below.heap_alloc _ _ _ (by simp)]
  exact z0
 ·rw [Below.heap_alloc _ _ _ (by simp<;>omega),Below.heap_alloc _ _ _ (by simp<;>omega),Below.heap_alloc _ _ _ (by simp)]
  exact z1
 ·rw [Below.heap_alloc _ _ _ (by simp<;>omega),Below.heap_alloc _ _ _ (by simp)]
  exact z2
 ·rw [Below.heap_alloc _ _ _ (by simp)]
  exact z3
 ·exact (((((Below.refl _ _).alloc (Nat.le_refl _) _).alloc (by simp) _).alloc (by simp<;>omega) _).alloc (by simp<;>omega) _).alloc (by simp<;>omega) _
theorem isLet_write {c:UInt8} (h:isLet false c=true):c=115∨c=113∨(c≠115∧c≠113∧wrF c=((59:Nat):Int)):=by
 have h1:c=100∨c=120∨c=111∨c=98∨c=115∨c=88∨c=113:=by
  unfold isLet at h
  simpa [or_assoc] using h
 rcases h1 with rfl | rfl | rfl | rfl | rfl | rfl | rfl
 ·exact .inr (.inr ⟨by decide,by decide,by decide⟩)
 ·exact .inr (.inr ⟨by decide,by decide,by decide⟩)
 ·exact .inr (.inr ⟨by decide,by decide,by decide⟩)
 ·exact .inr (.inr ⟨by decide,by decide,by decide⟩)
 ·exact .inl rfl
 ·exact .inr (.inr ⟨by decide,by decide,by decide⟩)
 ·exact .inr (.inl rfl)
theorem write_fn {A wd:Int} {tx fl:Str} {c:UInt8} (hl:isLet false c=true) (arg:Str) (ha:arg.length≤100000) (hw1:-1≤wd) (hw2:wd≤1000) :
  ∃ F:Nat,wrF c=(F:Int)∧(∀ args w,(callFunc F args).run Tryz.prog w=.ok (.enter F args) w)∧∀ W,(c=113→ML W)→Calls Tryz.prog F #[.agg #[.int .i64 A,.string ⟨tx.toArray⟩,.int .i64 0,.string ⟨fl.toArray⟩,.int .i64 wd,.int .i64 (-1),.bool false,.bool false,.int .u8 (c.toNat:Nat),.bool false,.string ⟨#[]⟩],.string ⟨arg.toArray⟩] W fun e w'=>
   e=.returned (.tuple #[.string ⟨(writeE fl wd (-1) c arg).1.toArray⟩,.int .i64 (writeE fl wd (-1) c arg).2])∧Below W.heap.size W w':=by
 rcases isLet_write hl with rfl | rfl | ⟨h1,h2,h3⟩
 ·exact ⟨84,by decide,enters_of Tryz.func84 (by kernel_rfl) rfl,fun W _=>texted_s arg ha (by decide) hw1 hw2 (by decide) W⟩
 ·exact ⟨84,by decide,enters_of Tryz.func84 (by kernel_rfl) rfl,fun W hm=>texted_q arg ha (by decide) hw1 hw2 rfl W (hm rfl)⟩
 ·refine ⟨59,h3,enters_of Tryz.func59 (by kernel_rfl) rfl,fun W _=>?_⟩
  have he:writeE fl wd (-1) c arg=numberE fl wd (-1) c arg:=by unfold writeE;rw [if_neg h1,if_neg h2]
  rw [he]
  exact cnumber_fn arg (by omega) (by decide) (by decide) hw1 hw2 W
theorem numE_bound {scan:Bool} {fl wd:Str} {c:UInt8} (h:CnvP scan fl wd c):-1≤numE wd∧numE wd≤1000:=by
 unfold numE
 split
 ·exact ⟨by decide,by decide⟩
 ·have h1:=numGo_lt wd 0 h.digits
  have h2:10 ^ wd.length≤10 ^ 3:=Nat.pow_le_pow_right (by decide) h.three
  have h3:(10:Nat) ^ 3=1000:=rfl
  omega
set_option maxRecDepth 1000000 in
set_option maxHeartbeats 4000000 in
theorem format_fn {ps:List Pc} (hok:partsOk false ps=true) {l:List Str} {av:Value} (w:World) (hs:(shwAll ps).length≤100000) (hl:l.length≤100000) (hla:∀ x∈l,x.length≤100000) (hav:StrsAt w av l) (hargs:cntC ps≤l.length)
  (herr:∀ k,k<ps.length→(pcOut (ps.getD k .pct) (argC ps l k)).2=0) (hout:(outF ps l ps.length).length≤65536) (hml:(∃ fl wd,Pc.cnv fl wd 113∈ps)→ML w) :
  Calls Tryz.prog 14 #[.string ⟨(shwAll ps).toArray⟩,av] w (FmtQ (outF ps l ps.length) w):=by
 have hmf:∀ (fn:Fn) (first cap:Array Value) (w:World),(Instr.makeFunc fn first cap).run Tryz.prog w=.ok (.func fn first cap) w:=fun _ _ _ _=>rfl
 obtain ⟨s,hse⟩:∃ s,s=shwAll ps:=⟨_,rfl⟩
 rw [← hse] at hs ⊢
 obtain ⟨a,cap,rfl,-⟩:=strsAt_off hav
 obtain ⟨nl,hnl⟩:∃ nl,nl=l.length:=⟨_,rfl⟩
 obtain ⟨w0,hw0⟩:∃ w0,w0=((w.alloc (.cells #[.string ⟨#[]⟩] 9)).alloc (.cells #[.int .i64 0] 3)).alloc (.cells #[.int .i64 0] 22):=⟨_,rfl⟩
 have hz0:w0.heap.size=w.heap.size+1+1+1:=by rw [hw0];simp
 have hb0:Below w.heap.size w w0:=by rw [hw0];exact (((Below.refl _ _).alloc (Nat.le_refl _) _).alloc (by simp) _).alloc (by simp;omega) _
 have h00:w0.heap[w.heap.size]? = some (.cells #[.string ⟨#[]⟩] 9 (0,0)):=by
  rw [hw0,Below.heap_alloc _ _ _ (by simp;omega),Below.heap_alloc _ _ _ (by simp)]
  exact heap_alloc_new _ _
 have h01:w0.heap[w.heap.size+1]? = some (.cells #[.int .i64 0] 3 (0,0)):=by
  rw [hw0,Below.heap_alloc _ _ _ (by simp)]
  have h:=heap_alloc_new (w.alloc (.cells #[.string ⟨#[]⟩] 9)) (.cells #[.int .i64 0] 3)
  rw [World.size_alloc] at h
  exact h
 have h02:w0.heap[w.heap.size+1+1]? = some (.cells #[.int .i64 0] 22 (0,0)):=by
  rw [hw0]
  have h:=heap_alloc_new ((w.alloc (.cells #[.string ⟨#[]⟩] 9)).alloc (.cells #[.int .i64 0] 3)) (.cells #[.int .i64 0] 22)
  simp only [World.size_alloc] at h
  exact h
 have HWR:=hid (writers_fn w0)
 have HW0:=hid hw0
 have HSE:=hid hse
 have HAV:=hid hav
 have HNL:=hid hnl
 have HB0:=hid hb0
 have HZ0:=hid hz0
 have H00:=hid h00
 have H01:=hid h01
 have H02:=hid h02
 clear hw0 hse hnl hb0 hz0 h00 h01 h02 hav
 refine (callsIn_wide (n:=5)).1 ?_
 refine callsIn_of_wp_marks Tryz.func14 rfl trivial ?_ rfl
 simp only [Tryz.ntmps14,List.size_toArray,List.length_cons,List.length_nil,Nat.reduceAdd,Nat.reduceSub,Array.replicate_succ,Array.replicate_zero,List.push_toArray,List.append_toArray,List.nil_append,List.cons_append]
 gi_wp2_with (refine ⟨trivial,?_⟩;gi_at_call 45;rw [← HW0.out];refine (callsIn_wide.2 HWR.out).mono ?_;rintro e w1 ⟨m,rfl,hwm,hb1,hm0⟩)
 refine ⟨trivial,(callsIn_wide.2 (taken_fn a l.length cap w1)).mono ?_⟩
 rintro e w2 ⟨rfl,hb2,hts,hz2⟩
 have HWM:=hid hwm
 have HB1:=hid hb1
 have HM0:=hid hm0
 have HB2:=hid hb2
 have HTS:=hid hts
 have HZ2:=hid hz2
 clear hwm hb1 hm0 hb2 hts hz2
 obtain ⟨ab,hab⟩:∃ ab,ab=w1.heap.size:=⟨_,rfl⟩
 rw [← hab] at HTS HZ2 ⊢
 have HAB:=hid hab
 clear hab
 gi_wp2
 refine ⟨trivial,at_callsIn fun w3 hw3=>?_⟩
 obtain ⟨k0,k1,k2,k3,k4,hz3,hb3⟩:=five_new w2 (.cells #[.map (some m)] 67) (.cells #[.func (.func 86) #[] #[.pointer (some ⟨ab+1,0,none⟩),.pointer (some ⟨ab,0,none⟩)]] 54) (.cells #[.pointer none,.slice none 0 0] 73) (.cells #[.bool false] 4) (.cells #[.bool false] 4) hw3
 have hbd:Bld w3 (w2.heap.size+2) []:=by
  have h:=(Bld.new ((w2.alloc (.cells #[.map (some m)] 67)).alloc (.cells #[.func (.func 86) #[] #[.pointer (some ⟨ab+1,0,none⟩),.pointer (some ⟨ab,0,none⟩)]] 54)))
  simp only [World.size_alloc] at h
  rw [hw3]
  exact (h.below (belowS _ _)).below (belowS _ _)
 clear hw3
 refine (callsIn_wide.2 (conversions_fn s false w3)).mono ?_
 rintro e w4 ⟨rfl,hb4,hcs,hcq,hz4⟩
 have HB1':=HB1.out
 have HB2':=HB2.out
 obtain ⟨q,hq⟩:∃ q,q=w2.heap.size:=⟨_,rfl⟩
 obtain ⟨B,hB⟩:∃ B,B=w.heap.size:=⟨_,rfl⟩
 rw [← hq] at k0 k1 k2 k3 k4 hz3 hb3 hbd
 rw [hz3] at hcs hcq hz4 ⊢
 rw [← hq,← hB]
 have hz0:=HZ0.out
 have hs01:w0.heap.size≤w1.heap.size:=HB1'.size
 have hab:=HAB.out
 have hz2:=HZ2.out
 have hm0:=HM0.out
 have hml2:m<w1.heap.size:=by
  obtain ⟨D,⟨es,clock,h1,_⟩,_⟩:=HWM.out
  exact (Array.getElem?_eq_some_iff.1 h1).1
 have o4:∀ k,k<w3.heap.size→w4.heap[k]? = w3.heap[k]?:=fun k hk=>hb4.block k hk
 have o3:∀ k,k<q→w4.heap[k]? = w2.heap[k]?:=fun k hk=>(o4 k (by omega)).trans (hb3.block k (by omega))
 have o2:∀ k,k<w1.heap.size→w4.heap[k]? = w1.heap[k]?:=fun k hk=>(o3 k (by omega)).trans (HB2'.block k hk)
 have o1:∀ k,k<w0.heap.size→w4.heap[k]? = w0.heap[k]?:=fun k hk=>(o2 k (by omega)).trans (HB1'.block k hk)
 have hF0:FSt s (.slice a l.length cap) B m ab q w 0 [] w4:=by
  refine ⟨⟨by omega,by omega,by omega,by omega,by omega⟩,(o1 _ (by omega)).trans (by rw [hB];exact H00.out),(o1 _ (by omega)).trans (by rw [hB];exact H01.out),(o1 _ (by omega)).trans (by rw [hB];exact H02.out),(o4 _ (by omega)).trans k0,HWM.out.of (o2 _ hml2),(o4 _ (by omega)).trans k1,
   ⟨(o3 _ (by omega)).trans HTS.out.args,(o3 _ (by omega)).trans HTS.out.next⟩,hbd.below hb4,(o4 _ (by omega)).trans k3,⟨false,(o4 _ (by omega)).trans k4⟩,hcs,hcq,?_⟩
  rw [hB]
  exact ((HB0.out.trans (HB1'.mono (by omega))).trans (HB2'.mono (by omega))).trans ((hb3.mono (by omega)).trans (hb4.mono (by omega)))
 have hz4q:w4.heap.size=q+7:=by omega
 have HF0:=hid hF0
 have HBB:=hid hB
 have hqB:B+3≤q:=by omega
 clear hB hF0 o1 o2 o3 o4 k0 k1 k2 k3 k4 hbd hb3 hb4 hz0 hs01 hab hz2 hm0 hml2 HB1 HB2 HB1' HB2' HZ0 HZ2 HTS HWM HM0 HAB H00 H01 H02 hz4 hq hz3 HW0 HWR
 gi_wp2
 refine wpIn_range_n rfl (by omega) (gf:=87) (lb:=#[.pointer (some ⟨q+5,0,none⟩),.pointer (some ⟨q+5+1,0,none⟩)]) rfl trivial (enters_of Tryz.func87 (by kernel_rfl) rfl)
  (convs_n (scan:=false) hok (by rw [← HSE.out];omega) (b:=q+5) (B:=B) _ (by rw [← HSE.out];exact HF0.out.bs) HF0.out.bq) (by omega) (by simp;omega) (Below.refl _ _) (fun _=>rfl)
  (fun k W=>FSt s (.slice a l.length cap) B m ab q w (cntC (ps.take k)) (outF ps l k) W) (FSt.own (by omega) _ _) HF0.out
  (fun k a' W=>∃ Bx,W.heap[Bx]? = some (.cells (pcCells false (offP ps k) (ps.getD k .pct)) 78 (0,0))∧a' = { tmps:=#[.string ⟨s.toArray⟩,.slice a l.length cap,undef,undef,.pointer (some ⟨B,0,none⟩),.pointer (some ⟨B+1,0,none⟩),.pointer (some ⟨B+1+1,0,none⟩),.pointer (some ⟨q,0,none⟩),.pointer (some ⟨q+1,0,none⟩),.pointer (some ⟨q+1+1,0,none⟩),.pointer (some ⟨q+1+1+1,0,none⟩),.pointer (some ⟨q+1+1+1+1,0,none⟩),.pointer (some ⟨Bx,0,none⟩),undef,undef,undef,.func (.func 43) #[] #[.pointer (some ⟨B+1+1,0,none⟩),.pointer (some ⟨B,0,none⟩)],.map (some m),.slice a l.length cap,.func (.func 86) #[] #[.pointer (some ⟨ab+1,0,none⟩),.pointer (some ⟨ab,0,none⟩)],.string ⟨s.toArray⟩,.func (.func 87) #[] #[.pointer (some ⟨q+5,0,none⟩),.pointer (some ⟨q+5+1,0,none⟩)],.agg (pcCells false (offP ps k) (ps.getD k .pct)),undef,undef,undef,undef,undef,undef,undef,undef,undef,undef,undef,undef,undef,undef,undef,undef,undef,undef,undef,undef,undef,undef,undef,undef,undef,undef,undef,undef,undef,undef,undef,undef,undef,undef,undef,undef,undef,undef,undef,undef,undef,undef,undef,undef,undef,undef,undef,undef,undef,undef,undef,undef,undef,undef,undef,undef,undef,undef,undef,undef,undef,undef,undef,undef,undef,undef,undef,undef,undef,undef,undef,undef,undef,undef,undef,undef,undef,undef,undef,undef,undef,undef,undef,undef,undef,undef,undef,undef,undef,undef,undef],defers:=[] })
  ?hAx ?assign ?body ?done
 case hAx=>
  rintro k a' _ X Y row ⟨Bx,h1,h2⟩ hg hr
  refine ⟨Bx,?_,h2⟩
  rw [hg.block Bx (Array.getElem?_eq_some_iff.1 h1).1 fun e=>?_]
  ·exact h1
  ·obtain ⟨_,o,ho,hc⟩:=hr Bx e.symm
   rw [h1] at ho
   cases ho
   cases hc
 case assign=>
  rintro lr k W K hi hlt hK
  obtain ⟨pc,hpc⟩:∃ pc,pc=ps.getD k .pct:=⟨_,rfl⟩
  obtain ⟨tx,htx⟩:∃ tx,tx=pc.text:=⟨_,rfl⟩
  obtain ⟨fl,hfl⟩:∃ fl,fl=pc.flags:=⟨_,rfl⟩
  obtain ⟨wi,hwi⟩:∃ wi,wi=pc.width:=⟨_,rfl⟩
  obtain ⟨pr,hpr⟩:∃ pr,pr=pc.prec false:=⟨_,rfl⟩
  obtain ⟨lt,hlt9⟩:∃ lt,lt=pc.letter:=⟨_,rfl⟩
  obtain ⟨i,hi9⟩:∃ i,i=offP ps k:=⟨_,rfl⟩
  have hcells:pcCells false (offP ps k) (ps.getD k .pct)=#[.int .i64 (i:Nat),.string ⟨tx.toArray⟩,.int .i64 0,.string ⟨fl.toArray⟩,.int .i64 wi,.int .i64 pr,.bool false,.bool false,.int .u8 (lt.toNat:Nat),.bool false,.string ⟨#[]⟩]:=by
   rw [← hpc,htx,hfl,hwi,hpr,hlt9,hi9]
   rfl
  have henc:encP false ps k=#[.agg (pcCells false (offP ps k) (ps.getD k .pct))]:=rfl
  rw [henc]
  rw [hcells] at hK ⊢
  clear hpc htx hfl hwi hpr hlt9 hi9 henc
  have hI:=hid hi
  obtain ⟨n1,n2,n3,n4,n5⟩:=hi.num
  clear hi
  gi_wp2
  refine hK _ _ ((KeepsOthers.alloc _ _).from _) (KeepT.of_below (belowN _ _) (by omega) (by simp;omega)) (hI.out.below (belowN _ _)) ⟨W.heap.size,heap_alloc_new _ _,rfl⟩
 case body=>
  rintro lr k a' W hi ⟨Bx,hX,rfl⟩ hlt
  obtain ⟨n1,n2,n3,n4,n5⟩:=hi.num
  have hgd:ps.getD k .pct=ps[k]:=by rw [List.getD_eq_getElem?_getD,List.getElem?_eq_getElem hlt,Option.getD_some]
  have hpok:(ps[k]).ok false=true:=(partsOk_at hok hlt).1
  have hmem:ps[k]∈ps:=List.getElem_mem hlt
  have herk:=herr k hlt
  rw [← hgd] at hpok hmem
  have hcnt:cntC (ps.take (k+1))=cntC (ps.take k)+cntC [ps.getD k .pct]:=by rw [List.take_succ_eq_append_getElem hlt,cntC_app,hgd]
  have hall:cntC (ps.take (k+1))≤cntC ps:=by
   have h:=cntC_app (ps.take (k+1)) (ps.drop (k+1))
   rw [List.take_append_drop] at h
   omega
  have houtS:outF ps l (k+1)=outF ps l k++(pcOut (ps.getD k .pct) (argC ps l k)).1:=rfl
  have hbnd:(outF ps l (k+1)).length≤65536:=by
   have h:=outF_mono ps l (k+1) (ps.length-(k+1))
   rw [show k+1+(ps.length-(k+1))=ps.length by omega] at h
   omega
  have hA:∀ g∈[ab+1,q+2,q+3,q+4],∃ cs t fz,W.heap[g]? = some (Obj.cells cs t fz)∧t ∉ convTs:=by
   intro g hg
   obtain ⟨v,hv⟩:=hi.ot
   obtain ⟨cs,hcs⟩:=hi.bd.cells
   simp only [List.mem_cons,List.mem_nil_iff,or_false] at hg
   rcases hg with rfl | rfl | rfl | rfl
   ·exact ⟨_,_,_,hi.ts.next,by decide⟩
   ·exact ⟨_,_,_,hcs,by decide⟩
   ·exact ⟨_,_,_,hi.pl,by decide⟩
   ·exact ⟨_,_,_,hv,by decide⟩
  have hx:∀ g∈[q+5,q+5+1],g ∉ [ab+1,q+2,q+3,q+4]∧∃ cs t fz,W.heap[g]? = some (Obj.cells cs t fz)∧t≠5:=by
   intro g hg
   simp only [List.mem_cons,List.mem_nil_iff,or_false] at hg
   rcases hg with rfl | rfl
   ·exact ⟨by simp;omega,_,_,_,hi.bs,by decide⟩
   ·exact ⟨by simp;omega,_,_,_,hi.bq,by decide⟩
  have FIN:=hid (show ∀ (a9:Act) W',StepF [ab+1,q+2,q+3,q+4] B W W'→FSt s (.slice a l.length cap) B m ab q w (cntC (ps.take (k+1))) (outF ps l (k+1)) W'→endPost w4.heap.size B convTs [q+5,q+5+1] (fun k W=>FSt s (.slice a l.length cap) B m ab q w (cntC (ps.take k)) (outF ps l k) W) (k+1) W Exit.normal a9 W' from
   fun _ W' h1 h2=>⟨h1.keeps hA,h1.keepT hA hx,h2⟩)
  have hBA:Bx ∉ [ab+1,q+2,q+3,q+4]:=fun e=>by
   obtain ⟨cs,t,fz,h1,h2⟩:=hA Bx e
   rw [hX] at h1
   cases h1
   exact h2 (by simp)
  clear hA hx
  obtain ⟨pc,hpc⟩:∃ pc,pc=ps.getD k .pct:=⟨_,rfl⟩
  obtain ⟨i,hi9⟩:∃ i,i=offP ps k:=⟨_,rfl⟩
  rw [← hpc] at hpok hmem hcnt houtS herk hX ⊢
  rw [← hi9] at hX ⊢
  have HI:=hid hi
  clear hgd hpc hi9 hi
  have hq2:q+2=q+1+1:=rfl
  cases pc with
  | txt l0=>
   have hX:W.heap[Bx]? = some (.cells #[.int .i64 (i:Nat),.string ⟨l0.toArray⟩,.int .i64 0,.string ⟨#[]⟩,.int .i64 0,.int .i64 0,.bool false,.bool false,.int .u8 0,.bool false,.string ⟨#[]⟩] 78 (0,0)):=hX
   have x0:W.cell? ⟨Bx,0,none⟩=some (.int .i64 (i:Nat)):=(Lib.cell_of_heap hX 0).trans rfl
   have x1:W.cell? ⟨Bx,1,none⟩=some (.string ⟨l0.toArray⟩):=(Lib.cell_of_heap hX 1).trans rfl
   have x2:W.cell? ⟨Bx,2,none⟩=some (.int .i64 0):=(Lib.cell_of_heap hX 2).trans rfl
   have x3:W.cell? ⟨Bx,3,none⟩=some (.string ⟨#[]⟩):=(Lib.cell_of_heap hX 3).trans rfl
   have x4:W.cell? ⟨Bx,4,none⟩=some (.int .i64 0):=(Lib.cell_of_heap hX 4).trans rfl
   have x5:W.cell? ⟨Bx,5,none⟩=some (.int .i64 0):=(Lib.cell_of_heap hX 5).trans rfl
   have x6:W.cell? ⟨Bx,6,none⟩=some (.bool false):=(Lib.cell_of_heap hX 6).trans rfl
   have x7:W.cell? ⟨Bx,7,none⟩=some (.bool false):=(Lib.cell_of_heap hX 7).trans rfl
   have x8:W.cell? ⟨Bx,8,none⟩=some (.int .u8 0):=(Lib.cell_of_heap hX 8).trans rfl
   have x9:W.cell? ⟨Bx,9,none⟩=some (.bool false):=(Lib.cell_of_heap hX 9).trans rfl
   have x10:W.cell? ⟨Bx,10,none⟩=some (.string ⟨#[]⟩):=(Lib.cell_of_heap hX 10).trans rfl
   have hl0:l0.length≤65536:=by
    rw [houtS,List.length_append] at hbnd
    exact Nat.le_trans (Nat.le_add_left _ _) hbnd
   have hok0:(outF ps l k).length≤65536:=by
    rw [houtS,List.length_append] at hbnd
    exact Nat.le_trans (Nat.le_add_right _ _) hbnd
   have HWS:=hid (wstr_fn HI.out.bd l0 (by omega))
   obtain ⟨no,hno⟩:∃ no,no=(outF ps l k++l0).length:=⟨_,rfl⟩
   have hno9:no≤65536:=by rw [hno];rw [houtS] at hbnd;exact hbnd
   have HNO:=hid hno
   have HCNT:=hid (show cntC (ps.take (k+1))=cntC (ps.take k) from hcnt)
   have HOUT:=hid (show outF ps l (k+1)=outF ps l k++l0 from houtS)
   have HX:=hid hX
   clear hno hcnt houtS hX hall hbnd hl0 hok0 herk hpok hmem
   gi_wp2_with (first|((with_reducible refine And.intro ?_ ?_);exact trivial;gi_at_call 48;refine (calls_round HWS.out).mono ?_;rintro e W1 ⟨rfl,hbd1,hk1⟩;have hi1:=HI.out.built hbd1 hk1;have hst:=StepF.of_kept (A:=[ab+1,q+2,q+3,q+4]) (B:=B) hk1 (by simp) (by omega);have hX1:=hst.cells HX.out hBA (by decide);have y8:=Lib.cell_of_heap hX1 8;have hlen:=len_fn hbd1;rw [← HNO.out] at hlen;have HLEN:=hid hlen;have HI1:=hid hi1;have HST:=hid hst;clear hbd1 hk1 hi1 hst hX1 hlen)|((with_reducible refine And.intro ?_ ?_);exact trivial;gi_at_call 51;refine (calls_round HLEN.out).mono ?_;rintro e W9 ⟨rfl,rfl⟩))
   exact FIN.out ⟨#[],[]⟩ _ HST.out (by rw [HCNT.out,HOUT.out];exact HI1.out)
  | pct=>
   have hX:W.heap[Bx]? = some (.cells #[.int .i64 (i:Nat),.string ⟨#[]⟩,.int .i64 0,.string ⟨#[]⟩,.int .i64 (-1),.int .i64 (-1),.bool false,.bool false,.int .u8 37,.bool false,.string ⟨#[]⟩] 78 (0,0)):=hX
   have x0:W.cell? ⟨Bx,0,none⟩=some (.int .i64 (i:Nat)):=(Lib.cell_of_heap hX 0).trans rfl
   have x1:W.cell? ⟨Bx,1,none⟩=some (.string ⟨#[]⟩):=(Lib.cell_of_heap hX 1).trans rfl
   have x2:W.cell? ⟨Bx,2,none⟩=some (.int .i64 0):=(Lib.cell_of_heap hX 2).trans rfl
   have x3:W.cell? ⟨Bx,3,none⟩=some (.string ⟨#[]⟩):=(Lib.cell_of_heap hX 3).trans rfl
   have x4:W.cell? ⟨Bx,4,none⟩=some (.int .i64 (-1)):=(Lib.cell_of_heap hX 4).trans rfl
   have x5:W.cell? ⟨Bx,5,none⟩=some (.int .i64 (-1)):=(Lib.cell_of_heap hX 5).trans rfl
   have x6:W.cell? ⟨Bx,6,none⟩=some (.bool false):=(Lib.cell_of_heap hX 6).trans rfl
   have x7:W.cell? ⟨Bx,7,none⟩=some (.bool false):=(Lib.cell_of_heap hX 7).trans rfl
   have x8:W.cell? ⟨Bx,8,none⟩=some (.int .u8 37):=(Lib.cell_of_heap hX 8).trans rfl
   have x9:W.cell? ⟨Bx,9,none⟩=some (.bool false):=(Lib.cell_of_heap hX 9).trans rfl
   have x10:W.cell? ⟨Bx,10,none⟩=some (.string ⟨#[]⟩):=(Lib.cell_of_heap hX 10).trans rfl
   have hok0:(outF ps l k).length≤65536:=by
    rw [houtS,List.length_append] at hbnd
    exact Nat.le_trans (Nat.le_add_right _ _) hbnd
   have HWS:=hid (show Calls Tryz.prog 49 #[.pointer (some ⟨q+1+1,0,none⟩),.int .u8 37] W fun e w'=>e=.returned .nilIface∧Bld w' (q+2) (outF ps l k++[37])∧Kept (q+2) W w' from wbyte_fn HI.out.bd 37 (by omega))
   obtain ⟨no,hno⟩:∃ no,no=(outF ps l k++[37]).length:=⟨_,rfl⟩
   have hno9:no≤65536:=by rw [hno];rw [houtS] at hbnd;exact hbnd
   have HNO:=hid hno
   have HCNT:=hid (show cntC (ps.take (k+1))=cntC (ps.take k) from hcnt)
   have HOUT:=hid (show outF ps l (k+1)=outF ps l k++[37] from houtS)
   have HX:=hid hX
   clear hno hcnt houtS hX hall hbnd hok0 herk hpok hmem
   gi_wp2_with (first|((with_reducible refine And.intro ?_ ?_);exact trivial;gi_at_call 49;refine (calls_round HWS.out).mono ?_;rintro e W1 ⟨rfl,hbd1,hk1⟩;have hi1:=HI.out.built hbd1 hk1;have hst:=StepF.of_kept (A:=[ab+1,q+2,q+3,q+4]) (B:=B) hk1 (by simp) (by omega);have hX1:=hst.cells HX.out hBA (by decide);have y8:=Lib.cell_of_heap hX1 8;have hlen:=len_fn hbd1;rw [← HNO.out] at hlen;have HLEN:=hid hlen;have HI1:=hid hi1;have HST:=hid hst;clear hbd1 hk1 hi1 hst hX1 hlen)|((with_reducible refine And.intro ?_ ?_);exact trivial;gi_at_call 51;refine (calls_round HLEN.out).mono ?_;rintro e W9 ⟨rfl,rfl⟩))
   exact FIN.out ⟨#[],[]⟩ _ HST.out (by rw [HCNT.out,HOUT.out];exact HI1.out)
  | cnv fl wd c=>
   have hX:W.heap[Bx]? = some (.cells (cvCells (i:Nat) [] fl (numE wd) (-1) false false c false) 78 (0,0)):=hX
   have hcp:=cnvOk_p (scan:=false) (fl:=fl) (wd:=wd) (c:=c) hpok
   obtain ⟨hw1,hw2⟩:=numE_bound hcp
   obtain ⟨hl1,hl2,hl3,hl4,hl5,hl6,hl7⟩:=isLet_dig hcp.letter
   have n0:=byte_ne 0 hl7 rfl
   have n37:=byte_ne 37 hl4 rfl
   obtain ⟨nw,hnw⟩:∃ nw,nw=numE wd:=⟨_,rfl⟩
   rw [← hnw] at hX hw1 hw2
   have hX:W.heap[Bx]? = some (.cells #[.int .i64 (i:Nat),.string ⟨#[]⟩,.int .i64 0,.string ⟨fl.toArray⟩,.int .i64 nw,.int .i64 (-1),.bool false,.bool false,.int .u8 (c.toNat:Nat),.bool false,.string ⟨#[]⟩] 78 (0,0)):=hX
   have x0:W.cell? ⟨Bx,0,none⟩=some (.int .i64 (i:Nat)):=(Lib.cell_of_heap hX 0).trans rfl
   have x1:W.cell? ⟨Bx,1,none⟩=some (.string ⟨#[]⟩):=(Lib.cell_of_heap hX 1).trans rfl
   have x2:W.cell? ⟨Bx,2,none⟩=some (.int .i64 0):=(Lib.cell_of_heap hX 2).trans rfl
   have x3:W.cell? ⟨Bx,3,none⟩=some (.string ⟨fl.toArray⟩):=(Lib.cell_of_heap hX 3).trans rfl
   have x4:W.cell? ⟨Bx,4,none⟩=some (.int .i64 nw):=(Lib.cell_of_heap hX 4).trans rfl
   have x5:W.cell? ⟨Bx,5,none⟩=some (.int .i64 (-1)):=(Lib.cell_of_heap hX 5).trans rfl
   have x6:W.cell? ⟨Bx,6,none⟩=some (.bool false):=(Lib.cell_of_heap hX 6).trans rfl
   have x7:W.cell? ⟨Bx,7,none⟩=some (.bool false):=(Lib.cell_of_heap hX 7).trans rfl
   have x8:W.cell? ⟨Bx,8,none⟩=some (.int .u8 (c.toNat:Nat)):=(Lib.cell_of_heap hX 8).trans rfl
   have x9:W.cell? ⟨Bx,9,none⟩=some (.bool false):=(Lib.cell_of_heap hX 9).trans rfl
   have x10:W.cell? ⟨Bx,10,none⟩=some (.string ⟨#[]⟩):=(Lib.cell_of_heap hX 10).trans rfl
   have HX:=hid hX
   have HCP:=hid hcp
   have HNW:=hid hnw
   clear hX hcp hnw hl1 hl2 hl3 hl4 hl5 hl6 hl7
   obtain ⟨v,hv⟩:=HI.out.ot
   cases v with
   | false=>
    have d3:W.drew.cell? ⟨q+1+1+1,0,none⟩=some (.bool false):=(Lib.cell_of_heap (w:=W.drew) HI.out.pl 0).trans rfl
    have d4:W.drew.cell? ⟨q+1+1+1+1,0,none⟩=some (.bool false):=(Lib.cell_of_heap (w:=W.drew) hv 0).trans rfl
    have e3:W.drew.frozen? ⟨q+1+1+1,0,none⟩=false:=Lib.frozen_of_heap (w:=W.drew) HI.out.pl 0
    have dx:W.drew.cell? ⟨Bx,2,none⟩=some (.int .i64 0):=x2
    have hBq:Bx≠q+1+1+1:=fun e=>hBA (by rw [e];simp)
    have d3':(W.drew.setCell ⟨q+1+1+1,0,none⟩ (.bool false)).cell? ⟨q+1+1+1,0,none⟩=some (.bool false):=World.cell?_setCell_same' _ _ _ (by rw [d3];rfl)
    have d4':(W.drew.setCell ⟨q+1+1+1,0,none⟩ (.bool false)).cell? ⟨q+1+1+1+1,0,none⟩=some (.bool false):=by
     rw [World.cell?_of_block (w:=W.drew) (Below.heap_setCell _ _ _ _ (by show q+1+1+1+1≠q+1+1+1;omega))]
     exact d4
    have dx':(W.drew.setCell ⟨q+1+1+1,0,none⟩ (.bool false)).cell? ⟨Bx,2,none⟩=some (.int .i64 0):=by
     rw [World.cell?_of_block (w:=W.drew) (Below.heap_setCell _ _ _ _ (by exact hBq))]
     exact dx
    have e4':(W.drew.setCell ⟨q+1+1+1,0,none⟩ (.bool false)).frozen? ⟨q+1+1+1+1,0,none⟩=false:=by
     rw [World.frozen?_setCell]
     exact Lib.frozen_of_heap (w:=W.drew) hv 0
    have d3w:W.cell? ⟨q+1+1+1,0,none⟩=some (.bool false):=d3
    have d4w:W.cell? ⟨q+1+1+1+1,0,none⟩=some (.bool false):=d4
    have e3w:W.frozen? ⟨q+1+1+1,0,none⟩=false:=e3
    have e4w:W.frozen? ⟨q+1+1+1+1,0,none⟩=false:=Lib.frozen_of_heap hv 0
    gi_upto_region 9 with fail
    have S0:Hid ((fun u:World=>u.cell? ⟨q+1+1+1,0,none⟩=some (.bool false)∧u.cell? ⟨q+1+1+1+1,0,none⟩=some (.bool false)∧u.cell? ⟨Bx,2,none⟩=some (.int .i64 0)) W.drew):=hid ⟨d3,d4,dx⟩
    have S1:Hid ((fun u:World=>u.cell? ⟨q+1+1+1,0,none⟩=some (.bool false)∧u.cell? ⟨q+1+1+1+1,0,none⟩=some (.bool false)∧u.cell? ⟨Bx,2,none⟩=some (.int .i64 0)) (W.drew.setCell ⟨q+1+1+1,0,none⟩ (.bool false))):=hid ⟨d3',d4',dx'⟩
    apply cut_region
    ·refine U_beginR (late:=fun k=>decide (13≤k)) (S:=fun u:World=>u.cell? ⟨q+1+1+1,0,none⟩=some (.bool false)∧u.cell? ⟨q+1+1+1+1,0,none⟩=some (.bool false)∧u.cell? ⟨Bx,2,none⟩=some (.int .i64 0)) (fun _ _ h=>h) (by kernel_rfl) (by kernel_rfl) ?_
     refine U_take2 8 (i:=0) (v:=.bool false) rfl (by kernel_rfl) (by kernel_rfl) (by kernel_rfl) (by kernel_rfl) (by kernel_rfl) (fun _ _ _ h=>h) (.inl ⟨rfl,fun u hu=>(by obtain ⟨h1,h2,h3⟩:=hu;go_simp)⟩) S0.out ?_
     refine U_take2 8 (i:=1) (v:=.bool false) rfl (by kernel_rfl) (by kernel_rfl) (by kernel_rfl) (by kernel_rfl) (by kernel_rfl) (fun _ _ _ h=>h) (.inl ⟨rfl,fun u hu=>(by go_simp)⟩) S0.out ?_
     refine U_take2 8 (i:=2) (v:=.pointer (some ⟨Bx,2,none⟩)) rfl (by kernel_rfl) (by kernel_rfl) (by kernel_rfl) (by kernel_rfl) (by kernel_rfl) (fun _ _ _ h=>h) (.inl ⟨by kernel_rfl,fun u hu=>(by go_simp)⟩) S0.out ?_
     refine U_take2 8 (i:=3) (v:=.int .i64 0) rfl (by kernel_rfl) (by kernel_rfl) (by kernel_rfl) (by kernel_rfl) (by kernel_rfl) (fun _ _ _ h=>h) (.inl ⟨by kernel_rfl,fun u hu=>(by obtain ⟨h1,h2,h3⟩:=hu;go_simp)⟩) S0.out ?_
     refine U_take2 8 (i:=4) (v:=.bool false) rfl (by kernel_rfl) (by kernel_rfl) (by kernel_rfl) (by kernel_rfl) (by kernel_rfl) (fun _ _ _ h=>h) (.inl ⟨by kernel_rfl,fun u hu=>(by go_simp)⟩) S0.out ?_
     refine U_take2 8 (i:=5) (v:=.bool false) rfl (by kernel_rfl) (by kernel_rfl) (by kernel_rfl) (by kernel_rfl) (by kernel_rfl) (fun _ _ _ h=>h) (.inl ⟨rfl,fun u hu=>(by go_simp)⟩) S0.out ?_
     refine U_take2 8 (i:=6) (v:=.bool false) rfl (by kernel_rfl) (by kernel_rfl) (by kernel_rfl) (by kernel_rfl) (by kernel_rfl) (fun _ _ _ h=>h) (.inl ⟨rfl,fun u hu=>(by obtain ⟨h1,h2,h3⟩:=hu;go_simp)⟩) S0.out ?_
     refine U_take2 8 (i:=7) (v:=.bool false) rfl (by kernel_rfl) (by kernel_rfl) (by kernel_rfl) (by kernel_rfl) (by kernel_rfl) (fun _ _ _ h=>h) (.inl ⟨rfl,fun u hu=>(by go_simp)⟩) S0.out ?_
     refine U_take2 8 (i:=8) (v:=.pointer (some ⟨Bx,2,none⟩)) rfl (by kernel_rfl) (by kernel_rfl) (by kernel_rfl) (by kernel_rfl) (by kernel_rfl) (fun _ _ _ h=>h) (.inl ⟨by kernel_rfl,fun u hu=>(by go_simp)⟩) S0.out ?_
     refine U_two (j1:=9) (j2:=12) (by kernel_rfl) rfl rfl (fun K9 hK9=>?_) (fun K9 hK9=>?_)
     ·go_simp
      refine hK9.out _ _ (.inr S0.out) ?_
      clear hK9 K9
      refine U_take2 8 (i:=10) (v:=.bool true) rfl (by kernel_rfl) (by kernel_rfl) (by kernel_rfl) (by kernel_rfl) (by kernel_rfl) (fun _ _ _ h=>h) (.inl ⟨by kernel_rfl,fun u hu=>(by go_simp)⟩) S0.out ?_
      refine U_take2 8 (i:=11) (v:=.bool true) rfl (by kernel_rfl) (by kernel_rfl) (by kernel_rfl) (by kernel_rfl) (by kernel_rfl) (fun _ _ _ h=>h) (.inl ⟨rfl,fun u hu=>(by go_simp)⟩) S0.out ?_
      refine U_step (j:=12) (by kernel_rfl) rfl (fun K9 hK9=>?_)
      go_simp
      refine hK9.out _ _ (.inr S1.out) ?_
      clear hK9 K9
      refine U_step (j:=13) (by kernel_rfl) rfl (fun K9 hK9=>?_)
      go_simp
      refine hK9.out _ _ (.inl rfl) ?_
      clear hK9 K9
      exact U_done (by kernel_rfl) ⟨rfl,rfl⟩ _
     ·go_simp
      refine hK9.out _ _ (.inr S1.out) ?_
      clear hK9 K9
      refine U_step (j:=9) (by kernel_rfl) rfl (fun K9 hK9=>?_)
      go_simp
      refine hK9.out _ _ (.inr S1.out) ?_
      clear hK9 K9
      refine U_take2 8 (i:=10) (v:=.bool true) rfl (by kernel_rfl) (by kernel_rfl) (by kernel_rfl) (by kernel_rfl) (by kernel_rfl) (fun _ _ _ h=>h) (.inl ⟨by kernel_rfl,fun u hu=>(by go_simp)⟩) S1.out ?_
      refine U_take2 8 (i:=11) (v:=.bool true) rfl (by kernel_rfl) (by kernel_rfl) (by kernel_rfl) (by kernel_rfl) (by kernel_rfl) (fun _ _ _ h=>h) (.inl ⟨rfl,fun u hu=>(by go_simp)⟩) S1.out ?_
      refine U_step (j:=13) (by kernel_rfl) rfl (fun K9 hK9=>?_)
      go_simp
      refine hK9.out _ _ (.inl rfl) ?_
      clear hK9 K9
      exact U_done (by kernel_rfl) ⟨rfl,rfl⟩ _
    obtain ⟨W2,hW2⟩:∃ W2,W2=((W.setCell ⟨q+1+1+1,0,none⟩ (.bool false)).setCell ⟨q+1+1+1+1,0,none⟩ (.bool true)).drew:=⟨_,rfl⟩
    have hi2:FSt s (.slice a l.length cap) B m ab q w (cntC (ps.take k)) (outF ps l k) W2:=by rw [hW2];exact HI.out.marks
    have hst2:StepF [ab+1,q+2,q+3,q+4] B W W2:=by
     rw [hW2]
     exact (StepF.of_only (A':=[q+3,q+4]) ((OnlyS.set (a:=⟨q+3,0,none⟩) (by simp) _).trans (OnlyS.set (a:=⟨q+4,0,none⟩) (by simp) _)) (by simp) (by simp;omega) (by omega)).trans (StepF.of_below (Below.refl _ _).drew (by simp [World.setCell];omega))
    have hX2:W2.heap[Bx]? = some (.cells #[.int .i64 (i:Nat),.string ⟨#[]⟩,.int .i64 0,.string ⟨fl.toArray⟩,.int .i64 nw,.int .i64 (-1),.bool false,.bool false,.int .u8 (c.toNat:Nat),.bool false,.string ⟨#[]⟩] 78 (0,0)):=hst2.cells HX.out hBA (by decide)
    rw [← hW2]
    clear hW2 d3 d4 e3 dx hBq d3' d4' dx' e4' d3w d4w e3w e4w S0 S1 x0 x1 x2 x3 x4 x5 x6 x7 x8 x9 x10 hv
    have x0:W2.cell? ⟨Bx,0,none⟩=some (.int .i64 (i:Nat)):=(Lib.cell_of_heap hX2 0).trans rfl
    have x1:W2.cell? ⟨Bx,1,none⟩=some (.string ⟨#[]⟩):=(Lib.cell_of_heap hX2 1).trans rfl
    have x2:W2.cell? ⟨Bx,2,none⟩=some (.int .i64 0):=(Lib.cell_of_heap hX2 2).trans rfl
    have x3:W2.cell? ⟨Bx,3,none⟩=some (.string ⟨fl.toArray⟩):=(Lib.cell_of_heap hX2 3).trans rfl
    have x4:W2.cell? ⟨Bx,4,none⟩=some (.int .i64 nw):=(Lib.cell_of_heap hX2 4).trans rfl
    have x5:W2.cell? ⟨Bx,5,none⟩=some (.int .i64 (-1)):=(Lib.cell_of_heap hX2 5).trans rfl
    have x6:W2.cell? ⟨Bx,6,none⟩=some (.bool false):=(Lib.cell_of_heap hX2 6).trans rfl
    have x7:W2.cell? ⟨Bx,7,none⟩=some (.bool false):=(Lib.cell_of_heap hX2 7).trans rfl
    have x8:W2.cell? ⟨Bx,8,none⟩=some (.int .u8 (c.toNat:Nat)):=(Lib.cell_of_heap hX2 8).trans rfl
    have x9:W2.cell? ⟨Bx,9,none⟩=some (.bool false):=(Lib.cell_of_heap hX2 9).trans rfl
    have x10:W2.cell? ⟨Bx,10,none⟩=some (.string ⟨#[]⟩):=(Lib.cell_of_heap hX2 10).trans rfl
    have d3:W2.cell? ⟨q+1+1+1,0,none⟩=some (.bool false):=(Lib.cell_of_heap hi2.pl 0).trans rfl
    have k1:W2.cell? ⟨q+1,0,none⟩=some (.func (.func 86) #[] #[.pointer (some ⟨ab+1,0,none⟩),.pointer (some ⟨ab,0,none⟩)]):=(Lib.cell_of_heap hi2.tk 0).trans rfl
    have HFL:=hid (filled_fn (A:=(i:Nat)) (wd:=nw) (pr:=-1) (tx:=[]) (fl:=fl) (c:=c) 86 #[.pointer (some ⟨ab+1,0,none⟩),.pointer (some ⟨ab,0,none⟩)] W2)
    have HI2:=hid hi2
    have HST2:=hid hst2
    clear hi2 hst2 hX2
    gi_wp2_with fail
    refine ⟨trivial,(calls_round HFL.out).mono ?_⟩
    rintro e W3 ⟨rfl,hb3⟩
    have hi3:=HI2.out.below hb3
    have hst3:=HST2.out.trans (StepF.of_below hb3 (by have:=HI2.out.num;omega))
    obtain ⟨W4,hW4⟩:∃ W4,W4=W3.alloc (.cells #[.int .i64 (i:Nat),.string ⟨#[]⟩,.int .i64 0,.string ⟨fl.toArray⟩,.int .i64 nw,.int .i64 (-1),.bool false,.bool false,.int .u8 (c.toNat:Nat),.bool false,.string ⟨#[]⟩] 78):=⟨_,rfl⟩
    have hi4:FSt s (.slice a l.length cap) B m ab q w (cntC (ps.take k)) (outF ps l k) W4:=by rw [hW4];exact hi3.below (belowS _ _)
    have hst4:StepF [ab+1,q+2,q+3,q+4] B W W4:=by rw [hW4];exact hst3.trans (StepF.of_below (belowS _ _) (by have:=hi3.num;omega))
    have hc4:W4.heap[W3.heap.size]? = some (.cells #[.int .i64 (i:Nat),.string ⟨#[]⟩,.int .i64 0,.string ⟨fl.toArray⟩,.int .i64 nw,.int .i64 (-1),.bool false,.bool false,.int .u8 (c.toNat:Nat),.bool false,.string ⟨#[]⟩] 78 (0,0)):=by rw [hW4];exact heap_alloc_new _ _
    have hl3:q+1<W3.heap.size:=by have:=hi3.num;omega
    have k1:W3.cell? ⟨q+1,0,none⟩=some (.func (.func 86) #[] #[.pointer (some ⟨ab+1,0,none⟩),.pointer (some ⟨ab,0,none⟩)]):=(Lib.cell_of_heap hi3.tk 0).trans rfl
    have hav4:StrsAt W4 (.slice a l.length cap) l:=HAV.out.below (by rw [← HBB.out];exact hi4.low)
    have HTK:=hid (taken1_fn hi4.ts hav4 (k:=cntC (ps.take k)) (by rw [hcnt] at hall;have h9:cntC [Pc.cnv fl wd c]=1:=rfl;omega) (by omega))
    have HW4:=hid hW4
    have HI4:=hid hi4
    have HST4:=hid hst4
    have HC4:=hid hc4
    clear hb3 hi3 hst3 hW4 hi4 hst4 hc4 hav4 x0 x1 x2 x3 x4 x5 x6 x7 x8 x9 x10 d3 HFL
    gi_wp2_with fail
    rw [← HW4.out]
    refine ⟨trivial,(calls_round HTK.out).mono ?_⟩
    rintro e W5 ⟨rfl,hts5,ho5⟩
    have hn4:=HI4.out.num
    have hb5:Bld W5 (q+2) (outF ps l k):=HI4.out.bd.of fun g hg hl=>ho5.block g hl (by simp;omega)
    have hi5:=HI4.out.next hts5 ho5 hb5
    have hst5:=HST4.out.trans (StepF.of_only (A:=[ab+1,q+2,q+3,q+4]) (B:=B) ho5 (by simp) (by simp;omega) (by omega))
    have hne5:W3.heap.size≠ab+1:=by omega
    have hc5:W5.heap[W3.heap.size]? = some (.cells #[.int .i64 (i:Nat),.string ⟨#[]⟩,.int .i64 0,.string ⟨fl.toArray⟩,.int .i64 nw,.int .i64 (-1),.bool false,.bool false,.int .u8 (c.toNat:Nat),.bool false,.string ⟨#[]⟩] 78 (0,0)):=ho5.cells HC4.out (by simpa using hne5)
    obtain ⟨arg,harg⟩:∃ arg,arg=l[cntC (ps.take k)]'(by rw [hcnt] at hall;have h9:cntC [Pc.cnv fl wd c]=1:=rfl;omega):=⟨_,rfl⟩
    rw [← harg]
    have hargl:arg.length≤100000:=hla _ (by rw [harg];exact List.getElem_mem _)
    have hargC:argC ps l k=arg:=by
     unfold argC
     rw [harg,List.getD_eq_getElem?_getD,List.getElem?_eq_getElem (by rw [hcnt] at hall;have h9:cntC [Pc.cnv fl wd c]=1:=rfl;omega),Option.getD_some]
    obtain ⟨F,hF1,hent,hF2⟩:=write_fn (A:=(i:Nat)) (wd:=nw) (tx:=[]) (fl:=fl) HCP.out.letter arg hargl hw1 hw2
    have hml5:c=113→ML W5:=fun e=>(hml ⟨fl,wd,by rw [← e];exact hmem⟩).below (by rw [← HBB.out];exact hi5.low)
    have HWT:=hid (hF2 W5 hml5)
    have hlk:=hi5.wm.look c F hF1
    have hfd:∀ u:World,(Instr.field 90 (.agg #[.func (.func F) #[] #[]]) 0).run Tryz.prog u=.ok (.func (.func F) #[] #[]) u:=fun u=>by kernel_rfl
    have k0:W5.cell? ⟨q,0,none⟩=some (.map (some m)):=(Lib.cell_of_heap hi5.lt 0).trans rfl
    have x0:W5.cell? ⟨W3.heap.size,0,none⟩=some (.int .i64 (i:Nat)):=(Lib.cell_of_heap hc5 0).trans rfl
    have x1:W5.cell? ⟨W3.heap.size,1,none⟩=some (.string ⟨#[]⟩):=(Lib.cell_of_heap hc5 1).trans rfl
    have x2:W5.cell? ⟨W3.heap.size,2,none⟩=some (.int .i64 0):=(Lib.cell_of_heap hc5 2).trans rfl
    have x3:W5.cell? ⟨W3.heap.size,3,none⟩=some (.string ⟨fl.toArray⟩):=(Lib.cell_of_heap hc5 3).trans rfl
    have x4:W5.cell? ⟨W3.heap.size,4,none⟩=some (.int .i64 nw):=(Lib.cell_of_heap hc5 4).trans rfl
    have x5:W5.cell? ⟨W3.heap.size,5,none⟩=some (.int .i64 (-1)):=(Lib.cell_of_heap hc5 5).trans rfl
    have x6:W5.cell? ⟨W3.heap.size,6,none⟩=some (.bool false):=(Lib.cell_of_heap hc5 6).trans rfl
    have x7:W5.cell? ⟨W3.heap.size,7,none⟩=some (.bool false):=(Lib.cell_of_heap hc5 7).trans rfl
    have x8:W5.cell? ⟨W3.heap.size,8,none⟩=some (.int .u8 (c.toNat:Nat)):=(Lib.cell_of_heap hc5 8).trans rfl
    have x9:W5.cell? ⟨W3.heap.size,9,none⟩=some (.bool false):=(Lib.cell_of_heap hc5 9).trans rfl
    have x10:W5.cell? ⟨W3.heap.size,10,none⟩=some (.string ⟨#[]⟩):=(Lib.cell_of_heap hc5 10).trans rfl
    have herr9:(writeE fl nw (-1) c arg).2=0:=by
     rw [hargC] at herk
     rw [HNW.out]
     exact herk
    have HE:=hid herr9
    obtain ⟨ot,hot⟩:∃ ot,ot=(writeE fl nw (-1) c arg).1:=⟨_,rfl⟩
    rw [← hot,HE.out] at HWT
    have HOT:=hid hot
    have HARG:=hid hargC
    have HI5:=hid hi5
    have HST5:=hid hst5
    clear harg hargC hF1 hF2 hml5 herr9 hot hts5 ho5 hb5 hi5 hst5 hc5 k1 HI4 HST4 HC4 HTK hargl HI2 HST2
    gi_wp2_with fail
    refine ⟨trivial,(calls_round HWT.out).mono ?_⟩
    rintro e W6 ⟨rfl,hb6⟩
    have hi6:=HI5.out.below hb6
    have hst6:=HST5.out.trans (StepF.of_below hb6 (by have:=HI5.out.num;omega))
    have hcnt9:cntC (ps.take (k+1))=cntC (ps.take k)+1:=hcnt
    have houtk:outF ps l (k+1)=outF ps l k++ot:=by
     rw [houtS,HARG.out,HOT.out,HNW.out]
     rfl
    have hl9:(outF ps l k).length+ot.length≤65536:=by rw [houtk,List.length_append] at hbnd;exact hbnd
    have HWS:=hid (wstr_fn hi6.bd ot (by omega))
    obtain ⟨no,hno⟩:∃ no,no=(outF ps l k++ot).length:=⟨_,rfl⟩
    have hno9:no≤65536:=by rw [hno,List.length_append];exact hl9
    have HNO:=hid hno
    have HCNT:=hid hcnt9
    have HOUT:=hid houtk
    have HI6:=hid hi6
    have HST6:=hid hst6
    clear hno hcnt9 houtk hl9 hi6 hst6 hb6 x0 x1 x2 x3 x4 x5 x6 x7 x8 x9 x10 k0 hlk hfd hent HI5 HST5 HWT
    gi_wp2_with (first|((with_reducible refine And.intro ?_ ?_);exact trivial;gi_at_call 48;refine (calls_round HWS.out).mono ?_;rintro e W7 ⟨rfl,hbd7,hk7⟩;have hi7:=HI6.out.built hbd7 hk7;have hst7:=HST6.out.trans (StepF.of_kept (A:=[ab+1,q+2,q+3,q+4]) (B:=B) hk7 (by simp) (by omega));have hX7:=hst7.cells HX.out hBA (by decide);have y8:=(Lib.cell_of_heap hX7 8).trans rfl;have hlen:=len_fn hbd7;rw [← HNO.out] at hlen;have HLEN:=hid hlen;have HI7:=hid hi7;have HST7:=hid hst7;clear hbd7 hk7 hi7 hst7 hX7 hlen)|((with_reducible refine And.intro ?_ ?_);exact trivial;gi_at_call 51;refine (calls_round HLEN.out).mono ?_;rintro e W9 ⟨rfl,rfl⟩))
    exact FIN.out ⟨#[],[]⟩ _ HST7.out (by rw [HCNT.out,HOUT.out];exact HI7.out)
   | true=>
    have d3:W.drew.cell? ⟨q+1+1+1,0,none⟩=some (.bool false):=(Lib.cell_of_heap (w:=W.drew) HI.out.pl 0).trans rfl
    have d4:W.drew.cell? ⟨q+1+1+1+1,0,none⟩=some (.bool true):=(Lib.cell_of_heap (w:=W.drew) hv 0).trans rfl
    have e3:W.drew.frozen? ⟨q+1+1+1,0,none⟩=false:=Lib.frozen_of_heap (w:=W.drew) HI.out.pl 0
    have dx:W.drew.cell? ⟨Bx,2,none⟩=some (.int .i64 0):=x2
    have hBq:Bx≠q+1+1+1:=fun e=>hBA (by rw [e];simp)
    have d3':(W.drew.setCell ⟨q+1+1+1,0,none⟩ (.bool false)).cell? ⟨q+1+1+1,0,none⟩=some (.bool false):=World.cell?_setCell_same' _ _ _ (by rw [d3];rfl)
    have d4':(W.drew.setCell ⟨q+1+1+1,0,none⟩ (.bool false)).cell? ⟨q+1+1+1+1,0,none⟩=some (.bool true):=by
     rw [World.cell?_of_block (w:=W.drew) (Below.heap_setCell _ _ _ _ (by show q+1+1+1+1≠q+1+1+1;omega))]
     exact d4
    have dx':(W.drew.setCell ⟨q+1+1+1,0,none⟩ (.bool false)).cell? ⟨Bx,2,none⟩=some (.int .i64 0):=by
     rw [World.cell?_of_block (w:=W.drew) (Below.heap_setCell _ _ _ _ (by exact hBq))]
     exact dx
    have e4':(W.drew.setCell ⟨q+1+1+1,0,none⟩ (.bool false)).frozen? ⟨q+1+1+1+1,0,none⟩=false:=by
     rw [World.frozen?_setCell]
     exact Lib.frozen_of_heap (w:=W.drew) hv 0
    have d3w:W.cell? ⟨q+1+1+1,0,none⟩=some (.bool false):=d3
    have d4w:W.cell? ⟨q+1+1+1+1,0,none⟩=some (.bool true):=d4
    have e3w:W.frozen? ⟨q+1+1+1,0,none⟩=false:=e3
    have e4w:W.frozen? ⟨q+1+1+1+1,0,none⟩=false:=Lib.frozen_of_heap hv 0
    gi_upto_region 9 with fail
    have S0:Hid ((fun u:World=>u.cell? ⟨q+1+1+1,0,none⟩=some (.bool false)∧u.cell? ⟨q+1+1+1+1,0,none⟩=some (.bool true)∧u.cell? ⟨Bx,2,none⟩=some (.int .i64 0)) W.drew):=hid ⟨d3,d4,dx⟩
    have S1:Hid ((fun u:World=>u.cell? ⟨q+1+1+1,0,none⟩=some (.bool false)∧u.cell? ⟨q+1+1+1+1,0,none⟩=some (.bool true)∧u.cell? ⟨Bx,2,none⟩=some (.int .i64 0)) (W.drew.setCell ⟨q+1+1+1,0,none⟩ (.bool false))):=hid ⟨d3',d4',dx'⟩
    apply cut_region
    ·refine U_beginR (late:=fun k=>decide (13≤k)) (S:=fun u:World=>u.cell? ⟨q+1+1+1,0,none⟩=some (.bool false)∧u.cell? ⟨q+1+1+1+1,0,none⟩=some (.bool true)∧u.cell? ⟨Bx,2,none⟩=some (.int .i64 0)) (fun _ _ h=>h) (by kernel_rfl) (by kernel_rfl) ?_
     refine U_take2 8 (i:=0) (v:=.bool false) rfl (by kernel_rfl) (by kernel_rfl) (by kernel_rfl) (by kernel_rfl) (by kernel_rfl) (fun _ _ _ h=>h) (.inl ⟨rfl,fun u hu=>(by obtain ⟨h1,h2,h3⟩:=hu;go_simp)⟩) S0.out ?_
     refine U_take2 8 (i:=1) (v:=.bool false) rfl (by kernel_rfl) (by kernel_rfl) (by kernel_rfl) (by kernel_rfl) (by kernel_rfl) (fun _ _ _ h=>h) (.inl ⟨rfl,fun u hu=>(by go_simp)⟩) S0.out ?_
     refine U_take2 8 (i:=2) (v:=.pointer (some ⟨Bx,2,none⟩)) rfl (by kernel_rfl) (by kernel_rfl) (by kernel_rfl) (by kernel_rfl) (by kernel_rfl) (fun _ _ _ h=>h) (.inl ⟨by kernel_rfl,fun u hu=>(by go_simp)⟩) S0.out ?_
     refine U_take2 8 (i:=3) (v:=.int .i64 0) rfl (by kernel_rfl) (by kernel_rfl) (by kernel_rfl) (by kernel_rfl) (by kernel_rfl) (fun _ _ _ h=>h) (.inl ⟨by kernel_rfl,fun u hu=>(by obtain ⟨h1,h2,h3⟩:=hu;go_simp)⟩) S0.out ?_
     refine U_take2 8 (i:=4) (v:=.bool false) rfl (by kernel_rfl) (by kernel_rfl) (by kernel_rfl) (by kernel_rfl) (by kernel_rfl) (fun _ _ _ h=>h) (.inl ⟨by kernel_rfl,fun u hu=>(by go_simp)⟩) S0.out ?_
     refine U_take2 8 (i:=5) (v:=.bool false) rfl (by kernel_rfl) (by kernel_rfl) (by kernel_rfl) (by kernel_rfl) (by kernel_rfl) (fun _ _ _ h=>h) (.inl ⟨rfl,fun u hu=>(by go_simp)⟩) S0.out ?_
     refine U_take2 8 (i:=6) (v:=.bool true) rfl (by kernel_rfl) (by kernel_rfl) (by kernel_rfl) (by kernel_rfl) (by kernel_rfl) (fun _ _ _ h=>h) (.inl ⟨rfl,fun u hu=>(by obtain ⟨h1,h2,h3⟩:=hu;go_simp)⟩) S0.out ?_
     refine U_take2 8 (i:=7) (v:=.bool true) rfl (by kernel_rfl) (by kernel_rfl) (by kernel_rfl) (by kernel_rfl) (by kernel_rfl) (fun _ _ _ h=>h) (.inl ⟨rfl,fun u hu=>(by go_simp)⟩) S0.out ?_
     refine U_take2 8 (i:=8) (v:=undef) rfl (by kernel_rfl) (by kernel_rfl) (by kernel_rfl) (by kernel_rfl) (by kernel_rfl) (fun _ _ _ h=>h) (.inr ⟨by go_simp,rfl⟩) S0.out ?_
     refine U_two (j1:=9) (j2:=12) (by kernel_rfl) rfl rfl (fun K9 hK9=>?_) (fun K9 hK9=>?_)
     ·go_simp
      refine hK9.out _ _ (.inr S0.out) ?_
      clear hK9 K9
      refine U_take2 8 (i:=10) (v:=undef) rfl (by kernel_rfl) (by kernel_rfl) (by kernel_rfl) (by kernel_rfl) (by kernel_rfl) (fun _ _ _ h=>h) (.inr ⟨by go_simp,rfl⟩) S0.out ?_
      refine U_take2 8 (i:=11) (v:=.bool true) rfl (by kernel_rfl) (by kernel_rfl) (by kernel_rfl) (by kernel_rfl) (by kernel_rfl) (fun _ _ _ h=>h) (.inl ⟨rfl,fun u hu=>(by go_simp)⟩) S0.out ?_
      refine U_step (j:=12) (by kernel_rfl) rfl (fun K9 hK9=>?_)
      go_simp
      refine hK9.out _ _ (.inr S1.out) ?_
      clear hK9 K9
      refine U_step (j:=13) (by kernel_rfl) rfl (fun K9 hK9=>?_)
      go_simp
      refine hK9.out _ _ (.inl rfl) ?_
      clear hK9 K9
      exact U_done (by kernel_rfl) ⟨rfl,rfl⟩ _
     ·go_simp
      refine hK9.out _ _ (.inr S1.out) ?_
      clear hK9 K9
      refine U_step (j:=9) (by kernel_rfl) rfl (fun K9 hK9=>?_)
      go_simp
      refine hK9.out _ _ (.inr S1.out) ?_
      clear hK9 K9
      refine U_take2 8 (i:=10) (v:=undef) rfl (by kernel_rfl) (by kernel_rfl) (by kernel_rfl) (by kernel_rfl) (by kernel_rfl) (fun _ _ _ h=>h) (.inr ⟨by go_simp,rfl⟩) S1.out ?_
      refine U_take2 8 (i:=11) (v:=.bool true) rfl (by kernel_rfl) (by kernel_rfl) (by kernel_rfl) (by kernel_rfl) (by kernel_rfl) (fun _ _ _ h=>h) (.inl ⟨rfl,fun u hu=>(by go_simp)⟩) S1.out ?_
      refine U_step (j:=13) (by kernel_rfl) rfl (fun K9 hK9=>?_)
      go_simp
      refine hK9.out _ _ (.inl rfl) ?_
      clear hK9 K9
      exact U_done (by kernel_rfl) ⟨rfl,rfl⟩ _
    obtain ⟨W2,hW2⟩:∃ W2,W2=((W.setCell ⟨q+1+1+1,0,none⟩ (.bool false)).setCell ⟨q+1+1+1+1,0,none⟩ (.bool true)).drew:=⟨_,rfl⟩
    have hi2:FSt s (.slice a l.length cap) B m ab q w (cntC (ps.take k)) (outF ps l k) W2:=by rw [hW2];exact HI.out.marks
    have hst2:StepF [ab+1,q+2,q+3,q+4] B W W2:=by
     rw [hW2]
     exact (StepF.of_only (A':=[q+3,q+4]) ((OnlyS.set (a:=⟨q+3,0,none⟩) (by simp) _).trans (OnlyS.set (a:=⟨q+4,0,none⟩) (by simp) _)) (by simp) (by simp;omega) (by omega)).trans (StepF.of_below (Below.refl _ _).drew (by simp [World.setCell];omega))
    have hX2:W2.heap[Bx]? = some (.cells #[.int .i64 (i:Nat),.string ⟨#[]⟩,.int .i64 0,.string ⟨fl.toArray⟩,.int .i64 nw,.int .i64 (-1),.bool false,.bool false,.int .u8 (c.toNat:Nat),.bool false,.string ⟨#[]⟩] 78 (0,0)):=hst2.cells HX.out hBA (by decide)
    rw [← hW2]
    clear hW2 d3 d4 e3 dx hBq d3' d4' dx' e4' d3w d4w e3w e4w S0 S1 x0 x1 x2 x3 x4 x5 x6 x7 x8 x9 x10 hv
    have x0:W2.cell? ⟨Bx,0,none⟩=some (.int .i64 (i:Nat)):=(Lib.cell_of_heap hX2 0).trans rfl
    have x1:W2.cell? ⟨Bx,1,none⟩=some (.string ⟨#[]⟩):=(Lib.cell_of_heap hX2 1).trans rfl
    have x2:W2.cell? ⟨Bx,2,none⟩=some (.int .i64 0):=(Lib.cell_of_heap hX2 2).trans rfl
    have x3:W2.cell? ⟨Bx,3,none⟩=some (.string ⟨fl.toArray⟩):=(Lib.cell_of_heap hX2 3).trans rfl
    have x4:W2.cell? ⟨Bx,4,none⟩=some (.int .i64 nw):=(Lib.cell_of_heap hX2 4).trans rfl
    have x5:W2.cell? ⟨Bx,5,none⟩=some (.int .i64 (-1)):=(Lib.cell_of_heap hX2 5).trans rfl
    have x6:W2.cell? ⟨Bx,6,none⟩=some (.bool false):=(Lib.cell_of_heap hX2 6).trans rfl
    have x7:W2.cell? ⟨Bx,7,none⟩=some (.bool false):=(Lib.cell_of_heap hX2 7).trans rfl
    have x8:W2.cell? ⟨Bx,8,none⟩=some (.int .u8 (c.toNat:Nat)):=(Lib.cell_of_heap hX2 8).trans rfl
    have x9:W2.cell? ⟨Bx,9,none⟩=some (.bool false):=(Lib.cell_of_heap hX2 9).trans rfl
    have x10:W2.cell? ⟨Bx,10,none⟩=some (.string ⟨#[]⟩):=(Lib.cell_of_heap hX2 10).trans rfl
    have d3:W2.cell? ⟨q+1+1+1,0,none⟩=some (.bool false):=(Lib.cell_of_heap hi2.pl 0).trans rfl
    have k1:W2.cell? ⟨q+1,0,none⟩=some (.func (.func 86) #[] #[.pointer (some ⟨ab+1,0,none⟩),.pointer (some ⟨ab,0,none⟩)]):=(Lib.cell_of_heap hi2.tk 0).trans rfl
    have HFL:=hid (filled_fn (A:=(i:Nat)) (wd:=nw) (pr:=-1) (tx:=[]) (fl:=fl) (c:=c) 86 #[.pointer (some ⟨ab+1,0,none⟩),.pointer (some ⟨ab,0,none⟩)] W2)
    have HI2:=hid hi2
    have HST2:=hid hst2
    clear hi2 hst2 hX2
    gi_wp2_with fail
    refine ⟨trivial,(calls_round HFL.out).mono ?_⟩
    rintro e W3 ⟨rfl,hb3⟩
    have hi3:=HI2.out.below hb3
    have hst3:=HST2.out.trans (StepF.of_below hb3 (by have:=HI2.out.num;omega))
    obtain ⟨W4,hW4⟩:∃ W4,W4=W3.alloc (.cells #[.int .i64 (i:Nat),.string ⟨#[]⟩,.int .i64 0,.string ⟨fl.toArray⟩,.int .i64 nw,.int .i64 (-1),.bool false,.bool false,.int .u8 (c.toNat:Nat),.bool false,.string ⟨#[]⟩] 78):=⟨_,rfl⟩
    have hi4:FSt s (.slice a l.length cap) B m ab q w (cntC (ps.take k)) (outF ps l k) W4:=by rw [hW4];exact hi3.below (belowS _ _)
    have hst4:StepF [ab+1,q+2,q+3,q+4] B W W4:=by rw [hW4];exact hst3.trans (StepF.of_below (belowS _ _) (by have:=hi3.num;omega))
    have hc4:W4.heap[W3.heap.size]? = some (.cells #[.int .i64 (i:Nat),.string ⟨#[]⟩,.int .i64 0,.string ⟨fl.toArray⟩,.int .i64 nw,.int .i64 (-1),.bool false,.bool false,.int .u8 (c.toNat:Nat),.bool false,.string ⟨#[]⟩] 78 (0,0)):=by rw [hW4];exact heap_alloc_new _ _
    have hl3:q+1<W3.heap.size:=by have:=hi3.num;omega
    have k1:W3.cell? ⟨q+1,0,none⟩=some (.func (.func 86) #[] #[.pointer (some ⟨ab+1,0,none⟩),.pointer (some ⟨ab,0,none⟩)]):=(Lib.cell_of_heap hi3.tk 0).trans rfl
    have hav4:StrsAt W4 (.slice a l.length cap) l:=HAV.out.below (by rw [← HBB.out];exact hi4.low)
    have HTK:=hid (taken1_fn hi4.ts hav4 (k:=cntC (ps.take k)) (by rw [hcnt] at hall;have h9:cntC [Pc.cnv fl wd c]=1:=rfl;omega) (by omega))
    have HW4:=hid hW4
    have HI4:=hid hi4
    have HST4:=hid hst4
    have HC4:=hid hc4
    clear hb3 hi3 hst3 hW4 hi4 hst4 hc4 hav4 x0 x1 x2 x3 x4 x5 x6 x7 x8 x9 x10 d3 HFL
    gi_wp2_with fail
    rw [← HW4.out]
    refine ⟨trivial,(calls_round HTK.out).mono ?_⟩
    rintro e W5 ⟨rfl,hts5,ho5⟩
    have hn4:=HI4.out.num
    have hb5:Bld W5 (q+2) (outF ps l k):=HI4.out.bd.of fun g hg hl=>ho5.block g hl (by simp;omega)
    have hi5:=HI4.out.next hts5 ho5 hb5
    have hst5:=HST4.out.trans (StepF.of_only (A:=[ab+1,q+2,q+3,q+4]) (B:=B) ho5 (by simp) (by simp;omega) (by omega))
    have hne5:W3.heap.size≠ab+1:=by omega
    have hc5:W5.heap[W3.heap.size]? = some (.cells #[.int .i64 (i:Nat),.string ⟨#[]⟩,.int .i64 0,.string ⟨fl.toArray⟩,.int .i64 nw,.int .i64 (-1),.bool false,.bool false,.int .u8 (c.toNat:Nat),.bool false,.string ⟨#[]⟩] 78 (0,0)):=ho5.cells HC4.out (by simpa using hne5)
    obtain ⟨arg,harg⟩:∃ arg,arg=l[cntC (ps.take k)]'(by rw [hcnt] at hall;have h9:cntC [Pc.cnv fl wd c]=1:=rfl;omega):=⟨_,rfl⟩
    rw [← harg]
    have hargl:arg.length≤100000:=hla _ (by rw [harg];exact List.getElem_mem _)
    have hargC:argC ps l k=arg:=by
     unfold argC
     rw [harg,List.getD_eq_getElem?_getD,List.getElem?_eq_getElem (by rw [hcnt] at hall;have h9:cntC [Pc.cnv fl wd c]=1:=rfl;omega),Option.getD_some]
    obtain ⟨F,hF1,hent,hF2⟩:=write_fn (A:=(i:Nat)) (wd:=nw) (tx:=[]) (fl:=fl) HCP.out.letter arg hargl hw1 hw2
    have hml5:c=113→ML W5:=fun e=>(hml ⟨fl,wd,by rw [← e];exact hmem⟩).below (by rw [← HBB.out];exact hi5.low)
    have HWT:=hid (hF2 W5 hml5)
    have hlk:=hi5.wm.look c F hF1
    have hfd:∀ u:World,(Instr.field 90 (.agg #[.func (.func F) #[] #[]]) 0).run Tryz.prog u=.ok (.func (.func F) #[] #[]) u:=fun u=>by kernel_rfl
    have k0:W5.cell? ⟨q,0,none⟩=some (.map (some m)):=(Lib.cell_of_heap hi5.lt 0).trans rfl
    have x0:W5.cell? ⟨W3.heap.size,0,none⟩=some (.int .i64 (i:Nat)):=(Lib.cell_of_heap hc5 0).trans rfl
    have x1:W5.cell? ⟨W3.heap.size,1,none⟩=some (.string ⟨#[]⟩):=(Lib.cell_of_heap hc5 1).trans rfl
    have x2:W5.cell? ⟨W3.heap.size,2,none⟩=some (.int .i64 0):=(Lib.cell_of_heap hc5 2).trans rfl
    have x3:W5.cell? ⟨W3.heap.size,3,none⟩=some (.string ⟨fl.toArray⟩):=(Lib.cell_of_heap hc5 3).trans rfl
    have x4:W5.cell? ⟨W3.heap.size,4,none⟩=some (.int .i64 nw):=(Lib.cell_of_heap hc5 4).trans rfl
    have x5:W5.cell? ⟨W3.heap.size,5,none⟩=some (.int .i64 (-1)):=(Lib.cell_of_heap hc5 5).trans rfl
    have x6:W5.cell? ⟨W3.heap.size,6,none⟩=some (.bool false):=(Lib.cell_of_heap hc5 6).trans rfl
    have x7:W5.cell? ⟨W3.heap.size,7,none⟩=some (.bool false):=(Lib.cell_of_heap hc5 7).trans rfl
    have x8:W5.cell? ⟨W3.heap.size,8,none⟩=some (.int .u8 (c.toNat:Nat)):=(Lib.cell_of_heap hc5 8).trans rfl
    have x9:W5.cell? ⟨W3.heap.size,9,none⟩=some (.bool false):=(Lib.cell_of_heap hc5 9).trans rfl
    have x10:W5.cell? ⟨W3.heap.size,10,none⟩=some (.string ⟨#[]⟩):=(Lib.cell_of_heap hc5 10).trans rfl
    have herr9:(writeE fl nw (-1) c arg).2=0:=by
     rw [hargC] at herk
     rw [HNW.out]
     exact herk
    have HE:=hid herr9
    obtain ⟨ot,hot⟩:∃ ot,ot=(writeE fl nw (-1) c arg).1:=⟨_,rfl⟩
    rw [← hot,HE.out] at HWT
    have HOT:=hid hot
    have HARG:=hid hargC
    have HI5:=hid hi5
    have HST5:=hid hst5
    clear harg hargC hF1 hF2 hml5 herr9 hot hts5 ho5 hb5 hi5 hst5 hc5 k1 HI4 HST4 HC4 HTK hargl HI2 HST2
    gi_wp2_with fail
    refine ⟨trivial,(calls_round HWT.out).mono ?_⟩
    rintro e W6 ⟨rfl,hb6⟩
    have hi6:=HI5.out.below hb6
    have hst6:=HST5.out.trans (StepF.of_below hb6 (by have:=HI5.out.num;omega))
    have hcnt9:cntC (ps.take (k+1))=cntC (ps.take k)+1:=hcnt
    have houtk:outF ps l (k+1)=outF ps l k++ot:=by
     rw [houtS,HARG.out,HOT.out,HNW.out]
     rfl
    have hl9:(outF ps l k).length+ot.length≤65536:=by rw [houtk,List.length_append] at hbnd;exact hbnd
    have HWS:=hid (wstr_fn hi6.bd ot (by omega))
    obtain ⟨no,hno⟩:∃ no,no=(outF ps l k++ot).length:=⟨_,rfl⟩
    have hno9:no≤65536:=by rw [hno,List.length_append];exact hl9
    have HNO:=hid hno
    have HCNT:=hid hcnt9
    have HOUT:=hid houtk
    have HI6:=hid hi6
    have HST6:=hid hst6
    clear hno hcnt9 houtk hl9 hi6 hst6 hb6 x0 x1 x2 x3 x4 x5 x6 x7 x8 x9 x10 k0 hlk hfd hent HI5 HST5 HWT
    gi_wp2_with (first|((with_reducible refine And.intro ?_ ?_);exact trivial;gi_at_call 48;refine (calls_round HWS.out).mono ?_;rintro e W7 ⟨rfl,hbd7,hk7⟩;have hi7:=HI6.out.built hbd7 hk7;have hst7:=HST6.out.trans (StepF.of_kept (A:=[ab+1,q+2,q+3,q+4]) (B:=B) hk7 (by simp) (by omega));have hX7:=hst7.cells HX.out hBA (by decide);have y8:=(Lib.cell_of_heap hX7 8).trans rfl;have hlen:=len_fn hbd7;rw [← HNO.out] at hlen;have HLEN:=hid hlen;have HI7:=hid hi7;have HST7:=hid hst7;clear hbd7 hk7 hi7 hst7 hX7 hlen)|((with_reducible refine And.intro ?_ ?_);exact trivial;gi_at_call 51;refine (calls_round HLEN.out).mono ?_;rintro e W9 ⟨rfl,rfl⟩))
    exact FIN.out ⟨#[],[]⟩ _ HST7.out (by rw [HCNT.out,HOUT.out];exact HI7.out)
 case done=>
  rintro D W hD hi hK
  have hSTR:=hid (str_fn hi.bd)
  have HI:=hid hi
  have HK:=hid hK
  obtain ⟨n1,n2,n3,n4,n5⟩:=hi.num
  clear hi hK
  gi_wp2_with (refine ⟨trivial,?_⟩;gi_at_call 52;refine (callsIn_wide.2 hSTR.out).mono ?_;rintro e W1 ⟨rfl,hbd1,hk1⟩;have hi1:=HI.out.built hbd1 hk1;have r0:=Lib.cell_of_heap hi1.rs 0;have r1:=Lib.cell_of_heap hi1.pt 0;have r2:=Lib.cell_of_heap hi1.er 0;have f0:=Lib.frozen_of_heap hi1.rs 0;have f1:=Lib.frozen_of_heap hi1.pt 0;have f2:=Lib.frozen_of_heap hi1.er 0;have hk2:=hk1.2 D _ HK.out (fun e=>by have:=Option.some.inj e;omega) (fun c fz e=>by cases e);have HI1:=hid hi1;have HK2:=hid hk2;clear hbd1 hk1 hi1 hk2)
  rw [List.take_of_length_le (Nat.le_refl _)] at HI1
  have hD9:q+7≤D:=by omega
  refine format_end (b:=B) (w:=w) HBB.out (by omega) ?_ ?_ ?_ ?_ ?_ rfl rfl rfl
  ·exact (heap_setO _ (by omega) _).trans ((heap_setO _ (by omega) _).trans (heap_set1 HI1.out.rs _))
  ·exact (heap_setO _ (by omega) _).trans (heap_set1 ((heap_setO _ (by omega) _).trans HI1.out.pt) _)
  ·exact heap_set1 ((heap_setO _ (by omega) _).trans ((heap_setO _ (by omega) _).trans HI1.out.er)) _
  ·exact (heap_setO _ (by omega) _).trans ((heap_setO _ (by omega) _).trans ((heap_setO _ (by omega) _).trans HK2.out))
  ·exact ((HI1.out.low.setCell (by show B≤B;omega) _).setCell (by show B≤B+1;omega) _).setCell (by show B≤B+1+1;omega) _
end Go.Proofs.YtbilphfbfnohmaaGreatDoor.Pz
