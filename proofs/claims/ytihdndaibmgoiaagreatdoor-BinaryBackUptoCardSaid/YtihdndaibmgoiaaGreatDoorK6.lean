/-
  Part K6 of the proofs of this seat, merged by a program out of 4 texts; remarks are struck.
-/
import Derived.Maps.OwnIn
import Derived.OrdersIn
import Derived.RangeFuncCalls
import Derived.Sort.CutIn
import Derived.Sort.Row
import Derived.Test.YtihdndaibmgoiaaGreatDoorK5
namespace Go.Proofs.YtihdndaibmgoiaaGreatDoor.Pz
open Go.RowKit Go.Shelf
attribute [local go_sem] Oper.semAt_some
theorem fields_fn (s:Str) (w:World):Calls Tryz.prog 73 #[.string ⟨s.toArray⟩] w fun e w'=>e=.returned (.func (.func 120) #[] #[.pointer (some ⟨w.heap.size,0,none⟩)])∧Below w.heap.size w w'∧w'.heap[w.heap.size]? = some (.cells #[.string ⟨s.toArray⟩] 9 (0,0))∧w'.heap.size=w.heap.size+1:=by
 have hmf:∀ (fn:Fn) (first cap:Array Value) (w:World),(Instr.makeFunc fn first cap).run Tryz.prog w=.ok (.func fn first cap) w:=fun _ _ _ _=>rfl
 go_enter Tryz.func73,Tryz.ntmps73
 go_wp2
 go_ret
 exact ⟨rfl,belowA _ _,heap_alloc_new _ _,by simp⟩
abbrev FldIn (s:Str):={ f:Fld // f∈fldsE s }
theorem fields_stopsI {B p:Nat} {s:Str} (hs:s.length≤1000000) {w:World} (N:Nat) (hp:w.heap[p]? = some (.cells #[.string ⟨s.toArray⟩] 9 (0,0))) (hB:B≤w.heap.size) :
  SeqStopsK Fence.wide N Tryz.prog 120 #[.pointer (some ⟨p,0,none⟩)] (fun x:FldIn s=>encF x.1) (KpF B p) (fun xs=>xs.map Subtype.val=fldsE s) (fun pre=>pre.map Subtype.val <+: fldsE s) (fldsE s).length w:=by
 intro l J Jx W hW hJ hJx hY h0
 refine (fields1_in l B p s hs (fun pre W=>∃ q:List (FldIn s),q.map Subtype.val=pre∧J q W) (fun pre W=>∃ q:List (FldIn s),q.map Subtype.val=pre∧Jx q W) W N ?_ ((hW.block p (Array.getElem?_eq_some_iff.1 hp).1).trans hp) (Nat.le_trans hB hW.size) ?_ ⟨[],rfl,h0⟩).mono ?_
 ·rintro pre x W1 ⟨q,rfl,hq⟩ hpre
  have hx:x∈fldsE s:=hpre.subset (List.mem_append_right _ (List.mem_singleton.2 rfl))
  have hlen:q.length<(fldsE s).length:=by
   have:=hpre.length_le
   simp at this
   omega
  obtain ⟨fn,tmps,assign,body,hy,hR⟩:=hY q ⟨x,hx⟩ W1 hq hlen
  refine ⟨fn,tmps,assign,body,hy,hR.mono ?_⟩
  rintro e W2 (⟨he,hj,hk⟩ | ⟨he,hj⟩)
  ·exact .inl ⟨he,⟨q++[⟨x,hx⟩],by simp,hj⟩,hk⟩
  ·exact .inr ⟨he,⟨q++[⟨x,hx⟩],by simp,hj⟩⟩
 ·rintro pre W1 W2 ⟨q,hq,h⟩ hb
  exact ⟨q,hq,hJ q W1 W2 none h ⟨hb.os,hb.tape,hb.output,hb.size,fun k hk _=>hb.block k hk⟩ (fun r e=>by cases e)⟩
 ·rintro e W' ⟨he,⟨q,hq,h⟩ | ⟨pre,hpre,q,hq,h⟩⟩
  ·exact ⟨he,.inl ⟨q,hq,h⟩⟩
  ·exact ⟨he,.inr ⟨q,by show q.map Subtype.val <+: fldsE s;rw [hq];exact hpre,h⟩⟩
theorem fields_stops {B p:Nat} {s:Str} (hs:s.length≤1000000) {w:World} (N:Nat) (hp:w.heap[p]? = some (.cells #[.string ⟨s.toArray⟩] 9 (0,0))) (hB:B≤w.heap.size) :
  SeqStopsK Fence.wide N Tryz.prog 120 #[.pointer (some ⟨p,0,none⟩)] encF (KpF B p) (fun xs=>xs=fldsE s) (fun pre=>pre <+: fldsE s) (fldsE s).length w:=by
 intro l J Jx W hW hJ hJx hY h0
 refine (fields1_in l B p s hs J Jx W N (fun pre x W1 hj hpre=>hY pre x W1 hj (by have:=hpre.length_le;simp at this;omega)) ((hW.block p (Array.getElem?_eq_some_iff.1 hp).1).trans hp) (Nat.le_trans hB hW.size)
  (fun s W1 W2 h hb=>hJ s W1 W2 none h ⟨hb.os,hb.tape,hb.output,hb.size,fun k hk _=>hb.block k hk⟩ (fun r e=>by cases e)) h0).mono ?_
 rintro e W' ⟨he,h | ⟨pre,hpre,h⟩⟩
 ·exact ⟨he,.inl ⟨_,rfl,h⟩⟩
 ·exact ⟨he,.inr ⟨pre,hpre,h⟩⟩
theorem cells_turn {X Y:World} {row:Option Nat} {B k:Nat} {cs:Array Value} {t:TypeId} {fz:Nat×Nat} (hg:X.grownBy Y row) (hr:∀ r,row=some r→B≤r∧∃ o:Obj,X.heap[r]? = some o∧o.isCells=false) (h:X.heap[k]? = some (.cells cs t fz)):Y.heap[k]? = some (.cells cs t fz):=by
 rw [hg.block k (Array.getElem?_eq_some_iff.1 h).1 fun e=>?_]
 ·exact h
 ·obtain ⟨_,o,ho,hc⟩:=hr k e.symm
  rw [h] at ho
  cases ho
  cases hc
theorem below_turn {w X Y:World} {row:Option Nat} {B:Nat} (hb:Below B w X) (hB:B≤w.heap.size) (hg:X.grownBy Y row) (hr:∀ r,row=some r→B≤r∧∃ o:Obj,X.heap[r]? = some o∧o.isCells=false):Below B w Y:=hb.grown hg (Nat.le_trans hB hb.size) fun k e=>(hr k e).1
structure VAt (b:Nat) (w:World) (ok:Fld→Bool) (pre:List Fld) (W:World):Prop where
 big:b+1<W.heap.size
 r:W.heap[b]? = some (.cells #[.bool false] 4 (0,0))
 low:Below b w W
 oks:∀ x∈pre,ok x=true
structure VEnd (b:Nat) (w:World) (ok:Fld→Bool) (pre:List Fld) (W:World):Prop where
 r:W.heap[b]? = some (.cells #[.bool false] 4 (0,0))
 low:Below b w W
 bad:∃ x∈pre,ok x=false
theorem VAt.own {b B:Nat} {w:World} {ok:Fld→Bool} (hB:b≤B) (hbw:b≤w.heap.size):OwnFrom B (VAt b w ok):=by
 rintro pre X Y row h hg hr
 exact ⟨Nat.lt_of_lt_of_le h.big hg.size,cells_turn hg hr h.r,below_turn h.low hbw hg (fun r e=>⟨Nat.le_trans hB (hr r e).1,(hr r e).2⟩),h.oks⟩
theorem VEnd.own {b B:Nat} {w:World} {ok:Fld→Bool} (hB:b≤B) (hbw:b≤w.heap.size):OwnFrom B (VEnd b w ok):=by
 rintro pre X Y row h hg hr
 exact ⟨cells_turn hg hr h.r,below_turn h.low hbw hg (fun r e=>⟨Nat.le_trans hB (hr r e).1,(hr r e).2⟩),h.bad⟩
set_option maxRecDepth 100000 in
theorem valid_end {s:Str} {b D:Nat} {w W:World} {q:Bool} {u3 u4 u5 u6 u7 u8 u9:Value} (hb:b=w.heap.size) (hD:b<D) (h0:W.heap[b]? = some (.cells #[.bool q] 4 (0,0))) (hK:W.heap[D]? = some (.deferred (some []))) (hlow:Below b w W) (hq:q=validE s) :
  bodyPostM Fence.wide 5 Tryz.prog Tryz.f79 (fun e w'=>e=.returned (.bool (validE s))∧Below w.heap.size w w') Exit.ret
   { tmps:=#[.string ⟨s.toArray⟩,undef,.pointer (some ⟨b,0,none⟩),u3,u4,u5,u6,u7,u8,u9],defers:=[{ target:=.collected D,args:=#[] }] } W:=by
 have g0:(W.putObj D (.deferred none)).heap[b]? = some (.cells #[.bool q] 4 (0,0)):=(World.putObj_heap_other (by omega)).trans h0
 have c0:(W.putObj D (.deferred none)).cell? ⟨b,0,none⟩=some (.bool q):=by rw [Lib.cell_of_heap g0];rfl
 refine ⟨by simp,.inl ⟨_,_,rfl,run_takeDeferred hK,?_⟩⟩
 refine ⟨.bool q,?_,by rw [hq],?_⟩
 ·simp [results,Tryz.results79,asAddr,go_sem,c0]
 ·rw [← hb]
  exact hlow.trans ⟨rfl,rfl,rfl,by rw [World.putObj_size];exact Nat.le_refl _,fun k hk=>World.putObj_heap_other (by omega)⟩
set_option maxRecDepth 100000 in
set_option maxHeartbeats 1000000 in
theorem valid_fn (s:Str) (hs:s.length≤1000000) (w:World):Calls Tryz.prog 79 #[.string ⟨s.toArray⟩] w fun e w'=>e=.returned (.bool (validE s))∧Below w.heap.size w w':=by
 refine (callsIn_wide (n:=5)).1 ?_
 refine callsIn_of_wp_marks Tryz.func79 rfl trivial ?_ rfl
 simp only [Tryz.ntmps79,List.size_toArray,List.length_cons,List.length_nil,Nat.reduceAdd,Nat.reduceSub,Array.replicate_succ,Array.replicate_zero,List.push_toArray,List.append_toArray,List.nil_append,List.cons_append]
 obtain ⟨W0,hW0⟩:∃ W0,W0=w.alloc (.cells #[.bool false] 4):=⟨_,rfl⟩
 have hs0:W0.heap.size=w.heap.size+1:=by rw [hW0];simp
 have h0:W0.heap[w.heap.size]? = some (.cells #[.bool false] 4 (0,0)):=by rw [hW0];exact heap_alloc_new _ _
 have hb0:Below w.heap.size w W0:=by rw [hW0];exact belowA _ _
 have HE:=hid (fields_fn s W0)
 have HW0:=hid hW0
 have H0:=hid h0
 have HB0:=hid hb0
 have HS0:=hid hs0
 clear hW0 h0 hb0 hs0
 gi_wp2_with (refine ⟨trivial,?_⟩;gi_at_call 73;rw [← HW0.out];refine (callsIn_wide.2 HE.out).mono ?_;rintro e w1 ⟨rfl,hbe,hep,hsz1⟩)
 rw [HS0.out] at hep hsz1
 rw [HS0.out]
 have hbw:Below w.heap.size w w1:=HB0.out.trans (hbe.mono (by rw [HS0.out];omega))
 have hI0:VAt w.heap.size w (fun f=>f.letter != 0) [] w1:=⟨by omega,(hbe.block _ (by rw [HS0.out];omega)).trans H0.out,hbw,fun x hx=>absurd hx (by simp)⟩
 obtain ⟨b,hb⟩:∃ b,b=w.heap.size:=⟨_,rfl⟩
 have HBE:=hid hb
 rw [← hb] at hep hsz1 hI0 ⊢
 have hbw1:b≤w.heap.size:=by omega
 clear hbe HE H0 HB0 HW0 HS0 hb
 refine wpIn_rangeFunc_ownH rfl (by omega) (gf:=120) (lb:=#[.pointer (some ⟨b+1,0,none⟩)]) rfl trivial (enters_of Tryz.func120 (by kernel_rfl) rfl)
  (fields_stops (B:=b) hs _ hep (by omega)) KpF.trans (fun W l o o' hl h h1 h2=>⟨belowK_b (w:=w1) (by omega) W l o o' hl h h1 h2,World.putObj_heap_other (by omega)⟩) (Below.refl _ _) (fun _=>rfl)
  (VAt b w (fun f=>f.letter != 0)) (fun c pre W=>c=.ret∧VEnd b w (fun f=>f.letter != 0) pre W)
  (VAt.own (B:=w1.heap.size) (by omega) hbw1) (fun c s' X Y row h hg hr=>⟨h.1,VEnd.own (B:=w1.heap.size) (by omega) hbw1 s' X Y row h.2 hg hr⟩) hI0
  (fun x a' W=>∃ Bx,b<Bx∧W.heap[Bx]? = some (.cells #[.int .u8 (x.letter.toNat:Nat),.bool x.plain,.int .i64 x.count] 79 (0,0))∧a' = { tmps:=#[.string ⟨s.toArray⟩,undef,.pointer (some ⟨b,0,none⟩),.pointer (some ⟨Bx,0,none⟩),.string ⟨s.toArray⟩,.func (.func 120) #[] #[.pointer (some ⟨b+1,0,none⟩)],fldV x,undef,undef,undef],defers:=[] })
  (fun x a' s' X Y row h hg hr=>by obtain ⟨Bx,h1,h2,h3⟩:=h;exact ⟨Bx,h1,cells_turn hg hr h2,h3⟩) ?assign ?body ?done ?stop
 case assign=>
  rintro l pre x W K hi hK
  unfold encF fldV
  gi_wp2
  exact hK _ _ ((KeepsOthers.alloc _ _).from _) (KpF.of (belowA _ _) (by have:=(Array.getElem?_eq_some_iff.1 hi.r).1;omega) (by have:=hi.big;omega)) ((VAt.own (B:=b) (Nat.le_refl _) hbw1).alloc _ hi) ⟨W.heap.size,(Array.getElem?_eq_some_iff.1 hi.r).1,heap_alloc_new _ _,rfl⟩
 case body=>
  rintro l pre ⟨c,pl,n⟩ a' W hl hr hi ⟨Bx,hBx,hX,rfl⟩ hlt
  dsimp only at hX
  have x0:W.cell? ⟨Bx,0,none⟩=some (.int .u8 (c.toNat:Nat)):=by rw [Lib.cell_of_heap hX];rfl
  have r0:W.cell? ⟨b,0,none⟩=some (.bool false):=by rw [Lib.cell_of_heap hi.r];rfl
  have r1:W.frozen? ⟨b,0,none⟩=false:=Lib.frozen_of_heap hi.r 0
  have HI:=hid hi
  clear hi
  unfold fldV
  dsimp only
  by_cases hc:c=0
  ·have y0:((c.toNat:Int) == 0)=true:=by rw [hc];rfl
   have HC:=hid hc
   clear hc
   gi_wp2
   refine ⟨(KeepsOthers.setCell _ _ _).from _,rfl,?_,HI.out.low.setCell (Nat.le_refl _) _,_,List.mem_append_right _ (List.mem_singleton.2 rfl),?_⟩
   ·simp [World.setCell,Array.getElem?_modify,HI.out.r]
   ·show ((c != 0):Bool)=false
    rw [HC.out]
    rfl
  ·have n0:=byte_ne 0 hc rfl
   have HC:=hid hc
   clear hc
   gi_wp2
   refine ⟨(KeepsOthers.refl _).from _,KpF.refl _ _ _,HI.out.big,HI.out.r,HI.out.low,?_⟩
   intro x hx
   rcases List.mem_append.1 hx with hx | hx
   ·exact HI.out.oks x hx
   ·rw [List.mem_singleton.1 hx]
    show ((c != 0):Bool)=true
    simpa using HC.out
 case done=>
  rintro D xs W hD rfl hi hK
  have r0:W.cell? ⟨b,0,none⟩=some (.bool false):=by rw [Lib.cell_of_heap hi.r];rfl
  have r1:W.frozen? ⟨b,0,none⟩=false:=Lib.frozen_of_heap hi.r 0
  have HI:=hid hi
  clear hi
  gi_wp2
  have hv:validE s=true:=List.all_eq_true.2 HI.out.oks
  exact valid_end HBE.out (by have:=HI.out.big;omega) (by simp [World.setCell,Array.getElem?_modify,HI.out.r]) ((KeepsOthers.setCell _ _ _).same D _ hK rfl) (HI.out.low.setCell (Nat.le_refl _) _) hv.symm
 case stop=>
  rintro D c pre W hD hpre ⟨rfl,he⟩ hK
  gi_wp2
  have hv:validE s=false:=by
   obtain ⟨x,hx,hb⟩:=he.bad
   refine List.all_eq_false.2 ⟨x,hpre.subset hx,?_⟩
   simpa using hb
  exact valid_end HBE.out (by omega) he.r hK he.low hv.symm
set_option maxRecDepth 100000 in
theorem packing_end {s:Str} {b D:Nat} {w W:World} {q:Bool} {u3 u4 u5 u6 u7 u8 u9 u10 u11 u12 u13:Value} (hb:b=w.heap.size) (hD:b<D) (h0:W.heap[b]? = some (.cells #[.bool q] 4 (0,0))) (hK:W.heap[D]? = some (.deferred (some []))) (hlow:Below b w W) (hq:q=packingE s) :
  bodyPostM Fence.wide 5 Tryz.prog Tryz.f71 (fun e w'=>e=.returned (.bool (packingE s))∧Below w.heap.size w w') Exit.ret
   { tmps:=#[.string ⟨s.toArray⟩,undef,.pointer (some ⟨b,0,none⟩),u3,u4,u5,u6,u7,u8,u9,u10,u11,u12,u13],defers:=[{ target:=.collected D,args:=#[] }] } W:=by
 have g0:(W.putObj D (.deferred none)).heap[b]? = some (.cells #[.bool q] 4 (0,0)):=(World.putObj_heap_other (by omega)).trans h0
 have c0:(W.putObj D (.deferred none)).cell? ⟨b,0,none⟩=some (.bool q):=by rw [Lib.cell_of_heap g0];rfl
 refine ⟨by simp,.inl ⟨_,_,rfl,run_takeDeferred hK,?_⟩⟩
 refine ⟨.bool q,?_,by rw [hq],?_⟩
 ·simp [results,Tryz.results71,asAddr,go_sem,c0]
 ·rw [← hb]
  exact hlow.trans ⟨rfl,rfl,rfl,by rw [World.putObj_size];exact Nat.le_refl _,fun k hk=>World.putObj_heap_other (by omega)⟩
set_option maxRecDepth 100000 in
set_option maxHeartbeats 1000000 in
theorem packing_fn (s:Str) (hs:s.length≤1000000) (w:World):Calls Tryz.prog 71 #[.string ⟨s.toArray⟩] w fun e w'=>e=.returned (.bool (packingE s))∧Below w.heap.size w w':=by
  refine (callsIn_wide (n:=5)).1 ?_
  refine callsIn_of_wp_marks Tryz.func71 rfl trivial ?_ rfl
  simp only [Tryz.ntmps71,List.size_toArray,List.length_cons,List.length_nil,Nat.reduceAdd,Nat.reduceSub,Array.replicate_succ,Array.replicate_zero,List.push_toArray,List.append_toArray,List.nil_append,List.cons_append]
  obtain ⟨W0,hW0⟩:∃ W0,W0=w.alloc (.cells #[.bool false] 4):=⟨_,rfl⟩
  have hs0:W0.heap.size=w.heap.size+1:=by rw [hW0];simp
  have h0:W0.heap[w.heap.size]? = some (.cells #[.bool false] 4 (0,0)):=by rw [hW0];exact heap_alloc_new _ _
  have hb0:Below w.heap.size w W0:=by rw [hW0];exact belowA _ _
  have HE:=hid (fields_fn s W0)
  have HW0:=hid hW0
  have H0:=hid h0
  have HB0:=hid hb0
  have HS0:=hid hs0
  clear hW0 h0 hb0 hs0
  gi_wp2_with (refine ⟨trivial,?_⟩;gi_at_call 73;rw [← HW0.out];refine (callsIn_wide.2 HE.out).mono ?_;rintro e w1 ⟨rfl,hbe,hep,hsz1⟩)
  rw [HS0.out] at hep hsz1
  rw [HS0.out]
  have hbw:Below w.heap.size w w1:=HB0.out.trans (hbe.mono (by rw [HS0.out];omega))
  have hI0:VAt w.heap.size w (fun f=>f.letter != 0 && !f.plain) [] w1:=⟨by omega,(hbe.block _ (by rw [HS0.out];omega)).trans H0.out,hbw,fun x hx=>absurd hx (by simp)⟩
  obtain ⟨b,hb⟩:∃ b,b=w.heap.size:=⟨_,rfl⟩
  have HBE:=hid hb
  rw [← hb] at hep hsz1 hI0 ⊢
  have hbw1:b≤w.heap.size:=by omega
  clear hbe HE H0 HB0 HW0 HS0 hb
  refine wpIn_rangeFunc_ownH rfl (by omega) (gf:=120) (lb:=#[.pointer (some ⟨b+1,0,none⟩)]) rfl trivial (enters_of Tryz.func120 (by kernel_rfl) rfl)
    (fields_stops (B:=b) hs _ hep (by omega)) KpF.trans (fun W l o o' hl h h1 h2=>⟨belowK_b (w:=w1) (by omega) W l o o' hl h h1 h2,World.putObj_heap_other (by omega)⟩) (Below.refl _ _) (fun _=>rfl)
    (VAt b w (fun f=>f.letter != 0 && !f.plain)) (fun c pre W=>c=.ret∧VEnd b w (fun f=>f.letter != 0 && !f.plain) pre W)
    (VAt.own (B:=w1.heap.size) (by omega) hbw1) (fun c s' X Y row h hg hr=>⟨h.1,VEnd.own (B:=w1.heap.size) (by omega) hbw1 s' X Y row h.2 hg hr⟩) hI0
    (fun x a' W=>∃ Bx,b<Bx∧W.heap[Bx]? = some (.cells #[.int .u8 (x.letter.toNat:Nat),.bool x.plain,.int .i64 x.count] 79 (0,0))∧a' = { tmps:=#[.string ⟨s.toArray⟩,undef,.pointer (some ⟨b,0,none⟩),.pointer (some ⟨Bx,0,none⟩),.string ⟨s.toArray⟩,.func (.func 120) #[] #[.pointer (some ⟨b+1,0,none⟩)],fldV x,undef,undef,undef,undef,undef,undef,undef],defers:=[] })
    (fun x a' s' X Y row h hg hr=>by obtain ⟨Bx,h1,h2,h3⟩:=h;exact ⟨Bx,h1,cells_turn hg hr h2,h3⟩) ?assign ?body ?done ?stop
  case assign=>
    rintro l pre x W K hi hK
    unfold encF fldV
    gi_wp2
    exact hK _ _ ((KeepsOthers.alloc _ _).from _) (KpF.of (belowA _ _) (by have:=(Array.getElem?_eq_some_iff.1 hi.r).1;omega) (by have:=hi.big;omega)) ((VAt.own (B:=b) (Nat.le_refl _) hbw1).alloc _ hi) ⟨W.heap.size,(Array.getElem?_eq_some_iff.1 hi.r).1,heap_alloc_new _ _,rfl⟩
  case body=>
    rintro l pre ⟨c,pl,n⟩ a' W hl hr hi ⟨Bx,hBx,hX,rfl⟩ hlt
    dsimp only at hX
    have x0:W.cell? ⟨Bx,0,none⟩=some (.int .u8 (c.toNat:Nat)):=by rw [Lib.cell_of_heap hX];rfl
    have r0:W.cell? ⟨b,0,none⟩=some (.bool false):=by rw [Lib.cell_of_heap hi.r];rfl
    have r1:W.frozen? ⟨b,0,none⟩=false:=Lib.frozen_of_heap hi.r 0
    have HI:=hid hi
    clear hi
    unfold fldV
    dsimp only
    have x1:W.cell? ⟨Bx,1,none⟩=some (.bool pl):=by rw [Lib.cell_of_heap hX];rfl
    by_cases hc:c≠0∧pl=false
    · obtain ⟨hc,rfl⟩:=hc
      have n0:=byte_ne 0 hc rfl
      have HC:=hid hc
      clear hc
      gi_wp2
      refine ⟨(KeepsOthers.refl _).from _,KpF.refl _ _ _,HI.out.big,HI.out.r,HI.out.low,?_⟩
      intro x hx
      rcases List.mem_append.1 hx with hx | hx
      · exact HI.out.oks x hx
      · rw [List.mem_singleton.1 hx]
        show ((c != 0 && !false):Bool)=true
        simpa using HC.out
    · have HC:=hid hc
      have fin : ownPostG w1.heap.size (KpF b (b + 1)) (VAt b w fun f => f.letter != 0 && !f.plain) (fun c pre W => c = Code.ret ∧ VEnd b w (fun f => f.letter != 0 && !f.plain) pre W) (pre ++ [⟨c, pl, n⟩]) W Exit.ret
          { tmps:=#[undef],defers:=[] } (W.setCell ⟨b,0,none⟩ (.bool false)):=by
        refine ⟨(KeepsOthers.setCell _ _ _).from _,rfl,?_,HI.out.low.setCell (Nat.le_refl _) _,_,List.mem_append_right _ (List.mem_singleton.2 rfl),?_⟩
        · simp [World.setCell,Array.getElem?_modify,HI.out.r]
        · show ((c != 0 && !pl):Bool)=false
          by_cases h1:c=0
          · rw [h1];rfl
          · cases pl with
            | true=>simp
            | false=>exact absurd ⟨h1,rfl⟩ HC.out
      have FIN:=hid fin
      clear hc fin
      by_cases hc:c=0
      · have y0:((c.toNat:Int) == 0)=true:=by rw [hc];rfl
        clear hc
        gi_wp2
        exact FIN.out
      · have n0:=byte_ne 0 hc rfl
        cases pl with
        | false=>exact absurd ⟨hc,rfl⟩ HC.out
        | true=>
          clear hc
          gi_wp2
          exact FIN.out
  case done=>
    rintro D xs W hD rfl hi hK
    have r0:W.cell? ⟨b,0,none⟩=some (.bool false):=by rw [Lib.cell_of_heap hi.r];rfl
    have r1:W.frozen? ⟨b,0,none⟩=false:=Lib.frozen_of_heap hi.r 0
    have HI:=hid hi
    clear hi
    gi_wp2
    have hv:packingE s=true:=List.all_eq_true.2 HI.out.oks
    exact packing_end HBE.out (by have:=HI.out.big;omega) (by simp [World.setCell,Array.getElem?_modify,HI.out.r]) ((KeepsOthers.setCell _ _ _).same D _ hK rfl) (HI.out.low.setCell (Nat.le_refl _) _) hv.symm
  case stop=>
    rintro D c pre W hD hpre ⟨rfl,he⟩ hK
    gi_wp2
    have hv:packingE s=false:=by
      obtain ⟨x,hx,hb⟩:=he.bad
      refine List.all_eq_false.2 ⟨x,hpre.subset hx,?_⟩
      simpa using hb
    exact packing_end HBE.out (by omega) he.r hK he.low hv.symm
end Go.Proofs.YtihdndaibmgoiaaGreatDoor.Pz
namespace Go.Proofs.YtihdndaibmgoiaaGreatDoor.Pz
open Go.RowKit Go.Shelf
theorem putE_len (b x:Str) (at0:Nat):(putE b at0 x).length=max (max b.length at0) (at0+x.length):=by
 show ((padE b at0).take at0++x++(padE b at0).drop (at0+x.length)).length=_
 have h:=padE_len b at0
 rw [List.length_append,List.length_append,List.length_take,List.length_drop,h]
 omega
theorem digE_len (c:UInt8) (n:Nat):∀ (l:Str) (i:Nat) (out x:Str),digE c n i l out=some x→x.length=out.length
 | [],i,out,x,h=>by
  rw [digE] at h
  rw [Option.some.inj h]
 | d::t,i,out,x,h=>by
  rw [digE] at h
  split at h
  ·cases h
  ·have h1:=digE_len c n t (i+1) _ x h
   rw [h1]
   split
   ·rw [List.length_set]
   ·rfl
theorem lenL_bits {c:UInt8} (h:textL c=true) (N:Nat):lenL c N≤N+1:=by
 unfold lenL
 split
 ·omega
 ·split
  ·omega
  ·rename_i h1 h2
   unfold textL at h
   simp only [Bool.or_eq_true,beq_iff_eq] at h h1 h2
   have hw:widthL c=0:=by
    rcases h with ((((h | h) | h) | h) | h) | h
    ·rw [h];decide
    ·rw [h];decide
    ·exact absurd (.inl h) h1
    ·exact absurd (.inr h) h1
    ·exact absurd (.inl h) h2
    ·exact absurd (.inr h) h2
   rw [hw]
   show max 1 0*N≤N+1
   rw [show max 1 0=1 from rfl,Nat.one_mul]
   omega
theorem textedE_len {f:Fld} {s x:Str} (ht:textL f.letter=true) (h:textedE f s=some x):x.length≤cntT f s+1:=by
 unfold textedE at h
 split at h
 ·have:=Option.some.inj h
  rw [← this,List.length_append,List.length_take,List.length_replicate]
  omega
 ·rw [digE_len _ _ _ _ _ _ h,List.length_replicate]
  exact lenL_bits ht _
theorem widthL_le (c:UInt8):widthL c≤8:=by
 unfold widthL
 split<;>(try split)<;>(try split)<;>(try split)<;>omega
theorem numsGo_len (c:UInt8) (n:Nat):∀ (l:List Str) (i:Nat) (out x:Str),numsGo c n i l out=.inr x→x.length≤out.length+8*l.length
 | [],i,out,x,h=>by
  rw [numsGo] at h
  have:=Sum.inr.inj h
  rw [this]
  simp
 | w::t,i,out,x,h=>by
  rw [numsGo] at h
  rcases v64_cases w with e | e | ⟨v,e,_⟩
  ·rw [e] at h;cases h
  ·rw [e] at h;cases h
  ·rw [e] at h
   dsimp only at h
   have h1:=numsGo_len c n t (i+1) _ x h
   have hw:=widthL_le c
   have h2:(if i<n then out++ordE (highL c) (bytesLE (widthL c) v) else out).length≤out.length+8:=by
    split
    ·rw [List.length_append]
     unfold ordE
     split
     ·rw [List.length_reverse,bytesLE_len];omega
     ·rw [bytesLE_len];omega
    ·omega
   rw [List.length_cons]
   omega
theorem numberedE_len {f:Fld} {s x:Str} (h:numberedE f s=.inr x):x.length≤8*(s.length+1):=by
 have hw:=(wordsGo_bound s []).1
 change (wordsE s).length≤_ at hw
 unfold numberedE at h
 split at h
 ·have:=numsGo_len _ _ _ _ _ _ h
  simp at this
  omega
 ·split at h
  ·have:=numsGo_len _ _ _ _ _ _ h
   simp at this
   omega
  ·split at h
   ·cases h
   ·have:=numsGo_len _ _ _ _ _ _ h
    simp at this
    omega
theorem packOne_len {f:Fld} {s:Str} (hs:s.length≤100000) (hn:-2≤f.count∧f.count≤9999):(prow (packOne f s)).length≤1000000:=by
 unfold packOne
 cases ht:textL f.letter with
 | true=>
  rw [if_pos rfl]
  cases hx:textedE f s with
  | none=>simp [prow]
  | some x=>
   have h1:=textedE_len ht hx
   have h2:=cntT_le f.letter f.plain f.count s hs hn
   show x.length≤_
   have h3:cntT ⟨f.letter,f.plain,f.count⟩ s=cntT f s:=rfl
   omega
 | false=>
  rw [if_neg (by simp)]
  cases hx:numberedE f s with
  | inl e=>simp [prow]
  | inr x=>
   have h1:=numberedE_len hx
   show x.length≤_
   omega
theorem packer_fn (c:UInt8) (p:Bool) (n:Int) (s:Str) (hs:s.length≤100000) (hn:-2≤n∧n≤9999) (hk:knownL c=true) (h120:c≠120) (h64:c≠64) :
  ∃ F:Nat,pkV 6 7 c=(F:Int)∧(∀ args w,(callFunc F args).run Tryz.prog w=.ok (.enter F args) w)∧
   ∀ w,Calls Tryz.prog F #[.agg #[.int .u8 (c.toNat:Nat),.bool p,.int .i64 n],.string ⟨s.toArray⟩] w (PackP (packOne ⟨c,p,n⟩ s) w):=by
 have hkv:(List.range 256).all (fun k=>(if textL (UInt8.ofNat k) then pkV 6 7 (UInt8.ofNat k) == 118 else if 0<widthL (UInt8.ofNat k) then pkV 6 7 (UInt8.ofNat k) == 119 else true))=true:=by kernel_rfl
 have h1:=List.all_eq_true.1 hkv c.toNat (List.mem_range.2 c.toNat_lt)
 simp only [UInt8.ofNat_toNat] at h1
 cases ht:textL c with
 | true=>
  rw [ht,if_pos rfl] at h1
  refine ⟨118,by simpa using h1,enters_of Tryz.func118 (by kernel_rfl) rfl,fun w=>?_⟩
  have h2:packOne ⟨c,p,n⟩ s=optR (textedE ⟨c,p,n⟩ s):=by
   unfold packOne optR
   rw [if_pos (show textL (⟨c,p,n⟩:Fld).letter=true from ht)]
   cases textedE ⟨c,p,n⟩ s<;>rfl
  rw [h2]
  exact texted_fn c p n s hs hn ht w
 | false=>
  have hw:0<widthL c:=by
   unfold knownL at hk
   rw [ht] at hk
   simp only [Bool.false_or,Bool.or_eq_true,decide_eq_true_eq,beq_iff_eq] at hk
   rcases hk with (h | h) | h
   ·exact h
   ·exact absurd h h120
   ·exact absurd h h64
  rw [ht,if_neg (by simp),if_pos hw] at h1
  refine ⟨119,by simpa using h1,enters_of Tryz.func119 (by kernel_rfl) rfl,fun w=>?_⟩
  have h2:packOne ⟨c,p,n⟩ s=numberedE ⟨c,p,n⟩ s:=by
   unfold packOne
   rw [if_neg (show ¬ textL (⟨c,p,n⟩:Fld).letter=true by rw [ht];simp)]
  rw [h2]
  exact numbered_fn c p n s hs hn w
end Go.Proofs.YtihdndaibmgoiaaGreatDoor.Pz
namespace Go.Proofs.YtihdndaibmgoiaaGreatDoor.Pz
open Go.RowKit
section
variable {P:Program} {ops:Array Oper} {Q:Exit→Act→World→Prop} {md:Region.Mode} {l n:Nat}
theorem rows_round {row:String} {args:Array Value} {w:World} {R:Value→World→Prop} (h:Rows P row args w R):RowsIn (Fence.wide.inRound l) n P row args w R:=
 fun c cs _=>let ⟨v,w',r,s⟩:=h c cs;⟨v,w',r,stepsIn_wide.2 s⟩
theorem calls_round {f:FuncId} {args:Array Value} {w:World} {R:Ending→World→Prop} (h:Calls P f args w R):CallsIn (Fence.wide.inRound l) n P f args w R:=
 CallsIn.inRound l (callsIn_wide.2 h)
theorem oper_round {o:Oper} {a:Act} {w:World} {K:Act→World→Prop} (hd:∀ c,o.op≠.defer c) (h:o.wp P a w K Q):o.wpIn (Fence.wide.inRound l) n P a w K Q:=by
 refine ⟨fun _ _=>trivial,?_⟩
 rw [Oper.semAt_eq _ _ _ hd]
 unfold Oper.wp at h
 generalize (execOp a.eval o).run P w=r at h ⊢
 cases r with
 | ok x w'=>
  cases x with
  | value v=>exact h
  | skip=>exact h
  | defer d=>exact h
  | enter f args=>exact ⟨fun h9=>by simp [Fence.wide] at h9,calls_round h⟩
  | row r args=>exact ⟨fun h9=>by simp [Fence.wide] at h9,rows_round h⟩
  | _=>exact h.elim
 | halt x w'=>
  cases x with
  | panic v=>exact h
  | _=>exact h.elim
def noDefer (ops:Array Oper):Bool:=ops.all fun o=>match o.op with | .defer _=>false | _=>true
theorem noDefer_spec (h:noDefer ops=true) {i:Nat} {o:Oper} (hi:ops[i]? = some o) (c):o.op≠.defer c:=by
 intro he
 have h1:=Array.all_eq_true_iff_forall_mem.1 h o (Array.mem_of_getElem? hi)
 rw [he] at h1
 cases h1
theorem wpOp_round (hno:∀ a w,¬ Q .outgrown a w) (hd:noDefer ops=true) {i:Nat} {a:Act} {w:World} {K:Act→World→Prop} (h:wpOp P ops Q i K a w):wpOpIn (Fence.wide.inRound l) n P ops Q i K a w:=by
 unfold wpOp at h
 unfold wpOpIn
 cases hi:ops[i]? with
 | none=>rw [hi] at h;exact h
 | some o=>
  rw [hi] at h
  dsimp only at h ⊢
  split
  ·rename_i hw
   rw [if_pos hw] at h
   exact oper_round (noDefer_spec hd hi) (h.resolve_right fun ⟨_,a,w,h9⟩=>hno a w h9)
  ·rename_i hw
   rw [if_neg hw] at h
   exact ⟨fun _ _=>trivial,h⟩
theorem any_round (hno:∀ a w,¬ Q .outgrown a w) (hd:noDefer ops=true):∀ (fuel:Nat) (listed:Array Bool) (a:Act) (w:World),wpAny P md ops Q fuel listed a w→wpAnyIn (Fence.wide.inRound l) n P md ops Q fuel listed a w
 | 0,_,_,_,h=>h
 | fuel+1,_,_,_,h=>⟨h.1,fun i hi=>wpOp_round hno hd (wpOp_mono (fun b u k=>any_round hno hd fuel _ b u k) (h.2 i hi))⟩
theorem U_beginR {late:Nat→Bool} {S:World→Prop} {id:Nat} {a:Act} {w:World} (hno:∀ a w,¬ Q .outgrown a w) (hd:noDefer ops=true) (hm:P.follows .mixedOrders=true) (h:anyU P .any ops Q late S ops.size (Array.replicate ops.size false) a w.drew) :
  (Code.region id ops true).wpIn (Fence.wide.inRound l) n P Q a w:=
 wpIn_region_any hm (any_round hno hd _ _ _ _ (any_of_U _ _ _ _ h))
end
end Go.Proofs.YtihdndaibmgoiaaGreatDoor.Pz
namespace Go.Proofs.YtihdndaibmgoiaaGreatDoor.Pz
open Go.RowKit Go.Shelf Go.Sort
attribute [local go_sem] Oper.semAt_some
theorem packing_ok {s:Str} (h:packingE s=true):∀ f∈fldsE s,FldOk f:=valid_ok (packing_valid h)
structure PBase (b:Nat) (av:Value) (W:World):Prop where
 ab:W.heap[b]? = some (.cells #[av] 22 (0,0))
 rs:W.heap[b+1]? = some (.cells #[.string ⟨#[]⟩] 9 (0,0))
 er:W.heap[b+1+1]? = some (.cells #[.int .i64 0] 27 (0,0))
section
variable {b:Nat} {av:Value} {W W':World}
theorem PBase.lt (h:PBase b av W):b+1+1<W.heap.size:=(Array.getElem?_eq_some_iff.1 h.er).1
theorem PBase.on {B:Nat} (h:PBase b av W) (hb:Below B W W') (hB:b+1+1<B):PBase b av W':=⟨(hb.block _ (by omega)).trans h.ab,(hb.block _ (by omega)).trans h.rs,(hb.block _ hB).trans h.er⟩
theorem PBase.ca (h:PBase b av W):W.cell? ⟨b,0,none⟩=some av:=by rw [Lib.cell_of_heap h.ab];rfl
theorem PBase.cr (h:PBase b av W):W.cell? ⟨b+1,0,none⟩=some (.string ⟨#[]⟩):=by rw [Lib.cell_of_heap h.rs];rfl
theorem PBase.ce (h:PBase b av W):W.cell? ⟨b+1+1,0,none⟩=some (.int .i64 0):=by rw [Lib.cell_of_heap h.er];rfl
theorem PBase.fr (h:PBase b av W):W.frozen? ⟨b+1,0,none⟩=false:=Lib.frozen_of_heap h.rs 0
theorem PBase.fe (h:PBase b av W):W.frozen? ⟨b+1+1,0,none⟩=false:=Lib.frozen_of_heap h.er 0
end
def PackQ (s:Str) (args:List Str) (w:World) (e:Ending) (w':World):Prop:=e=.returned (.tuple #[.string ⟨(packRes s args).1.toArray⟩,.int .i64 (packRes s args).2])∧Below w.heap.size w w'
set_option maxRecDepth 100000 in
theorem pack_end0 {s:Str} {args:List Str} {b:Nat} {w W:World} {x:Str} {z:Int} {T:Array Value} (hb:b=w.heap.size) (h1:W.heap[b+1]? = some (.cells #[.string ⟨x.toArray⟩] 9 (0,0))) (h2:W.heap[b+1+1]? = some (.cells #[.int .i64 z] 27 (0,0)))
  (hlow:Below b w W) (hsp:packRes s args=(x,z)) (h4:T[4]? = some (.pointer (some ⟨b+1,0,none⟩))) (h5:T[5]? = some (.pointer (some ⟨b+1+1,0,none⟩))) :
  bodyPostM Fence.wide 5 Tryz.prog Tryz.f20 (PackQ s args w) Exit.ret { tmps:=T,defers:=[] } W:=by
 have c1:W.cell? ⟨b+1,0,none⟩=some (.string ⟨x.toArray⟩):=by rw [Lib.cell_of_heap h1];rfl
 have c2:W.cell? ⟨b+1+1,0,none⟩=some (.int .i64 z):=by rw [Lib.cell_of_heap h2];rfl
 refine ⟨.tuple #[.string ⟨x.toArray⟩,.int .i64 z],?_,by rw [hsp],?_⟩
 ·simp [results,Tryz.results20,asAddr,go_sem,c1,c2,h4,h5]
 ·rw [← hb]
  exact hlow
set_option maxRecDepth 100000 in
theorem pack_end {s:Str} {args:List Str} {b D:Nat} {w W:World} {x:Str} {z:Int} {T:Array Value} (hb:b=w.heap.size) (hD:b+1+1<D) (h1:W.heap[b+1]? = some (.cells #[.string ⟨x.toArray⟩] 9 (0,0))) (h2:W.heap[b+1+1]? = some (.cells #[.int .i64 z] 27 (0,0))) (hK:W.heap[D]? = some (.deferred (some [])))
  (hlow:Below b w W) (hsp:packRes s args=(x,z)) (h4:T[4]? = some (.pointer (some ⟨b+1,0,none⟩))) (h5:T[5]? = some (.pointer (some ⟨b+1+1,0,none⟩))) :
  bodyPostM Fence.wide 5 Tryz.prog Tryz.f20 (PackQ s args w) Exit.ret { tmps:=T,defers:=[{ target:=.collected D,args:=#[] }] } W:=by
 refine ⟨by simp,.inl ⟨_,_,rfl,run_takeDeferred hK,?_⟩⟩
 refine pack_end0 (W:=W.putObj D (.deferred none)) hb ((World.putObj_heap_other (by omega)).trans h1) ((World.putObj_heap_other (by omega)).trans h2) ?_ hsp h4 h5
 exact hlow.trans ⟨rfl,rfl,rfl,by rw [World.putObj_size];exact Nat.le_refl _,fun k hk=>World.putObj_heap_other (by omega)⟩
theorem KeepsOthers.of_below {W W':World} (hb:Below W.heap.size W W'):KeepsOthers W W':=KeepsOthers.of_grownBy (row:=none) ⟨hb.os,hb.tape,hb.output,hb.size,fun k hk _=>hb.block k hk⟩ (fun _ _ e=>by cases e)
theorem RowY.str {B:Nat} {W:World} {v:Value} {l:Str} (h:RowY B W v l):(convert 46 9 v).run Tryz.prog W=.ok (.string ⟨l.toArray⟩) W:=by
 have hb:=RowY.byts h
 rcases h.2 with ⟨rfl,h0⟩ | ⟨g,cap,cur,rfl,_⟩
 ·rw [Lib.run_convert_nil_bytes W 46 9 5 0 Tryz.underlying46 Tryz.underlying5 Tryz.underlying9]
  rw [List.eq_nil_of_length_eq_zero h0]
 ·have hc:=byts_cells hb
  exact run_convert_bytes_back (P:=Tryz.prog) W 46 9 5 ⟨g,0,none⟩ cap l Tryz.underlying46 Tryz.underlying5 Tryz.underlying9 (fun j hj=>hc j _ (by simp [Lib.byteCells,hj]))
structure PSt (b q m M:Nat) (av:Value) (w W:World) (v:Value) (bb:Str) (at0 k:Nat):Prop where
 num:b+1+1<q∧m<q∧q+1+1+1+1<M∧M≤W.heap.size
 base:PBase b av W
 mp:W.heap[q]? = some (.cells #[.map (some m)] 73 (0,0))
 pk:PkMap W m 6 7
 vv:W.heap[q+1]? = some (.cells #[v] 46 (0,0))
 row:RowY M W v bb
 ac:W.heap[q+1+1]? = some (.cells #[.int .i64 (at0:Nat)] 3 (0,0))
 nc:W.heap[q+1+1+1]? = some (.cells #[.int .i64 (k:Nat)] 3 (0,0))
 low:Below b w W
section
variable {b q m M:Nat} {av v:Value} {w W W':World} {bb:Str} {at0 k:Nat}
theorem PSt.on (h:PSt b q m M av w W v bb at0 k) (hb:Below W.heap.size W W'):PSt b q m M av w W' v bb at0 k:=by
 obtain ⟨n1,n2,n3,n4⟩:=h.num
 exact ⟨⟨n1,n2,n3,Nat.le_trans n4 hb.size⟩,h.base.on hb (by omega),(hb.block _ (by omega)).trans h.mp,h.pk.of (hb.block _ (by omega)),(hb.block _ (by omega)).trans h.vv,h.row.on hb,(hb.block _ (by omega)).trans h.ac,(hb.block _ (by omega)).trans h.nc,h.low.trans (hb.mono (by omega))⟩
theorem PBase.set {g:Nat} (h:PBase b av W) (x:Value) (h0:g≠b) (h1:g≠b+1) (h2:g≠b+1+1):PBase b av (W.setCell ⟨g,0,none⟩ x):=
 ⟨(Below.heap_setCell _ _ _ _ (fun e=>h0 e.symm)).trans h.ab,(Below.heap_setCell _ _ _ _ (fun e=>h1 e.symm)).trans h.rs,(Below.heap_setCell _ _ _ _ (fun e=>h2 e.symm)).trans h.er⟩
theorem RowY.setO {B g:Nat} {u:Value} {l:Str} (h:RowY B W u l) (x:Value) (hg:g<B):RowY B (W.setCell ⟨g,0,none⟩ x) u l:=ownsRow_heap h fun g' hg'=>Below.heap_setCell _ _ _ _ (by have:=(h.lt g' hg').2;show g'≠g;omega)
theorem PSt.setAt (h:PSt b q m M av w W v bb at0 k) (x:Nat):PSt b q m M av w (W.setCell ⟨q+1+1,0,none⟩ (.int .i64 (x:Nat))) v bb x k:=by
 obtain ⟨n1,n2,n3,n4⟩:=h.num
 have ne:∀ g,g≠q+1+1→(W.setCell ⟨q+1+1,0,none⟩ (.int .i64 (x:Nat))).heap[g]? = W.heap[g]?:=fun g hg=>Below.heap_setCell _ _ _ _ (fun e=>hg e)
 exact ⟨⟨n1,n2,n3,by simpa [World.setCell] using n4⟩,h.base.set _ (by omega) (by omega) (by omega),(ne _ (by omega)).trans h.mp,h.pk.of (ne _ (by omega)),(ne _ (by omega)).trans h.vv,h.row.setO _ (by omega),by simp [World.setCell,Array.getElem?_modify,h.ac],(ne _ (by omega)).trans h.nc,h.low.setCell (by show b≤q+1+1;omega) _⟩
theorem PSt.setNext (h:PSt b q m M av w W v bb at0 k) (x:Nat):PSt b q m M av w (W.setCell ⟨q+1+1+1,0,none⟩ (.int .i64 (x:Nat))) v bb at0 x:=by
 obtain ⟨n1,n2,n3,n4⟩:=h.num
 have ne:∀ g,g≠q+1+1+1→(W.setCell ⟨q+1+1+1,0,none⟩ (.int .i64 (x:Nat))).heap[g]? = W.heap[g]?:=fun g hg=>Below.heap_setCell _ _ _ _ (fun e=>hg e)
 exact ⟨⟨n1,n2,n3,by simpa [World.setCell] using n4⟩,h.base.set _ (by omega) (by omega) (by omega),(ne _ (by omega)).trans h.mp,h.pk.of (ne _ (by omega)),(ne _ (by omega)).trans h.vv,h.row.setO _ (by omega),(ne _ (by omega)).trans h.ac,by simp [World.setCell,Array.getElem?_modify,h.nc],h.low.setCell (by show b≤q+1+1+1;omega) _⟩
theorem PSt.setV (h:PSt b q m M av w W v bb at0 k) {v':Value} {bb':Str} (hr:RowY M W' v' bb') (hg:W.grownBy W' v.ownBlock):PSt b q m M av w (W'.setCell ⟨q+1,0,none⟩ v') v' bb' at0 k:=by
 obtain ⟨n1,n2,n3,n4⟩:=h.num
 have old:∀ g,g<M→W'.heap[g]? = W.heap[g]?:=fun g hl=>hg.block g (by omega) fun e=>by have:=(h.row.lt g e.symm).2;omega
 have ne:∀ g,g<M→g≠q+1→(W'.setCell ⟨q+1,0,none⟩ v').heap[g]? = W.heap[g]?:=fun g hl hn=>(Below.heap_setCell _ _ _ _ (fun e=>hn e)).trans (old g hl)
 refine ⟨⟨n1,n2,n3,by have:=hg.size;simp [World.setCell];omega⟩,⟨(ne _ (by omega) (by omega)).trans h.base.ab,(ne _ (by omega) (by omega)).trans h.base.rs,(ne _ (by omega) (by omega)).trans h.base.er⟩,(ne _ (by omega) (by omega)).trans h.mp,h.pk.of (ne _ (by omega) (by omega)),?_,hr.setO _ (by omega),(ne _ (by omega) (by omega)).trans h.ac,(ne _ (by omega) (by omega)).trans h.nc,?_⟩
 ·have:=(old (q+1) (by omega)).trans h.vv
  simp [World.setCell,Array.getElem?_modify,this]
 ·exact (h.low.grown hg (by omega) (fun g e=>by have:=(h.row.lt g e).2;omega)).setCell (by show b≤q+1;omega) _
theorem PSt.cv (h:PSt b q m M av w W v bb at0 k):W.cell? ⟨q+1,0,none⟩=some v:=by rw [Lib.cell_of_heap h.vv];rfl
theorem PSt.ca (h:PSt b q m M av w W v bb at0 k):W.cell? ⟨q+1+1,0,none⟩=some (.int .i64 (at0:Nat)):=by rw [Lib.cell_of_heap h.ac];rfl
theorem PSt.cn (h:PSt b q m M av w W v bb at0 k):W.cell? ⟨q+1+1+1,0,none⟩=some (.int .i64 (k:Nat)):=by rw [Lib.cell_of_heap h.nc];rfl
theorem PSt.cm (h:PSt b q m M av w W v bb at0 k):W.cell? ⟨q,0,none⟩=some (.map (some m)):=by rw [Lib.cell_of_heap h.mp];rfl
theorem PSt.fv (h:PSt b q m M av w W v bb at0 k):W.frozen? ⟨q+1,0,none⟩=false:=Lib.frozen_of_heap h.vv 0
theorem PSt.fa (h:PSt b q m M av w W v bb at0 k):W.frozen? ⟨q+1+1,0,none⟩=false:=Lib.frozen_of_heap h.ac 0
theorem PSt.fn (h:PSt b q m M av w W v bb at0 k):W.frozen? ⟨q+1+1+1,0,none⟩=false:=Lib.frozen_of_heap h.nc 0
end
theorem heap_set_one {W:World} {g:Nat} {u:Value} {T:TypeId} (h:W.heap[g]? = some (.cells #[u] T (0,0))) (x:Value):(W.setCell ⟨g,0,none⟩ x).heap[g]? = some (.cells #[x] T (0,0)):=by
 simp [World.setCell,Array.getElem?_modify,h]
theorem packGo_cons (f:Fld) (fs:List Fld) (args:List Str) (b:Str) (at0:Nat):packGo (f::fs) args b at0 =
  if f.letter == 64 then
   let to':=if f.count = -2 then b.length else f.count.toNat
   if 65536<(putE b to' []).length then .inl 4 else packGo fs args (putE b to' []) to'
  else if f.letter == 120 then
   if 65536<(putE b at0 (List.replicate (oneC f) 0)).length then .inl 4 else packGo fs args (putE b at0 (List.replicate (oneC f) 0)) (at0+oneC f)
  else match args with
   | []=>.inl 8
   | x::args=>match packOne f x with
    | .inl e=>.inl e
    | .inr y=>if 65536<(putE b at0 y).length then .inl 4 else packGo fs args (putE b at0 y) (at0+y.length):=by
 rw [packGo.eq_def]
 rfl
theorem numsGo_ne (c:UInt8) (n:Nat):∀ (l:List Str) (i:Nat) (out:Str) (e:Int),numsGo c n i l out=.inl e→e≠0
 | [],i,out,e,h=>by rw [numsGo] at h;cases h
 | w::t,i,out,e,h=>by
  rcases v64_cases w with h1 | h1 | ⟨v,h1,_⟩
  ·rw [numsGo,h1] at h;cases h;decide
  ·rw [numsGo,h1] at h;cases h;decide
  ·rw [numsGo,h1] at h;exact numsGo_ne c n t _ _ e h
theorem packOne_ne {f:Fld} {s:Str} {e:Int} (h:packOne f s=.inl e):e≠0:=by
 unfold packOne at h
 split at h
 ·split at h
  ·cases h;decide
  ·cases h
 ·unfold numberedE at h
  split at h
  ·exact numsGo_ne _ _ _ _ _ _ h
  ·split at h
   ·exact numsGo_ne _ _ _ _ _ _ h
   ·split at h
    ·cases h;decide
    ·exact numsGo_ne _ _ _ _ _ _ h
theorem setCell_two (w:World) (blk off:Nat) (v v':Value):(w.setCell ⟨blk,off,none⟩ v).setCell ⟨blk,off,none⟩ v'=w.setCell ⟨blk,off,none⟩ v':=by
 rw [setCell_eq,setCell_eq,mapBlock_mapBlock,setCell_eq]
 congr 1
 funext c
 simp
section
variable {ops:Array Oper} {rest:List Oper} {o:Oper} {a:Act} {Q:Exit→Act→World→Prop} {l0 n0:Nat}
theorem mk_zeroR (w:World) (hgd:o.guard=none) (l c:Operand) (ho:o.op=Op.makeSlice 46 l c) (n:Nat) (L C:Int) (hl:a.eval l=.int .i64 L) (hc:a.eval c=.int .i64 C) (hL:L=(n:Int)) (hC:C=(n:Int)) (hn:n≤1000000000)
  (h:∀ (w':World),RowY w.heap.size w' (.slice (some ⟨w.heap.size,0,none⟩) n n) (List.replicate n 0)→Below w.heap.size w w'→wpListIn (Fence.wide.inRound l0) n0 Tryz.prog ops Q rest (a.put o.dst (.slice (some ⟨w.heap.size,0,none⟩) n n)) w') :
  wpListIn (Fence.wide.inRound l0) n0 Tryz.prog ops Q (o::rest) a w:=by
 obtain ⟨i0,hi,hz0,hz1,hz2⟩:=info_parts Tryz.info5
 subst hL
 subst hC
 have hm:=run_make (P:=Tryz.prog) w 46 5 i0 (.int .u8 0) Tryz.underlying46 hi hz0 .i64 .i64 n n (by omega) (by omega) (by rw [hz2];omega) (by omega)
 refine wpListIn_plain hgd fun K hK'=>oper_round (fun _=>by rw [ho];simp) ?_
 unfold Oper.wp
 simp only [Int.toNat_natCast] at hm
 simp [execOp,ho,hl,hc,hm,Result.andThen]
 refine hK' _ _ (h _ ?_ ((Below.refl _ w).alloc (Nat.le_refl _) _))
 have e:(madeCells (Value.int .u8 0).cells (n*i0.size)).toList=Lib.byteCells (List.replicate n 0):=by
  rw [hz1,Nat.mul_one]
  show (madeCells #[Value.int .u8 0] n).toList=_
  rw [toList_madeCells_one]
  simp [Lib.byteCells]
 refine ⟨by simp [Lib.byteCells_length],.inr ⟨w.heap.size,n,_,by rw [List.length_replicate],Nat.le_refl _,heap_alloc_new _ _,by rw [List.length_replicate];exact Nat.le_refl _,by unfold maxLen;omega,by rw [size_madeCells,hz1],?_⟩⟩
 rw [e,List.length_replicate,Nat.mul_one,List.take_of_length_le (by rw [Lib.byteCells_length,List.length_replicate];exact Nat.le_refl _)]
end
structure PAt (b q m M:Nat) (av:Value) (w:World) (s:Str) (args:List Str) (pre:List (FldIn s)) (W:World):Prop where
 st:∃ (v:Value) (bb:Str) (at0 k:Nat),PSt b q m M av w W v bb at0 k∧k≤args.length∧at0≤bb.length∧bb.length≤65536∧∀ rest,fldsE s=pre.map Subtype.val++rest→packGo (fldsE s) args [] 0=packGo rest (args.drop k) bb at0
structure PEnd (b:Nat) (w:World) (s:Str) (args:List Str) (pre:List (FldIn s)) (W:World):Prop where
 rs:W.heap[b+1]? = some (.cells #[.string ⟨#[]⟩] 9 (0,0))
 er:∃ z:Int,W.heap[b+1+1]? = some (.cells #[.int .i64 z] 27 (0,0))∧∀ rest,fldsE s=pre.map Subtype.val++rest→packGo (fldsE s) args [] 0=.inl z
 low:Below b w W
theorem PAt.own {b q m M B:Nat} {av:Value} {w:World} {s:Str} {args:List Str} (hB:M≤B) (hbw:b≤w.heap.size):OwnFrom B (PAt b q m M av w s args):=by
 rintro pre X Y row ⟨v,bb,at0,k,h,hk⟩ hg hr
 obtain ⟨n1,n2,n3,n4⟩:=h.num
 refine ⟨v,bb,at0,k,⟨⟨n1,n2,n3,Nat.le_trans n4 hg.size⟩,⟨cells_turn hg hr h.base.ab,cells_turn hg hr h.base.rs,cells_turn hg hr h.base.er⟩,cells_turn hg hr h.mp,h.pk.of (hg.block m (by omega) fun e=>by have:=(hr m e.symm).1;omega),cells_turn hg hr h.vv,ownsRow_heap2 h.row fun g cur _ hc=>cells_turn hg hr hc,cells_turn hg hr h.ac,cells_turn hg hr h.nc,below_turn h.low hbw hg (fun r e=>⟨by have:=(hr r e).1;omega,(hr r e).2⟩)⟩,hk⟩
theorem PEnd.own {b B:Nat} {w:World} {s:Str} {args:List Str} (hB:b≤B) (hbw:b≤w.heap.size):OwnFrom B (PEnd b w s args):=by
 rintro pre X Y row h hg hr
 obtain ⟨z,h1,h2⟩:=h.er
 exact ⟨cells_turn hg hr h.rs,⟨z,cells_turn hg hr h1,h2⟩,below_turn h.low hbw hg (fun r e=>⟨Nat.le_trans hB (hr r e).1,(hr r e).2⟩)⟩
set_option maxRecDepth 100000 in
set_option maxHeartbeats 1500000 in
theorem pack_fn (s:Str) (hs:s.length≤100000) (args:List Str) (va:Value) (w:World) (hva:StrsAt w va args) (hx:∀ x∈args,x.length≤100000) (hal:args.length≤1000000) :
    Calls Tryz.prog 20 #[.string ⟨s.toArray⟩,va] w (PackQ s args w):=by
  obtain ⟨aa,ca,rfl,-,hcell⟩:=id hva
  obtain ⟨na,hna⟩:∃ na,na=args.length:=⟨_,rfl⟩
  rw [← hna] at hva ⊢
  refine (callsIn_wide (n:=5)).1 ?_
  refine callsIn_of_wp_marks Tryz.func20 rfl trivial ?_ rfl
  simp only [Tryz.ntmps20,List.size_toArray,List.length_cons,List.length_nil,Nat.reduceAdd,Nat.reduceSub,Array.replicate_succ,Array.replicate_zero,List.push_toArray,List.append_toArray,List.nil_append,List.cons_append]
  obtain ⟨W0,hW0⟩:∃ W0,W0=((w.alloc (.cells #[.slice aa na ca] 22)).alloc (.cells #[.string ⟨#[]⟩] 9)).alloc (.cells #[.int .i64 0] 27):=⟨_,rfl⟩
  have hs0:W0.heap.size=w.heap.size+1+1+1:=by rw [hW0];simp
  have h0:W0.heap[w.heap.size]? = some (.cells #[.slice aa na ca] 22 (0,0)):=by
    rw [hW0,Below.heap_alloc _ _ _ (by simp<;>omega),Below.heap_alloc _ _ _ (by simp)];exact heap_alloc_new _ _
  have h1:W0.heap[w.heap.size+1]? = some (.cells #[.string ⟨#[]⟩] 9 (0,0)):=by
    rw [hW0,Below.heap_alloc _ _ _ (by simp)]
    simpa using heap_alloc_new (w.alloc (.cells #[.slice aa na ca] 22)) (.cells #[.string ⟨#[]⟩] 9)
  have h2:W0.heap[w.heap.size+1+1]? = some (.cells #[.int .i64 0] 27 (0,0)):=by
    rw [hW0]
    simpa using heap_alloc_new ((w.alloc (.cells #[.slice aa na ca] 22)).alloc (.cells #[.string ⟨#[]⟩] 9)) (.cells #[.int .i64 0] 27)
  have hb0:Below w.heap.size w W0:=by rw [hW0];exact (((Below.refl _ _).alloc (Nat.le_refl _) _).alloc (by simp) _).alloc (by simp;omega) _
  have HPK:=hid (packing_fn s (by omega) W0)
  have HW0:=hid hW0
  have H0:=hid h0
  have H1:=hid h1
  have H2:=hid h2
  have HB0:=hid hb0
  have HS0:=hid hs0
  have HNA:=hid hna
  have HVA:=hid hva
  have HCELL:=hid hcell
  have HX:=hid hx
  obtain ⟨pk,hpk⟩:∃ pk,pk=packingE s:=⟨_,rfl⟩
  rw [← hpk] at HPK
  have HP:=hid hpk
  clear hW0 h0 h1 h2 hb0 hs0 hna hva hcell hx hpk
  have HPB:=hid (show PBase w.heap.size (.slice aa na ca) W0 from ⟨H0.out,H1.out,H2.out⟩)
  clear H0 H1 H2
  cases pk with
  | false=>
    have HRS:=hid (show packRes s args=([],2) by unfold packRes;rw [← HP.out];rfl)
    gi_wp2_with (refine ⟨trivial,?_⟩;gi_at_call 71;rw [← HW0.out];refine (callsIn_wide.2 HPK.out).mono ?_;rintro e w1 ⟨rfl,hb1⟩;have hp1:=HPB.out.on hb1 (by rw [HS0.out];omega);have q1:=hp1.cr;have q2:=hp1.fr;have q3:=hp1.ce;have q4:=hp1.fe;have HP1:=hid hp1;have HB1:=hid hb1;clear hp1 hb1)
    refine pack_end0 (b:=w.heap.size) (x:=[]) (z:=2) rfl ?_ ?_ ?_ HRS.out rfl rfl
    · simp [World.setCell,Array.getElem?_modify,HP1.out.rs]
    · simp [World.setCell,Array.getElem?_modify,HP1.out.er]
    · exact ((HB0.out.trans (HB1.out.mono (by rw [HS0.out];omega))).setCell (by show w.heap.size≤w.heap.size+1;omega) _).setCell (by show w.heap.size≤w.heap.size+1+1;omega) _
  | true=>
    have hPK:=fun u=>packers_fn u
    have hFD:=fun u=>fields_fn s u
    have HPKR:=hid hPK
    have HFD:=hid hFD
    clear hPK hFD
    gi_wp2_with (first|(refine ⟨trivial,?_⟩;gi_at_call 71;rw [← HW0.out];refine (callsIn_wide.2 HPK.out).mono ?_;rintro e w1 ⟨rfl,hb1⟩;have hp1:=HPB.out.on hb1 (by rw [HS0.out];omega);have HP1:=hid hp1;have HB1:=hid hb1;clear hp1 hb1)|(refine ⟨trivial,?_⟩;gi_at_call 72;refine (callsIn_wide.2 (HPKR.out _)).mono ?_;rintro e w2 ⟨m,rfl,hm2,hb2,hmb⟩;have HM2:=hid hm2;have HB2:=hid hb2;have HMB:=hid hmb;clear hm2 hb2 hmb))
    obtain ⟨w3,hw3⟩:∃ w3,w3=(((w2.alloc (.cells #[.map (some m)] 73)).alloc (.cells #[.slice none 0 0] 46)).alloc (.cells #[.int .i64 0] 3)).alloc (.cells #[.int .i64 0] 3):=⟨_,rfl⟩
    rw [← hw3]
    obtain ⟨q,hq⟩:∃ q,q=w2.heap.size:=⟨_,rfl⟩
    have hz3:w3.heap.size=q+1+1+1+1:=by rw [hw3,hq];simp
    have hm3:w3.heap[q]? = some (.cells #[.map (some m)] 73 (0,0)):=by
      rw [hw3,hq,Below.heap_alloc _ _ _ (by simp<;>omega),Below.heap_alloc _ _ _ (by simp<;>omega),Below.heap_alloc _ _ _ (by simp)];exact heap_alloc_new _ _
    have hv3:w3.heap[q+1]? = some (.cells #[.slice none 0 0] 46 (0,0)):=by
      rw [hw3,hq,Below.heap_alloc _ _ _ (by simp<;>omega),Below.heap_alloc _ _ _ (by simp)]
      simpa using heap_alloc_new (w2.alloc (.cells #[.map (some m)] 73)) (.cells #[.slice none 0 0] 46)
    have ha3:w3.heap[q+1+1]? = some (.cells #[.int .i64 0] 3 (0,0)):=by
      rw [hw3,hq,Below.heap_alloc _ _ _ (by simp)]
      simpa using heap_alloc_new ((w2.alloc (.cells #[.map (some m)] 73)).alloc (.cells #[.slice none 0 0] 46)) (.cells #[.int .i64 0] 3)
    have hn3:w3.heap[q+1+1+1]? = some (.cells #[.int .i64 0] 3 (0,0)):=by
      rw [hw3,hq]
      simpa using heap_alloc_new (((w2.alloc (.cells #[.map (some m)] 73)).alloc (.cells #[.slice none 0 0] 46)).alloc (.cells #[.int .i64 0] 3)) (.cells #[.int .i64 0] 3)
    have hb3:Below w2.heap.size w2 w3:=by rw [hw3];exact ((((Below.refl _ _).alloc (Nat.le_refl _) _).alloc (by simp) _).alloc (by simp;omega) _).alloc (by simp;omega) _
    have hlt1:=HP1.out.lt
    have hs2:=HB2.out.size
    have hp3:=(HP1.out.on HB2.out hlt1).on hb3 (by omega)
    have hpk3:PkMap w3 m 6 7:=by
      obtain ⟨D,hown,_⟩:=HM2.out
      exact HM2.out.of (hb3.block _ hown.lt)
    have hmq:m<q:=by
      obtain ⟨D,hown,_⟩:=HM2.out
      rw [hq]
      exact hown.lt
    have hlow3:Below w.heap.size w w3:=HB0.out.trans ((HB1.out.mono HB0.out.size).trans ((HB2.out.mono (Nat.le_trans HB0.out.size HB1.out.size)).trans (hb3.mono (Nat.le_trans HB0.out.size (Nat.le_trans HB1.out.size hs2)))))
    rw [← hq]
    have hqb:w.heap.size+1+1<q:=by omega
    have HP3:=hid hp3
    have HPK3:=hid hpk3
    have HM3:=hid hm3
    have HV3:=hid hv3
    have HA3:=hid ha3
    have HN3:=hid hn3
    have HLOW3:=hid hlow3
    have HZ3:=hid hz3
    clear hw3 hq hz3 hm3 hv3 ha3 hn3 hb3 hp3 hpk3 hlow3 hs2 hlt1 HM2 HB2 HMB HP1 HB1 HPB HW0 HB0 HS0 HPK HPKR
    refine ⟨trivial,(callsIn_wide.2 (HFD.out w3)).mono ?_⟩
    rintro e w4 ⟨rfl,hbe,hep,hsz4⟩
    rw [HZ3.out] at hep hsz4
    rw [HZ3.out]
    gi_wp2
    obtain ⟨b,hb⟩:∃ b,b=w.heap.size:=⟨_,rfl⟩
    have HBE:=hid hb
    have hbw1:b≤w.heap.size:=by omega
    have hI0:PAt b q m w4.heap.size (.slice aa na ca) w s args [] w4:=by
      refine ⟨.slice none 0 0,[],0,0,PSt.mk ⟨by omega,hmq,by omega,Nat.le_refl _⟩ ?_ ?_ ?_ ?_ (RowY.nil _ _) ?_ ?_ ?_,Nat.zero_le _,Nat.le_refl _,by simp,fun rest hr=>by rw [hr];rfl⟩
      · rw [hb];exact HP3.out.on hbe (by rw [HZ3.out];omega)
      · exact (hbe.block _ (by rw [HZ3.out];omega)).trans HM3.out
      · exact HPK3.out.of (hbe.block _ (by rw [HZ3.out];omega))
      · exact (hbe.block _ (by rw [HZ3.out];omega)).trans HV3.out
      · exact (hbe.block _ (by rw [HZ3.out];omega)).trans HA3.out
      · exact (hbe.block _ (by rw [HZ3.out];omega)).trans HN3.out
      · rw [hb];exact HLOW3.out.trans (hbe.mono (by rw [HZ3.out];omega))
    rw [← hb] at hqb ⊢
    clear HP3 HPK3 HM3 HV3 HA3 HN3 HLOW3 hbe HFD hb HZ3
    refine wpIn_rangeFunc_ownH rfl (by omega) (gf:=120) (lb:=#[.pointer (some ⟨q+1+1+1+1,0,none⟩)]) rfl trivial (enters_of Tryz.func120 (by kernel_rfl) rfl)
      (fields_stopsI (B:=b) (by omega) _ hep (by omega)) KpF.trans (fun W l o o' hl h h1 h2=>⟨belowK_b (w:=w4) (by omega) W l o o' hl h h1 h2,World.putObj_heap_other (by omega)⟩) (Below.refl _ _) (fun _=>rfl)
      (PAt b q m w4.heap.size (.slice aa na ca) w s args) (fun c pre W=>c=.ret∧PEnd b w s args pre W)
      (PAt.own (B:=w4.heap.size) (Nat.le_refl _) hbw1) (fun c s' X Y row h hg hr=>⟨h.1,PEnd.own (B:=w4.heap.size) (by omega) hbw1 s' X Y row h.2 hg hr⟩) hI0
      (fun x a' W=>∃ Bx,w4.heap.size≤Bx∧W.heap[Bx]? = some (.cells #[.int .u8 (x.1.letter.toNat:Nat),.bool x.1.plain,.int .i64 x.1.count] 79 (0,0))∧a' = { tmps:=#[.string ⟨s.toArray⟩,.slice aa na ca,undef,.pointer (some ⟨b,0,none⟩),.pointer (some ⟨b+1,0,none⟩),.pointer (some ⟨b+1+1,0,none⟩),.pointer (some ⟨q,0,none⟩),.pointer (some ⟨q+1,0,none⟩),.pointer (some ⟨q+1+1,0,none⟩),.pointer (some ⟨q+1+1+1,0,none⟩),.pointer (some ⟨Bx,0,none⟩),undef,undef,.string ⟨s.toArray⟩,.bool true,.bool false,.map (some m),.string ⟨s.toArray⟩,.func (.func 120) #[] #[.pointer (some ⟨q+1+1+1+1,0,none⟩)],fldV x.1,undef,undef,undef,undef,undef,undef,undef,undef,undef,undef,undef,undef,undef,undef,undef,undef,undef,undef,undef,undef,undef,undef,undef,undef,undef,undef,undef,undef,undef,undef,undef,undef,undef,undef,undef,undef,undef,undef,undef,undef,undef,undef,undef,undef,undef,undef,undef,undef,undef,undef,undef],defers:=[] })
      (fun x a' s' X Y row h hg hr=>by obtain ⟨Bx,h1,h2,h3⟩:=h;exact ⟨Bx,h1,cells_turn hg hr h2,h3⟩) ?assign ?body ?done ?stop
    case assign=>
      rintro l pre ⟨x,hxs⟩ W K hi hK
      unfold encF fldV
      gi_wp2
      obtain ⟨v,bb,at0,k,hst,hrest⟩:=id hi.st
      obtain ⟨n1,n2,n3,n4⟩:=hst.num
      exact hK _ _ ((KeepsOthers.alloc _ _).from _) (KpF.of (belowA _ _) (by omega) (by omega)) ((PAt.own (B:=w4.heap.size) (Nat.le_refl _) hbw1).alloc _ hi) ⟨W.heap.size,n4,heap_alloc_new _ _,rfl⟩
    case body=>
      rintro l pre ⟨⟨c,pl,n⟩,hxs⟩ a' W hl hr hi ⟨Bx,hBx,hX,rfl⟩ hlt
      dsimp only at hX
      have hok:=packing_ok HP.out.symm _ hxs
      have x0:W.cell? ⟨Bx,0,none⟩=some (.int .u8 (c.toNat:Nat)):=by rw [Lib.cell_of_heap hX];rfl
      have x1:W.cell? ⟨Bx,1,none⟩=some (.bool pl):=by rw [Lib.cell_of_heap hX];rfl
      have x2:W.cell? ⟨Bx,2,none⟩=some (.int .i64 n):=by rw [Lib.cell_of_heap hX];rfl
      obtain ⟨v,bb,at0,k,hst,hk,hat,hbb,hrest⟩:=hi.st
      have HF:Hid (FBlk Bx W ⟨c,pl,n⟩):=hid ⟨hX⟩
      have HST:=hid hst
      have HREST:=hid hrest
      have HOK:=hid hok
      clear hi hrest hok hX
      obtain ⟨vo,vc,he⟩:=hst.row.shape
      obtain ⟨nb,hnb⟩:∃ nb,nb=bb.length:=⟨_,rfl⟩
      rw [← hnb] at he hbb hat
      have HNB:=hid hnb
      clear hnb
      subst he
      clear hst
      unfold fldV
      dsimp only
      iterate 11 gi_step
      gi_cut [11] from 20 (fun bv wx=>(∃ (y:Str) (at1 k1:Nat),PSt b q m w4.heap.size (.slice aa na ca) w wx (.slice vo nb vc) bb at1 k1∧RowY W.heap.size wx bv y∧y.length≤1000000∧at1≤65536∧k1≤args.length∧KeepsOthers W wx∧KpF b (q+1+1+1+1) W wx∧W.heap.size≤wx.heap.size∧
        ∀ fs,packGo (⟨c,pl,n⟩::fs) (args.drop k) bb at0=if 65536<(putE bb at1 y).length then .inl 4 else packGo fs (args.drop k1) (putE bb at1 y) (at1+y.length)))
      case first=>
        obtain ⟨n1,n2,n3,n4⟩:=HST.out.num
        have c1:=HST.out.cv
        have c2:=HST.out.ca
        have c3:=HST.out.cn
        have c4:=HST.out.cm
        have f1:=HST.out.fa
        have f2:=HST.out.fn
        have b1:=HST.out.base.ca
        have b2:=HST.out.base.cr
        have b3:=HST.out.base.fr
        have b4:=HST.out.base.ce
        have b5:=HST.out.base.fe
        obtain ⟨o1,o2,o3,o4,o5⟩:=HOK.out
        dsimp only at o1 o2 o3 o4 o5
        have hat9:at0≤65536:=by omega
        by_cases h64:c=64
        · have y64:((c.toNat:Int) == 64)=true:=by rw [h64];rfl
          have hne1:=o5 h64
          have hgo:∀ to':Nat,(to'=if n = -2 then bb.length else n.toNat)→∀ fs,packGo (⟨c,pl,n⟩::fs) (args.drop k) bb at0=if 65536<(putE bb to' []).length then .inl 4 else packGo fs (args.drop k) (putE bb to' []) (to'+([]:Str).length):=fun to' ht fs=>by
            subst ht
            rw [packGo_cons,if_pos (by rw [h64];rfl)]
            rfl
          have HGO:=hid hgo
          clear hgo
          by_cases hn:n = -2
          · have yn:(n == (-2:Int))=true:=by rw [hn];rfl
            gi_wp2
            gi_meet
            case rel=>
              rw [setCell_two]
              refine ⟨[],nb,k,HST.out.setAt nb,RowY.nil _ _,by simp,hbb,hk,KeepsOthers.setCell _ _ _,⟨(Below.refl _ _).setCell (by show b≤q+1+1;omega) _,Below.heap_setCell _ _ _ _ (by show q+1+1+1+1≠q+1+1;omega)⟩,by simp [World.setCell],HGO.out nb (by rw [if_pos hn];exact HNB.out)⟩
          · have yn:(n == (-2:Int))=false:=by simp;omega
            obtain ⟨N,hN⟩:∃ N:Nat,n=(N:Int):=⟨n.toNat,by omega⟩
            have HN:=hid hN
            gi_wp2
            gi_meet
            case rel=>
              refine ⟨[],N,k,HST.out.setAt N,RowY.nil _ _,by simp,by omega,hk,KeepsOthers.setCell _ _ _,⟨(Below.refl _ _).setCell (by show b≤q+1+1;omega) _,Below.heap_setCell _ _ _ _ (by show q+1+1+1+1≠q+1+1;omega)⟩,by simp [World.setCell],HGO.out N (by rw [if_neg hn,HN.out];rfl)⟩
        · have y64 : ((c.toNat : Int) == 64) = false := by
            simp only [beq_eq_false_iff_ne,ne_eq]
            intro h;exact h64 (UInt8.toNat_inj.1 (by have:(64:UInt8).toNat=64:=rfl;omega))
          by_cases h120:c=120
          · have y120:((c.toNat:Int) == 120)=true:=by rw [h120];rfl
            have H120:=hid h120
            clear h120
            have HONE:=hid (fun u=>one_fldC c pl n u)
            obtain ⟨N,hN⟩:∃ N,N=oneC ⟨c,pl,n⟩:=⟨_,rfl⟩
            have hNle:N≤9999:=by rw [hN];unfold oneC;dsimp only;split<;>omega
            rw [← hN] at HONE
            have HN:=hid hN
            clear hN
            gi_wp2_with ((with_reducible refine And.intro ?_ ?_);exact trivial;gi_at_call 74;refine (calls_round (HONE.out _)).mono ?_;rintro e w5 ⟨rfl,hb5⟩;have HB5:=hid hb5;clear hb5;simp only [];gi_step;refine mk_zeroR _ rfl _ _ rfl N _ _ rfl rfl rfl rfl (by omega) ?_;intro w6 hr6 hb6;have HR6:=hid hr6;have HB6:=hid hb6;clear hr6 hb6)
            gi_meet
            case rel=>
              have hb56:Below W.heap.size W w6:=HB5.out.trans (HB6.out.mono HB5.out.size)
              refine ⟨List.replicate N 0,at0,k,HST.out.on hb56,HR6.out.mono HB5.out.size,by rw [List.length_replicate];omega,hat9,hk,KeepsOthers.of_below hb56,KpF.of hb56 (by omega) (by omega),hb56.size,fun fs=>?_⟩
              rw [packGo_cons,if_neg (by simpa using h64),if_pos (by rw [H120.out];rfl),← HN.out,List.length_replicate]
          · have y120 : ((c.toNat : Int) == 120) = false := by
              simp only [beq_eq_false_iff_ne,ne_eq]
              intro h;exact h120 (UInt8.toNat_inj.1 (by have:(120:UInt8).toNat=120:=rfl;omega))
            by_cases hkn:k=na
            · have ykn:((k:Int) == (na:Int))=true:=by rw [hkn];simp
              gi_wp2
              have hgo2:∀ rest,fldsE s=(pre++[(⟨⟨c,pl,n⟩,hxs⟩:FldIn s)]).map Subtype.val++rest→packGo (fldsE s) args [] 0=.inl 8:=fun rest hr=>by
                rw [HREST.out (⟨c,pl,n⟩::rest) (hr.trans (by simp)),packGo_cons,if_neg (by simpa using h64),if_neg (by simpa using h120),List.drop_eq_nil_of_le (by rw [← HNA.out];omega)]
              refine ⟨((KeepsOthers.setCell _ _ _).trans (KeepsOthers.setCell _ _ _)).from _,rfl,?_,⟨8,?_,hgo2⟩,?_⟩
              · exact (Below.heap_setCell _ _ _ _ (by show b+1≠b+1+1;omega)).trans (heap_set_one HST.out.base.rs _)
              · exact heap_set_one ((Below.heap_setCell _ _ _ _ (by show b+1+1≠b+1;omega)).trans HST.out.base.er) _
              · exact (HST.out.low.setCell (by show b≤b+1;omega) _).setCell (by show b≤b+1+1;omega) _
            · have ykn:((k:Int) == (na:Int))=false:=by simp;omega
              gi_upto_region 13 with fail
              have hkl:k<args.length:=by have:=HNA.out;omega
              have hkn2:(k:Int)<(na:Int):=by have:=HNA.out;omega
              obtain ⟨pa,rfl,hpb,hpc⟩:=HCELL.out k hkl
              obtain ⟨xs,hxs2⟩:∃ xs,xs=args[k]:=⟨_,rfl⟩
              rw [← hxs2] at hpc
              have hpw:W.cell? (pa.add k)=some (.string ⟨xs.toArray⟩):=by rw [HST.out.low.cell (p:=pa.add k) (by rw [add_block,HBE.out];exact hpb)];exact hpc
              have hpl:pa.block<b:=by rw [HBE.out];exact hpb
              have hxl:xs.length≤100000:=by rw [hxs2];exact HX.out _ (List.getElem_mem _)
              have hdr:args.drop k=xs::args.drop (k+1):=by rw [hxs2];exact List.drop_eq_getElem_cons hkl
              have HDR:=hid hdr
              clear hdr hxs2 hpc
              obtain ⟨F,hpkv,hcf,hF⟩:=packer_fn c pl n xs hxl ⟨o3,o4⟩ o1 h120 h64
              have HPKV:=hid hpkv
              have HFN:=hid hF
              clear hpkv hF
              have hPM:=HST.out.pk
              have S0:Hid ((fun u:World=>u.cell? ⟨q,0,none⟩=some (.map (some m))∧PkMap u m 6 7∧u.cell? ⟨Bx,0,none⟩=some (.int .u8 (c.toNat:Nat))∧u.cell? ⟨Bx,1,none⟩=some (.bool pl)∧u.cell? ⟨Bx,2,none⟩=some (.int .i64 n)∧u.cell? ⟨b,0,none⟩=some (.slice (some pa) na ca)∧u.cell? ⟨q+1+1+1,0,none⟩=some (.int .i64 (k:Nat))∧u.cell? (pa.add k)=some (.string ⟨xs.toArray⟩)) W.drew):=hid ⟨c4,hPM,x0,x1,x2,b1,c3,hpw⟩
              have hW0:W.heap.size=W.heap.size:=rfl
              obtain ⟨r,hr0⟩:∃ r,r=packOne ⟨c,pl,n⟩ xs:=⟨_,rfl⟩
              rw [← hr0] at HFN
              have hrl:(prow r).length≤1000000:=by rw [hr0];exact packOne_len hxl ⟨o3,o4⟩
              have HR0:=hid hr0
              clear hr0
              have HFD9:=hid (show ∀ u:World,(Instr.field 84 (.agg #[.func (.func F) #[] #[]]) 0).run Tryz.prog u=.ok (.func (.func F) #[] #[]) u from fun u=>by kernel_rfl)
              refine U_beginR (late:=fun k=>decide (16≤k)) (S:=fun u:World=>u.cell? ⟨q,0,none⟩=some (.map (some m))∧PkMap u m 6 7∧u.cell? ⟨Bx,0,none⟩=some (.int .u8 (c.toNat:Nat))∧u.cell? ⟨Bx,1,none⟩=some (.bool pl)∧u.cell? ⟨Bx,2,none⟩=some (.int .i64 n)∧u.cell? ⟨b,0,none⟩=some (.slice (some pa) na ca)∧u.cell? ⟨q+1+1+1,0,none⟩=some (.int .i64 (k:Nat))∧u.cell? (pa.add k)=some (.string ⟨xs.toArray⟩)) (fun _ _ h=>h) (by kernel_rfl) (by kernel_rfl) ?_
              refine U_take2 8 (i:=0) (v:=.map (some m)) rfl (by kernel_rfl) (by kernel_rfl) (by kernel_rfl) (by kernel_rfl) (by kernel_rfl) (fun _ _ _ h=>h) (.inl ⟨rfl,fun u hu=>(by obtain ⟨h1,h2,h3,h4,h5,h6,h7,h8⟩:=hu;go_simp)⟩) S0.out ?_
              refine U_take2 8 (i:=1) (v:=.pointer (some ⟨Bx,0,none⟩)) rfl (by kernel_rfl) (by kernel_rfl) (by kernel_rfl) (by kernel_rfl) (by kernel_rfl) (fun _ _ _ h=>h) (.inl ⟨rfl,fun u hu=>(by go_simp)⟩) S0.out ?_
              refine U_take2 8 (i:=2) (v:=.int .u8 (c.toNat:Nat)) rfl (by kernel_rfl) (by kernel_rfl) (by kernel_rfl) (by kernel_rfl) (by kernel_rfl) (fun _ _ _ h=>h) (.inl ⟨rfl,fun u hu=>(by obtain ⟨h1,h2,h3,h4,h5,h6,h7,h8⟩:=hu;go_simp)⟩) S0.out ?_
              refine U_take2 8 (i:=3) (v:=.agg #[.func (.func F) #[] #[]]) rfl (by kernel_rfl) (by kernel_rfl) (by kernel_rfl) (by kernel_rfl) (by kernel_rfl) (fun _ _ _ h=>h) (.inl ⟨rfl,fun u hu=>(by obtain ⟨h1,h2,h3,h4,h5,h6,h7,h8⟩:=hu;have hlk:=h2.look c F HPKV.out;go_simp)⟩) S0.out ?_
              refine U_take2 8 (i:=4) (v:=.func (.func F) #[] #[]) rfl (by kernel_rfl) (by kernel_rfl) (by kernel_rfl) (by kernel_rfl) (by kernel_rfl) (fun _ _ _ h=>h) (.inl ⟨rfl,fun u hu=>(by have hfd:=HFD9.out u;go_simp)⟩) S0.out ?_
              refine U_take2 8 (i:=5) (v:=.agg #[.int .u8 (c.toNat:Nat),.bool pl,.int .i64 n]) rfl (by kernel_rfl) (by kernel_rfl) (by kernel_rfl) (by kernel_rfl) (by kernel_rfl) (fun _ _ _ h=>h) (.inl ⟨rfl,fun u hu=>(by obtain ⟨h1,h2,h3,h4,h5,h6,h7,h8⟩:=hu;go_simp)⟩) S0.out ?_
              refine U_take2 8 (i:=6) (v:=.slice (some pa) na ca) rfl (by kernel_rfl) (by kernel_rfl) (by kernel_rfl) (by kernel_rfl) (by kernel_rfl) (fun _ _ _ h=>h) (.inl ⟨rfl,fun u hu=>(by obtain ⟨h1,h2,h3,h4,h5,h6,h7,h8⟩:=hu;go_simp)⟩) S0.out ?_
              refine U_take2 8 (i:=7) (v:=.int .i64 (k:Nat)) rfl (by kernel_rfl) (by kernel_rfl) (by kernel_rfl) (by kernel_rfl) (by kernel_rfl) (fun _ _ _ h=>h) (.inl ⟨rfl,fun u hu=>(by obtain ⟨h1,h2,h3,h4,h5,h6,h7,h8⟩:=hu;go_simp)⟩) S0.out ?_
              refine U_take2 8 (i:=8) (v:=.pointer (some (pa.add k))) rfl (by kernel_rfl) (by kernel_rfl) (by kernel_rfl) (by kernel_rfl) (by kernel_rfl) (fun _ _ _ h=>h) (.inl ⟨rfl,fun u hu=>(by go_simp)⟩) S0.out ?_
              refine U_take2 8 (i:=9) (v:=.string ⟨xs.toArray⟩) rfl (by kernel_rfl) (by kernel_rfl) (by kernel_rfl) (by kernel_rfl) (by kernel_rfl) (fun _ _ _ h=>h) (.inl ⟨rfl,fun u hu=>(by obtain ⟨h1,h2,h3,h4,h5,h6,h7,h8⟩:=hu;go_simp)⟩) S0.out ?_
              refine U_step (j:=10) (by kernel_rfl) rfl (fun K hK=>?_)
              go_simp
              (with_reducible refine (HFN.out _).mono ?_);rintro e w6 ⟨v6,rfl,hr6,hb6⟩
              have hb6':Below W.heap.size W w6:=(Below.refl _ W).drew.trans hb6
              have S6:Hid ((fun u:World=>u.cell? ⟨q,0,none⟩=some (.map (some m))∧PkMap u m 6 7∧u.cell? ⟨Bx,0,none⟩=some (.int .u8 (c.toNat:Nat))∧u.cell? ⟨Bx,1,none⟩=some (.bool pl)∧u.cell? ⟨Bx,2,none⟩=some (.int .i64 n)∧u.cell? ⟨b,0,none⟩=some (.slice (some pa) na ca)∧u.cell? ⟨q+1+1+1,0,none⟩=some (.int .i64 (k:Nat))∧u.cell? (pa.add k)=some (.string ⟨xs.toArray⟩)) w6):=by
                have hlB:Bx<W.heap.size:=HF.out.lt
                have hk9:∀ (a:Addr),a.block<W.heap.size→w6.cell? a=W.cell? a:=fun a ha=>hb6'.cell (p:=a) ha
                exact hid ⟨(hk9 ⟨q,0,none⟩ (by show q<_;omega)).trans c4,hPM.of (hb6'.block _ (by omega)),(hk9 ⟨Bx,0,none⟩ hlB).trans x0,(hk9 ⟨Bx,1,none⟩ hlB).trans x1,(hk9 ⟨Bx,2,none⟩ hlB).trans x2,(hk9 ⟨b,0,none⟩ (by show b<_;omega)).trans b1,(hk9 ⟨q+1+1+1,0,none⟩ (by show q+1+1+1<_;omega)).trans c3,(hk9 (pa.add k) (by rw [add_block];omega)).trans hpw⟩
              refine hK.out _ _ (.inr S6.out) ?_
              clear hK K S0
              have HB6:=hid hb6'
              have HR6:=hid hr6
              have hst6:=HST.out.on hb6'
              have HST6:=hid hst6
              have d3:=hst6.cn
              have d4:=hst6.fn
              have e2:=hst6.base.cr
              have e3:=hst6.base.fr
              have e4:=hst6.base.ce
              have e5:=hst6.base.fe
              clear hb6 hb6' hr6 hst6 hPM hcf
              obtain ⟨ev,hev⟩:∃ ev,ev=perr r:=⟨_,rfl⟩
              rw [← hev]
              have HEV:=hid hev
              clear hev
              refine U_take2 8 (i:=11) (v:=.tuple #[v6,.int .i64 ev]) rfl (by kernel_rfl) (by kernel_rfl) (by kernel_rfl) (by kernel_rfl) (by kernel_rfl) (fun _ _ _ h=>h) (.inl ⟨rfl,fun u hu=>(by go_simp)⟩) S6.out ?_
              refine U_take2 8 (i:=12) (v:=v6) rfl (by kernel_rfl) (by kernel_rfl) (by kernel_rfl) (by kernel_rfl) (by kernel_rfl) (fun _ _ _ h=>h) (.inl ⟨rfl,fun u hu=>(by go_simp)⟩) S6.out ?_
              refine U_take2 8 (i:=13) (v:=.int .i64 ev) rfl (by kernel_rfl) (by kernel_rfl) (by kernel_rfl) (by kernel_rfl) (by kernel_rfl) (fun _ _ _ h=>h) (.inl ⟨rfl,fun u hu=>(by go_simp)⟩) S6.out ?_
              refine U_take2 8 (i:=14) (v:=v6) rfl (by kernel_rfl) (by kernel_rfl) (by kernel_rfl) (by kernel_rfl) (by kernel_rfl) (fun _ _ _ h=>h) (.inl ⟨rfl,fun u hu=>(by go_simp)⟩) S6.out ?_
              refine U_take2 8 (i:=15) (v:=.int .i64 ev) rfl (by kernel_rfl) (by kernel_rfl) (by kernel_rfl) (by kernel_rfl) (by kernel_rfl) (fun _ _ _ h=>h) (.inl ⟨rfl,fun u hu=>(by go_simp)⟩) S6.out ?_
              refine U_done (by kernel_rfl) ?_ _
              clear S6
              by_cases hev0:ev=0
              · have yev:(ev != 0)=false:=by rw [hev0];rfl
                gi_wp2
                gi_meet
                case rel=>
                  have hc:r=.inr (prow r):=by
                    cases hrr:r with
                    | inl e=>exact absurd (show e=0 by rw [HEV.out,hrr] at hev0;exact hev0) (packOne_ne (HR0.out.symm.trans hrr))
                    | inr x=>rfl
                  have h9:=HST6.out.setNext (k+1)
                  rw [show (((k+1:Nat)):Int)=(k:Int)+1 by omega] at h9
                  refine ⟨prow r,at0,k+1,h9,(show RowY W.heap.size w6 v6 (prow r) from HR6.out).setO _ (by omega),hrl,hat9,hkl,(KeepsOthers.of_below HB6.out).trans (KeepsOthers.setCell _ _ _),KpF.trans (KpF.of HB6.out (by omega) (by omega)) ⟨(Below.refl _ _).setCell (by show b≤q+1+1+1;omega) _,Below.heap_setCell _ _ _ _ (by show q+1+1+1+1≠q+1+1+1;omega)⟩,Nat.le_trans HB6.out.size (by simp [World.setCell]),fun fs=>?_⟩
                  rw [packGo_cons,if_neg (by simpa using h64),if_neg (by simpa using h120),HDR.out]
                  show (match packOne ⟨c,pl,n⟩ xs with
                    | .inl e=>Sum.inl e
                    | .inr y=>if 65536<(putE bb at0 y).length then .inl 4 else packGo fs (args.drop (k+1)) (putE bb at0 y) (at0+y.length))=_
                  rw [← HR0.out,hc]
                  rfl
              · have yev:(ev != 0)=true:=by simpa using hev0
                gi_wp2
                have hc:r=.inl ev:=by
                  cases hrr:r with
                  | inl e=>rw [HEV.out,hrr];rfl
                  | inr x=>exact absurd (by rw [HEV.out,hrr];rfl) hev0
                have hgo2:∀ rest,fldsE s=(pre++[(⟨⟨c,pl,n⟩,hxs⟩:FldIn s)]).map Subtype.val++rest→packGo (fldsE s) args [] 0=.inl ev:=fun rest hr=>by
                  rw [HREST.out (⟨c,pl,n⟩::rest) (hr.trans (by simp)),packGo_cons,if_neg (by simpa using h64),if_neg (by simpa using h120),HDR.out]
                  show (match packOne ⟨c,pl,n⟩ xs with
                    | .inl e=>Sum.inl e
                    | .inr y=>if 65536<(putE bb at0 y).length then .inl 4 else packGo rest (args.drop (k+1)) (putE bb at0 y) (at0+y.length))=_
                  rw [← HR0.out,hc]
                refine ⟨(((KeepsOthers.of_below HB6.out).trans (KeepsOthers.setCell _ _ _)).trans (KeepsOthers.setCell _ _ _)).from _,rfl,?_,⟨ev,?_,hgo2⟩,?_⟩
                · exact (Below.heap_setCell _ _ _ _ (by show b+1≠b+1+1;omega)).trans (heap_set_one HST6.out.base.rs _)
                · exact heap_set_one ((Below.heap_setCell _ _ _ _ (by show b+1+1≠b+1;omega)).trans HST6.out.base.er) _
                · exact (HST6.out.low.setCell (by show b≤b+1;omega) _).setCell (by show b≤b+1+1;omega) _
      obtain ⟨y,at1,k1,hst,hry,hyl,hat1,hk1,hko,hkp,hws,hgo⟩:=hcut
      obtain ⟨n1,n2,n3,n4⟩:=hst.num
      obtain ⟨au,cu,rfl⟩:=hry.shape
      have hvl:∀ g,(Value.slice vo nb vc).ownBlock=some g→g<W.heap.size:=fun g hg=>(HST.out.row.lt g hg).1
      have hvb:∀ g,(Value.slice vo nb vc).ownBlock=some g→w4.heap.size≤g:=fun g hg=>(HST.out.row.lt g hg).2
      have HPUT:=hid (put_fn (B:=w4.heap.size) at1 hst.row (hry.mono (Nat.zero_le _)) (fun g hg he=>by have:=hvl g hg;have:=(hry.lt g he).2;omega) n4 (by rw [← HNB.out];omega) hyl (by omega))
      have c1:=hst.cv
      have c2:=hst.ca
      have f1:=hst.fv
      have f2:=hst.fa
      obtain ⟨ny,hny⟩:∃ ny,ny=y.length:=⟨_,rfl⟩
      rw [← hny] at hyl HPUT hry ⊢
      have HNY:=hid hny
      have HGO:=hid hgo
      have HS1:=hid hst
      have HKO:=hid hko
      have HKP:=hid hkp
      have HVB:=hid hvb
      clear hst hgo hko hkp hny hry hvl hvb
      gi_wp2_with ((with_reducible refine And.intro ?_ ?_);exact trivial;gi_at_call 75;refine (calls_round HPUT.out).mono ?_;rintro e w5 ⟨v5,rfl,hr5,hg5,-⟩;have e5:=(hg5.block (q+1) (by omega) (fun e=>by have:=HVB.out _ e.symm;omega)).trans HS1.out.vv;have k5:=Lib.cell_of_heap e5;have f5:=Lib.frozen_of_heap e5 0;have hs5:=HS1.out.setV hr5 hg5;have c6:=hs5.ca;have f6:=hs5.fa;have d6:=hs5.cv;have hs7:=hs5.setAt (at1+ny);rw [Int.natCast_add] at hs7;have c7:=hs7.cv;have q7:=hs7.base.cr;have g7:=hs7.base.fr;have q8:=hs7.base.ce;have g8:=hs7.base.fe;have HR5:=hid hr5;have HG5:=hid hg5;have HS5:=hid hs5;have HS7:=hid hs7;obtain ⟨a5,c5,h5⟩:=hr5.shape;obtain ⟨n5,hn5⟩:∃ n5,n5=(putE bb at1 y).length:=⟨_,rfl⟩;rw [← hn5] at h5;subst h5;have HN5:=hid hn5;clear hn5 hr5 hg5 e5 hs5 hs7)
      · have h65:65536<(putE bb at1 y).length:=by rw [← HN5.out];omega
        have hgo2:∀ rest,fldsE s=(pre++[(⟨⟨c,pl,n⟩,hxs⟩:FldIn s)]).map Subtype.val++rest→packGo (fldsE s) args [] 0=.inl 4:=fun rest hr=>by
          rw [HREST.out (⟨c,pl,n⟩::rest) (hr.trans (by simp)),HGO.out rest,if_pos h65]
        have hko7:=(HKO.out.trans (KeepsOthers.of_grownBy HG5.out fun j o e ho=>by obtain ⟨_,cur,hc⟩:=ownsRow_lt HS1.out.row j e;rw [hc] at ho;cases ho;rfl))
        refine ⟨((((hko7.trans (KeepsOthers.setCell _ _ _)).trans (KeepsOthers.setCell _ _ _)).trans (KeepsOthers.setCell _ _ _)).trans (KeepsOthers.setCell _ _ _)).from _,rfl,?_,⟨4,?_,hgo2⟩,?_⟩
        · exact (Below.heap_setCell _ _ _ _ (by show b+1≠b+1+1;omega)).trans (heap_set_one HS7.out.base.rs _)
        · exact heap_set_one ((Below.heap_setCell _ _ _ _ (by show b+1+1≠b+1;omega)).trans HS7.out.base.er) _
        · exact (HS7.out.low.setCell (by show b≤b+1;omega) _).setCell (by show b≤b+1+1;omega) _
      · have h65:¬ 65536<(putE bb at1 y).length:=by rw [← HN5.out];omega
        have hgo2:∀ rest,fldsE s=(pre++[(⟨⟨c,pl,n⟩,hxs⟩:FldIn s)]).map Subtype.val++rest→packGo (fldsE s) args [] 0=packGo rest (args.drop k1) (putE bb at1 y) (at1+ny):=fun rest hr=>by
          rw [HREST.out (⟨c,pl,n⟩::rest) (hr.trans (by simp)),HGO.out rest,if_neg h65,HNY.out]
        have hko7:=(HKO.out.trans (KeepsOthers.of_grownBy HG5.out fun j o e ho=>by obtain ⟨_,cur,hc⟩:=ownsRow_lt HS1.out.row j e;rw [hc] at ho;cases ho;rfl))
        have hb5:Below b wc w5:=(Below.refl b wc).grown HG5.out (by omega) (fun g e=>by have:=HVB.out g e;omega)
        have hp5:w5.heap[q+1+1+1+1]? = wc.heap[q+1+1+1+1]?:=HG5.out.block _ (by omega) fun e=>by have:=HVB.out _ e.symm;omega
        refine ⟨((hko7.trans (KeepsOthers.setCell _ _ _)).trans (KeepsOthers.setCell _ _ _)).from _,KpF.trans HKP.out ⟨(hb5.setCell (by show b≤q+1;omega) _).setCell (by show b≤q+1+1;omega) _,?_⟩,⟨_,_,_,_,HS7.out,hk1,?_,by omega,hgo2⟩⟩
        · exact (Below.heap_setCell _ _ _ _ (by show q+1+1+1+1≠q+1+1;omega)).trans ((Below.heap_setCell _ _ _ _ (by show q+1+1+1+1≠q+1;omega)).trans hp5)
        · rw [putE_len,← HNY.out];omega
    case done=>
      rintro D xs W hD hxs hi hK
      obtain ⟨v,bb,at0,k,hst,hk,hat,hbb,hrest⟩:=hi.st
      have hstr:=hst.row.str
      have c0:=hst.cv
      have c1:=hst.base.cr
      have c2:=hst.base.fr
      have c3:=hst.base.ce
      have c4:=hst.base.fe
      have hlt:=hst.base.lt
      have hres:packRes s args=(bb,0):=by
        have h9:=hrest [] (by rw [hxs];simp)
        unfold packRes
        rw [← HP.out,if_pos rfl,h9]
        rfl
      have HST:=hid hst
      have HRES:=hid hres
      have HK:=hid hK
      clear hst hrest hres hi hK
      gi_wp2
      refine pack_end (b:=b) (x:=bb) (z:=0) HBE.out (by omega) ?_ ?_ ?_ ?_ HRES.out rfl rfl
      · simp [World.setCell,Array.getElem?_modify,HST.out.base.rs]
      · simp [World.setCell,Array.getElem?_modify,HST.out.base.er]
      · exact ((KeepsOthers.setCell _ _ _).trans (KeepsOthers.setCell _ _ _)).same D _ HK.out rfl
      · exact (HST.out.low.setCell (by show b≤b+1;omega) _).setCell (by show b≤b+1+1;omega) _
    case stop=>
      rintro D c pre W hD hpre ⟨rfl,he⟩ hK
      obtain ⟨z,h1,h2⟩:=he.er
      obtain ⟨rest,hrest⟩:=hpre
      have hres:packRes s args=([],z):=by
        unfold packRes
        rw [← HP.out,if_pos rfl,h2 rest hrest.symm]
      gi_wp2
      exact pack_end HBE.out (by omega) he.rs h1 hK he.low hres rfl rfl
end Go.Proofs.YtihdndaibmgoiaaGreatDoor.Pz
