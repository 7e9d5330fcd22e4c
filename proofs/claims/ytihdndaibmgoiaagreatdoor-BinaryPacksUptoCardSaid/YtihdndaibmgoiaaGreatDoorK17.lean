/-
  Part K17 of the proofs of this seat, merged by a program out of 3 texts; remarks are struck.
-/
import Derived.Lib.ConvBytes
import Derived.Shelf.LaysM
import Derived.Shelf.Strconv.Itoa3
import Derived.Test.YtihdndaibmgoiaaGreatDoorProg
import Derived.Test.YtihdndaibmgoiaaGreatDoorK16
import Derived.Test.YtihdndaibmgoiaaGreatDoorK14
import Derived.Test.YtihdndaibmgoiaaGreatDoorK11
namespace Go.Proofs.YtihdndaibmgoiaaGreatDoor.Pz
open Go.RowKit
theorem fldCells_at:∀ (l:List Fld) (i:Nat) (h:i<l.length),(fldCells l)[i*3]? = some (.int .u8 (l[i].letter.toNat:Nat))∧(fldCells l)[i*3+1]? = some (.bool l[i].plain)∧(fldCells l)[i*3+2]? = some (.int .i64 l[i].count)
 | f::t,0,_=>⟨rfl,rfl,rfl⟩
 | f::t,i+1,h=>by
  have ih:=fldCells_at t i (by simpa using h)
  have e:∀ k,(fldCells (f::t))[(i+1)*3+k]? = (fldCells t)[i*3+k]?:=fun k=>by
   have e1:fldCells (f::t)=fldCell f++fldCells t:=by simp [fldCells]
   rw [e1,List.getElem?_append_right (by show 3≤_;omega)]
   have e2:(i+1)*3+k-(fldCell f).length=i*3+k:=by show (i+1)*3+k-3=_;omega
   rw [e2]
  refine ⟨?_,?_,?_⟩
  ·have:=e 0;rw [Nat.add_zero,Nat.add_zero] at this;rw [this];exact ih.1
  ·rw [e 1];exact ih.2.1
  ·rw [e 2];exact ih.2.2
theorem RowD.shape {B:Nat} {w:World} {v:Value} {l:List Fld} (h:RowD B w v l):∃ a c,v=.slice a l.length c:=by
 rcases h.2 with ⟨rfl,h0⟩ | ⟨g,cap,cur,rfl,_⟩
 ·exact ⟨none,0,by rw [h0]⟩
 ·exact ⟨_,_,rfl⟩
theorem RowD.at {B:Nat} {w:World} {a:Option Addr} {n c:Nat} {l:List Fld} (h:RowD B w (.slice a n c) l) {i:Nat} (hi:i<l.length):∃ g,a=some ⟨g,0,none⟩∧n=l.length∧g<w.heap.size∧w.cell? ⟨g,i*3,none⟩=some (.int .u8 (l[i].letter.toNat:Nat))∧w.cell? ⟨g,i*3+1,none⟩=some (.bool l[i].plain)∧w.cell? ⟨g,i*3+2,none⟩=some (.int .i64 l[i].count):=by
 rcases h.2 with ⟨_,h0⟩ | ⟨g,cap,cur,e,_⟩
 ·omega
 ·have ho:(Value.slice a n c).ownBlock=some g:=by rw [e];rfl
  have hg:=(h.lt g ho).1
  obtain ⟨f0,f1,f2⟩:=fldCells_at l i hi
  have h0:=World.ownsRow.cells h ho (i*3) _ f0
  have h1:=World.ownsRow.cells h ho (i*3+1) _ f1
  have h2:=World.ownsRow.cells h ho (i*3+2) _ f2
  simp only [Value.slice.injEq] at e
  rw [add_none,Nat.zero_add] at h0 h1 h2
  exact ⟨g,e.1,e.2.1,hg,h0,h1,h2⟩
end Go.Proofs.YtihdndaibmgoiaaGreatDoor.Pz
namespace Go.Proofs.YtihdndaibmgoiaaGreatDoor.Pz
open Go.RowKit Go.Shelf
attribute [local go_sem] Oper.semAt_some
theorem lenL_le8b (c:UInt8) (n:Nat):lenL c n≤8*n+7:=by
 unfold lenL
 split
 ·omega
 ·split
  ·omega
  ·have h:max 1 (widthL c)≤8:=by have:=widthL_le c;omega
   have:=Nat.mul_le_mul_right n h
   omega
theorem byte_ne_of {c:UInt8} (h:((c.toNat:Int) == 64)=false):c≠64:=by
 rintro rfl
 exact absurd h (by decide)
set_option maxRecDepth 100000 in
theorem len_end0 {s:Str} {b:Nat} {w W:World} {x z:Int} {T:Array Value} (hb:b=w.heap.size) (h1:W.heap[b]? = some (.cells #[.int .i64 x] 3 (0,0))) (h2:W.heap[b+1]? = some (.cells #[.int .i64 z] 27 (0,0)))
  (hlow:Below b w W) (hsp:lengthRes s=(x,z)) (h4:T[2]? = some (.pointer (some ⟨b,0,none⟩))) (h5:T[3]? = some (.pointer (some ⟨b+1,0,none⟩))) :
  bodyPostM Fence.wide 5 Tryz.prog Tryz.f52 (fun e w'=>e=.returned (.tuple #[.int .i64 (lengthRes s).1,.int .i64 (lengthRes s).2])∧Below w.heap.size w w') Exit.ret { tmps:=T,defers:=[] } W:=by
 have c1:W.cell? ⟨b,0,none⟩=some (.int .i64 x):=by rw [Lib.cell_of_heap h1];rfl
 have c2:W.cell? ⟨b+1,0,none⟩=some (.int .i64 z):=by rw [Lib.cell_of_heap h2];rfl
 refine ⟨.tuple #[.int .i64 x,.int .i64 z],?_,by rw [hsp],?_⟩
 ·simp [results,Tryz.results52,asAddr,go_sem,c1,c2,h4,h5]
 ·rw [← hb]
  exact hlow
set_option maxRecDepth 100000 in
theorem len_end {s:Str} {b D:Nat} {w W:World} {x z:Int} {T:Array Value} (hb:b=w.heap.size) (hD:b+1<D) (h1:W.heap[b]? = some (.cells #[.int .i64 x] 3 (0,0))) (h2:W.heap[b+1]? = some (.cells #[.int .i64 z] 27 (0,0))) (hK:W.heap[D]? = some (.deferred (some [])))
  (hlow:Below b w W) (hsp:lengthRes s=(x,z)) (h4:T[2]? = some (.pointer (some ⟨b,0,none⟩))) (h5:T[3]? = some (.pointer (some ⟨b+1,0,none⟩))) :
  bodyPostM Fence.wide 5 Tryz.prog Tryz.f52 (fun e w'=>e=.returned (.tuple #[.int .i64 (lengthRes s).1,.int .i64 (lengthRes s).2])∧Below w.heap.size w w') Exit.ret { tmps:=T,defers:=[{ target:=.collected D,args:=#[] }] } W:=by
 refine ⟨by simp,.inl ⟨_,_,rfl,run_takeDeferred hK,?_⟩⟩
 refine len_end0 (W:=W.putObj D (.deferred none)) hb ((World.putObj_heap_other (by omega)).trans h1) ((World.putObj_heap_other (by omega)).trans h2) ?_ hsp h4 h5
 exact hlow.trans ⟨rfl,rfl,rfl,by rw [World.putObj_size];exact Nat.le_refl _,fun k hk=>World.putObj_heap_other (by omega)⟩
structure LSt (b q:Nat) (w W:World) (a e:Nat):Prop where
 num:b+1<q∧q+1+1<W.heap.size
 r0:W.heap[b]? = some (.cells #[.int .i64 0] 3 (0,0))
 r1:W.heap[b+1]? = some (.cells #[.int .i64 0] 27 (0,0))
 ac:W.heap[q]? = some (.cells #[.int .i64 (a:Nat)] 3 (0,0))
 ec:W.heap[q+1]? = some (.cells #[.int .i64 (e:Nat)] 3 (0,0))
 low:Below b w W
section
variable {b q a e:Nat} {w W W':World}
theorem LSt.on (h:LSt b q w W a e) (hb:Below W.heap.size W W'):LSt b q w W' a e:=by
 obtain ⟨n1,n2⟩:=h.num
 exact ⟨⟨n1,Nat.lt_of_lt_of_le n2 hb.size⟩,(hb.block _ (by omega)).trans h.r0,(hb.block _ (by omega)).trans h.r1,(hb.block _ (by omega)).trans h.ac,(hb.block _ (by omega)).trans h.ec,h.low.trans (hb.mono (by omega))⟩
theorem LSt.setA (h:LSt b q w W a e) (x:Nat):LSt b q w (W.setCell ⟨q,0,none⟩ (.int .i64 (x:Nat))) x e:=by
 obtain ⟨n1,n2⟩:=h.num
 have ne:∀ g,g≠q→(W.setCell ⟨q,0,none⟩ (.int .i64 (x:Nat))).heap[g]? = W.heap[g]?:=fun g hg=>Below.heap_setCell _ _ _ _ (fun e=>hg e)
 exact ⟨⟨n1,by simpa [World.setCell] using n2⟩,(ne _ (by omega)).trans h.r0,(ne _ (by omega)).trans h.r1,heap_set_one h.ac _,(ne _ (by omega)).trans h.ec,h.low.setCell (by show b≤q;omega) _⟩
theorem LSt.setE (h:LSt b q w W a e) (x:Nat):LSt b q w (W.setCell ⟨q+1,0,none⟩ (.int .i64 (x:Nat))) a x:=by
 obtain ⟨n1,n2⟩:=h.num
 have ne:∀ g,g≠q+1→(W.setCell ⟨q+1,0,none⟩ (.int .i64 (x:Nat))).heap[g]? = W.heap[g]?:=fun g hg=>Below.heap_setCell _ _ _ _ (fun e=>hg e)
 exact ⟨⟨n1,by simpa [World.setCell] using n2⟩,(ne _ (by omega)).trans h.r0,(ne _ (by omega)).trans h.r1,(ne _ (by omega)).trans h.ac,heap_set_one h.ec _,h.low.setCell (by show b≤q+1;omega) _⟩
theorem LSt.ca (h:LSt b q w W a e):W.cell? ⟨q,0,none⟩=some (.int .i64 (a:Nat)):=by rw [Lib.cell_of_heap h.ac];rfl
theorem LSt.ce (h:LSt b q w W a e):W.cell? ⟨q+1,0,none⟩=some (.int .i64 (e:Nat)):=by rw [Lib.cell_of_heap h.ec];rfl
theorem LSt.c0 (h:LSt b q w W a e):W.cell? ⟨b,0,none⟩=some (.int .i64 0):=by rw [Lib.cell_of_heap h.r0];rfl
theorem LSt.c1 (h:LSt b q w W a e):W.cell? ⟨b+1,0,none⟩=some (.int .i64 0):=by rw [Lib.cell_of_heap h.r1];rfl
theorem LSt.fa (h:LSt b q w W a e):W.frozen? ⟨q,0,none⟩=false:=Lib.frozen_of_heap h.ac 0
theorem LSt.fe (h:LSt b q w W a e):W.frozen? ⟨q+1,0,none⟩=false:=Lib.frozen_of_heap h.ec 0
theorem LSt.f0 (h:LSt b q w W a e):W.frozen? ⟨b,0,none⟩=false:=Lib.frozen_of_heap h.r0 0
theorem LSt.f1 (h:LSt b q w W a e):W.frozen? ⟨b+1,0,none⟩=false:=Lib.frozen_of_heap h.r1 0
end
structure LAt (b q:Nat) (w:World) (s:Str) (pre:List (FldIn s)) (W:World):Prop where
 st:∃ a e:Nat,LSt b q w W a e∧a≤80000*pre.length∧e≤80000*pre.length∧∀ rest,fldsE s=pre.map Subtype.val++rest→lengthGo (fldsE s) 0 0=lengthGo rest a e
structure LEnd (b:Nat) (w:World) (s:Str) (pre:List (FldIn s)) (W:World):Prop where
 r0:W.heap[b]? = some (.cells #[.int .i64 0] 3 (0,0))
 r1:W.heap[b+1]? = some (.cells #[.int .i64 7] 27 (0,0))
 go:∀ rest,fldsE s=pre.map Subtype.val++rest→lengthGo (fldsE s) 0 0=none
 low:Below b w W
theorem LAt.own {b q B:Nat} {w:World} {s:Str} (hB:b≤B) (hbw:b≤w.heap.size):OwnFrom B (LAt b q w s):=by
 rintro pre X Y row ⟨a,e,h,h1⟩ hg hr
 obtain ⟨n1,n2⟩:=h.num
 exact ⟨a,e,⟨⟨n1,Nat.lt_of_lt_of_le n2 hg.size⟩,cells_turn hg hr h.r0,cells_turn hg hr h.r1,cells_turn hg hr h.ac,cells_turn hg hr h.ec,below_turn h.low hbw hg (fun r e=>⟨Nat.le_trans hB (hr r e).1,(hr r e).2⟩)⟩,h1⟩
theorem LEnd.own {b B:Nat} {w:World} {s:Str} (hB:b≤B) (hbw:b≤w.heap.size):OwnFrom B (LEnd b w s):=by
 rintro pre X Y row h hg hr
 exact ⟨cells_turn hg hr h.r0,cells_turn hg hr h.r1,h.go,below_turn h.low hbw hg (fun r e=>⟨Nat.le_trans hB (hr r e).1,(hr r e).2⟩)⟩
set_option maxRecDepth 1000000 in
set_option maxHeartbeats 4000000 in
theorem lengthP_fn (s:Str) (hs:s.length≤100000) (w:World):Calls Tryz.prog 52 #[.string ⟨s.toArray⟩] w fun e w'=>e=.returned (.tuple #[.int .i64 (lengthRes s).1,.int .i64 (lengthRes s).2])∧Below w.heap.size w w':=by
 refine (callsIn_wide (n:=5)).1 ?_
 refine callsIn_of_wp_marks Tryz.func52 rfl trivial ?_ rfl
 simp only [Tryz.ntmps52,List.size_toArray,List.length_cons,List.length_nil,Nat.reduceAdd,Nat.reduceSub,Array.replicate_succ,Array.replicate_zero,List.push_toArray,List.append_toArray,List.nil_append,List.cons_append]
 obtain ⟨W0,hW0⟩:∃ W0,W0=(w.alloc (.cells #[.int .i64 0] 3)).alloc (.cells #[.int .i64 0] 27):=⟨_,rfl⟩
 have hs0:W0.heap.size=w.heap.size+1+1:=by rw [hW0];simp
 have h0:W0.heap[w.heap.size]? = some (.cells #[.int .i64 0] 3 (0,0)):=by
  rw [hW0,Below.heap_alloc _ _ _ (by simp)];exact heap_alloc_new _ _
 have h1:W0.heap[w.heap.size+1]? = some (.cells #[.int .i64 0] 27 (0,0)):=by
  rw [hW0]
  simpa using heap_alloc_new (w.alloc (.cells #[.int .i64 0] 3)) (.cells #[.int .i64 0] 27)
 have hb0:Below w.heap.size w W0:=by rw [hW0];exact ((Below.refl _ _).alloc (Nat.le_refl _) _).alloc (by simp) _
 have HV:=hid (valid_fn s (by omega) W0)
 obtain ⟨ok,hok⟩:∃ ok,ok=validE s:=⟨_,rfl⟩
 rw [← hok] at HV
 have HOK:=hid hok
 have HW0:=hid hW0
 have H0:=hid h0
 have H1:=hid h1
 have HB0:=hid hb0
 have HS0:=hid hs0
 clear hok hW0 h0 h1 hb0 hs0
 cases ok with
 | false=>
  have HRS:=hid (show lengthRes s=(0,2) by unfold lengthRes;rw [← HOK.out];rfl)
  gi_wp2_with (refine ⟨trivial,?_⟩;gi_at_call 79;rw [← HW0.out];refine (callsIn_wide.2 HV.out).mono ?_;rintro e w1 ⟨rfl,hb1⟩;have k0:=(hb1.block w.heap.size (by rw [HS0.out];omega)).trans H0.out;have k1:=(hb1.block (w.heap.size+1) (by rw [HS0.out];omega)).trans H1.out;have K0:=hid k0;have K1:=hid k1;have q1:=Lib.cell_of_heap k0;have q2:=Lib.frozen_of_heap k0 0;have q3:=Lib.cell_of_heap k1;have q4:=Lib.frozen_of_heap k1 0;have HB1:=hid hb1;clear k0 k1 hb1)
  refine len_end0 (b:=w.heap.size) (x:=0) (z:=2) rfl ?_ ?_ ?_ HRS.out rfl rfl
  ·exact (Below.heap_setCell _ _ _ _ (by show w.heap.size≠w.heap.size+1;omega)).trans (heap_set_one K0.out _)
  ·exact heap_set_one ((Below.heap_setCell _ _ _ _ (by show w.heap.size+1≠w.heap.size;omega)).trans K1.out) _
  ·exact ((HB0.out.trans (HB1.out.mono (by rw [HS0.out];omega))).setCell (by show w.heap.size≤w.heap.size;omega) _).setCell (by show w.heap.size≤w.heap.size+1;omega) _
 | true=>
  have HFD:=hid (fun u=>fields_fn s u)
  gi_wp2_with ((refine ⟨trivial,?_⟩;gi_at_call 79;rw [← HW0.out];refine (callsIn_wide.2 HV.out).mono ?_;rintro e w1 ⟨rfl,hb1⟩;have HB1:=hid hb1;clear hb1))
  obtain ⟨A,hA⟩:∃ A,A=(w1.alloc (.cells #[.int .i64 0] 3)).alloc (.cells #[.int .i64 0] 3):=⟨_,rfl⟩
  rw [← hA]
  obtain ⟨q,hq⟩:∃ q,q=w1.heap.size:=⟨_,rfl⟩
  have hAz:A.heap.size=q+1+1:=by rw [hA,hq];simp
  have hAa:A.heap[q]? = some (.cells #[.int .i64 0] 3 (0,0)):=by rw [hA,hq,Below.heap_alloc _ _ _ (by simp)];exact heap_alloc_new _ _
  have hAe:A.heap[q+1]? = some (.cells #[.int .i64 0] 3 (0,0)):=by
   rw [hA,hq]
   simpa using heap_alloc_new (w1.alloc (.cells #[.int .i64 0] 3)) (.cells #[.int .i64 0] 3)
  have hAb:Below w1.heap.size w1 A:=by rw [hA];exact ((Below.refl _ _).alloc (Nat.le_refl _) _).alloc (by simp) _
  have hs1:=HB1.out.size
  have hz0:=HS0.out
  have hA0:A.heap[w.heap.size]? = some (.cells #[.int .i64 0] 3 (0,0)):=(hAb.block _ (by omega)).trans ((HB1.out.block w.heap.size (by omega)).trans H0.out)
  have hA1:A.heap[w.heap.size+1]? = some (.cells #[.int .i64 0] 27 (0,0)):=(hAb.block _ (by omega)).trans ((HB1.out.block (w.heap.size+1) (by omega)).trans H1.out)
  have hlow:Below w.heap.size w A:=HB0.out.trans ((HB1.out.mono (by omega)).trans (hAb.mono (by omega)))
  rw [← hq]
  have hqb0:w.heap.size+1<q:=by omega
  have HAZ:=hid hAz
  have HAA:=hid hAa
  have HAE:=hid hAe
  have HA0:=hid hA0
  have HA1:=hid hA1
  have HLOW:=hid hlow
  clear hq hA hAz hAa hAe hA0 hA1 hlow hAb hs1 hz0
  refine ⟨trivial,(callsIn_wide.2 (HFD.out A)).mono ?_⟩
  rintro e w2 ⟨rfl,hbe,hep,hsz2⟩
  rw [HAZ.out] at hep hsz2
  rw [HAZ.out]
  gi_wp2
  have hAz:=HAZ.out
  obtain ⟨b,hb⟩:∃ b,b=w.heap.size:=⟨_,rfl⟩
  have hqb:b+1<q:=by rw [hb];exact hqb0
  have hI0:LAt b q w s [] w2:=by
   refine ⟨0,0,⟨⟨hqb,by omega⟩,?_,?_,(hbe.block _ (by omega)).trans HAA.out,(hbe.block _ (by omega)).trans HAE.out,?_⟩,Nat.zero_le _,Nat.zero_le _,fun rest hr=>by rw [hr];rfl⟩
   ·rw [hb];exact (hbe.block _ (by omega)).trans HA0.out
   ·rw [hb];exact (hbe.block _ (by omega)).trans HA1.out
   ·rw [hb];exact HLOW.out.trans (hbe.mono (by omega))
  have hlen:(fldsE s).length≤100000:=Nat.le_trans (flds_len _ s (Nat.le_refl _)) (by omega)
  have HBE:=hid hb
  have hbw1:b≤w.heap.size:=by omega
  rw [← hb]
  clear hAz HAZ HAA HAE HA0 HA1 HLOW hbe HB1 HV HFD hb H0 H1 HW0 HB0 HS0 hqb0
  refine wpIn_rangeFunc_ownH rfl (by omega) (gf:=120) (lb:=#[.pointer (some ⟨q+1+1,0,none⟩)]) rfl trivial (enters_of Tryz.func120 (by kernel_rfl) rfl)
   (fields_stopsI (B:=b) (by omega) _ hep (by omega)) KpF.trans (fun W l o o' hl h h1 h2=>⟨belowK_b (w:=w2) (by omega) W l o o' hl h h1 h2,World.putObj_heap_other (by omega)⟩) (Below.refl _ _) (fun _=>rfl)
   (LAt b q w s) (fun c pre W=>c=.ret∧LEnd b w s pre W)
   (LAt.own (B:=w2.heap.size) (by omega) hbw1) (fun c s' X Y row h hg hr=>⟨h.1,LEnd.own (B:=w2.heap.size) (by omega) hbw1 s' X Y row h.2 hg hr⟩) hI0
   (fun x a' W=>∃ Bx,q+1+1<Bx∧W.heap[Bx]? = some (.cells #[.int .u8 (x.1.letter.toNat:Nat),.bool x.1.plain,.int .i64 x.1.count] 79 (0,0))∧a' = { tmps:=#[.string ⟨s.toArray⟩,undef,.pointer (some ⟨b,0,none⟩),.pointer (some ⟨b+1,0,none⟩),.pointer (some ⟨q,0,none⟩),.pointer (some ⟨q+1,0,none⟩),.pointer (some ⟨Bx,0,none⟩),.string ⟨s.toArray⟩,.bool true,.bool false,.string ⟨s.toArray⟩,.func (.func 120) #[] #[.pointer (some ⟨q+1+1,0,none⟩)],fldV x.1,undef,undef,undef,undef,undef,undef,undef,undef,undef,undef,undef,undef,undef,undef,undef,undef,undef,undef,undef,undef,undef,undef,undef,undef,undef,undef,undef,undef,undef,undef,undef,undef,undef,undef],defers:=[] })
   (fun x a' s' X Y row h hg hr=>by obtain ⟨Bx,h1,h2,h3⟩:=h;exact ⟨Bx,h1,cells_turn hg hr h2,h3⟩) ?assign ?body ?done ?stop
  case assign=>
   rintro l pre ⟨x,hxs⟩ W K hi hK
   unfold encF fldV
   gi_wp2
   obtain ⟨a,e,hst,hrest⟩:=id hi.st
   obtain ⟨n1,n2⟩:=hst.num
   exact hK _ _ ((KeepsOthers.alloc _ _).from _) (KpF.of (belowA _ _) (by omega) (by omega)) ((LAt.own (B:=b) (Nat.le_refl _) hbw1).alloc _ hi) ⟨W.heap.size,n2,heap_alloc_new _ _,rfl⟩
  case body=>
   rintro l pre ⟨⟨c,pl,n⟩,hxs⟩ a' W hl hr hi ⟨Bx,hBx,hX,rfl⟩ hlt
   dsimp only at hX
   have hok:=valid_ok HOK.out.symm _ hxs
   have x0:W.cell? ⟨Bx,0,none⟩=some (.int .u8 (c.toNat:Nat)):=by rw [Lib.cell_of_heap hX];rfl
   have x1:W.cell? ⟨Bx,1,none⟩=some (.bool pl):=by rw [Lib.cell_of_heap hX];rfl
   have x2:W.cell? ⟨Bx,2,none⟩=some (.int .i64 n):=by rw [Lib.cell_of_heap hX];rfl
   have hBl:Bx<W.heap.size:=(Array.getElem?_eq_some_iff.1 hX).1
   obtain ⟨a,e,hst,ha9,he9,hrest⟩:=hi.st
   have HST:=hid hst
   have HOKF:=hid hok
   have HREST:=hid (fun rest (hr:fldsE s=(pre++[(⟨⟨c,pl,n⟩,hxs⟩:FldIn s)]).map Subtype.val++rest)=>(hrest (⟨c,pl,n⟩::rest) (hr.trans (by simp))))
   obtain ⟨n1,n2⟩:=hst.num
   have hpl:pre.length≤100000:=by omega
   have hpl2:(pre++[(⟨⟨c,pl,n⟩,hxs⟩:FldIn s)]).length=pre.length+1:=by simp
   have k1:=hst.ca
   have k2:=hst.ce
   have k3:=hst.fa
   have k4:=hst.fe
   have k5:=hst.c0
   have k6:=hst.c1
   have k7:=hst.f0
   have k8:=hst.f1
   clear hi hst hrest hok hX
   obtain ⟨o1,o2,o3,o4,o5⟩:=HOKF.out
   dsimp only at o1 o2 o3 o4 o5
   unfold fldV
   dsimp only
   by_cases h64:c=64
   ·have y64:((c.toNat:Int) == 64)=true:=by rw [h64];rfl
    have hne1:=o5 h64
    have HGO:=hid (show ∀ T fs,(T=if n = -2 then e else n.toNat)→lengthGo (⟨c,pl,n⟩::fs) a e=lengthGo fs T (max e T) from fun T fs hT=>by rw [lengthGo,hT];dsimp only;rw [if_pos (by rw [h64];rfl:(c == 64)=true)])
    clear h64
    by_cases hn:n = -2
    ·have HG2:=hid (fun fs=>HGO.out e fs (by rw [if_pos hn]))
     subst hn
     have HX:=hid (HST.out.setA e)
     have HY:=hid (HX.out.setE e)
     have m1:=HX.out.ca
     have m2:=HX.out.ce
     have m3:=HX.out.fe
     gi_wp2
     refine ⟨((KeepsOthers.setCell _ _ _).trans (KeepsOthers.setCell _ _ _)).from _,KpF.trans ⟨(Below.refl _ _).setCell (by show b≤q;omega) _,Below.heap_setCell _ _ _ _ (by show q+1+1≠q;omega)⟩ ⟨(Below.refl _ _).setCell (by show b≤q+1;omega) _,Below.heap_setCell _ _ _ _ (by show q+1+1≠q+1;omega)⟩,⟨e,e,HY.out,by rw [hpl2];omega,by rw [hpl2];omega,fun rest hr=>by rw [HREST.out rest hr,HG2.out,Nat.max_self]⟩⟩
    ·obtain ⟨N,hN⟩:∃ N:Nat,n=(N:Int):=⟨n.toNat,by omega⟩
     have HG2:=hid (fun fs=>HGO.out N fs (by rw [if_neg hn,hN];rfl))
     subst hN
     have yn:((N:Int) == (-2:Int))=false:=by rw [beq_eq_false_iff_ne];omega
     have hN9:N≤9999:=by omega
     have HX:=hid (HST.out.setA N)
     have m1:=HX.out.ca
     have m2:=HX.out.ce
     have m3:=HX.out.fe
     obtain ⟨M,hM⟩:∃ M,M=max e N:=⟨_,rfl⟩
     have hMI:max (e:Int) (N:Int)=(M:Int):=by omega
     have HY:=hid (HX.out.setE M)
     have hM9:M≤80000*(pre.length+1):=by omega
     have HM:=hid hM
     clear hM hn
     gi_wp2
     refine ⟨((KeepsOthers.setCell _ _ _).trans (KeepsOthers.setCell _ _ _)).from _,KpF.trans ⟨(Below.refl _ _).setCell (by show b≤q;omega) _,Below.heap_setCell _ _ _ _ (by show q+1+1≠q;omega)⟩ ⟨(Below.refl _ _).setCell (by show b≤q+1;omega) _,Below.heap_setCell _ _ _ _ (by show q+1+1≠q+1;omega)⟩,⟨N,M,HY.out,by rw [hpl2];omega,by rw [hpl2];exact hM9,fun rest hr=>by rw [HREST.out rest hr,HG2.out,HM.out]⟩⟩
   have y64:((c.toNat:Int) == 64)=false:=byte_ne (k:=64) 64 h64 rfl
   obtain ⟨Q,hQ⟩:∃ Q,Q=lenL c (oneC ⟨c,pl,n⟩):=⟨_,rfl⟩
   obtain ⟨N,hN⟩:∃ N,N=oneC ⟨c,pl,n⟩:=⟨_,rfl⟩
   have hNle:N≤9999:=by rw [hN];unfold oneC;dsimp only;split<;>omega
   have hQ9:Q≤79999:=by rw [hQ];have:=lenL_le8b c (oneC ⟨c,pl,n⟩);rw [← hN] at this ⊢;omega
   have HGO:=hid (show ∀ fs,lengthGo (⟨c,pl,n⟩::fs) a e=if n = -2∧c≠120 then none else lengthGo fs (a+Q) (max e (a+Q)) from fun fs=>by rw [lengthGo];dsimp only;rw [if_neg (by rw [beq_eq_false_iff_ne.2 h64];simp:¬ (c == 64)=true),hQ])
   have HTK:=hid (fun u=>taking_fn c pl n u)
   have HONE:=hid (fun u=>one_fldC c pl n u)
   rw [← hN] at HONE
   have HLEN:=hid (fun u=>length_fn c pl n N (by omega) u)
   rw [show lenL c N=Q by rw [hQ,hN]] at HLEN
   obtain ⟨a1,ha1⟩:∃ a1,a1=a+Q:=⟨_,rfl⟩
   have ha1I:(a:Int)+(Q:Int)=(a1:Int):=by omega
   have hwa1:IntKind.i64.wrap (a1:Int)=(a1:Int):=IntWalk.i64_in _ (by omega)
   obtain ⟨M,hM⟩:∃ M,M=max e a1:=⟨_,rfl⟩
   have hMI:max (e:Int) (a1:Int)=(M:Int):=by omega
   have hM9:M≤80000*(pre.length+1):=by omega
   have ha19:a1≤80000*(pre.length+1):=by omega
   have HGN:=hid (show ∀ rest,¬ (n = -2∧c≠120)→fldsE s=(pre++[(⟨⟨c,pl,n⟩,hxs⟩:FldIn s)]).map Subtype.val++rest→lengthGo (fldsE s) 0 0=lengthGo rest a1 M from fun rest hh hr=>by rw [HREST.out rest hr,HGO.out,if_neg hh,hM,ha1])
   clear hQ hN hM ha1 h64
   by_cases hn:n = -2
   ·subst hn
    by_cases h120:c=120
    ·rw [show takesL c=false by rw [h120];rfl] at HTK
     have hcond:¬ ((-2:Int) = -2∧c≠120):=fun h=>h.2 h120
     clear h120
     gi_upto_region 6 with ((with_reducible refine And.intro ?_ ?_);exact trivial;gi_at_call 81;refine (calls_round (HTK.out _)).mono ?_;rintro e' w5 ⟨rfl,hb5⟩;have HB5:=hid hb5;have hs5:=HST.out.on hb5;have HS5:=hid hs5;have l1:=hs5.c0;have l2:=hs5.c1;have l3:=hs5.f0;have l4:=hs5.f1;clear hb5 hs5)
     have z0:w5.cell? ⟨Bx,0,none⟩=some (.int .u8 (c.toNat:Nat)):=(HB5.out.cell (p:=⟨Bx,0,none⟩) hBl).trans x0
     have z1:w5.cell? ⟨Bx,1,none⟩=some (.bool pl):=(HB5.out.cell (p:=⟨Bx,1,none⟩) hBl).trans x1
     have z2:w5.cell? ⟨Bx,2,none⟩=some (.int .i64 (-2)):=(HB5.out.cell (p:=⟨Bx,2,none⟩) hBl).trans x2
     have hBX:=HB5.out.size
     have S0:Hid ((fun u:World=>u.cell? ⟨q,0,none⟩=some (.int .i64 (a:Nat))∧u.cell? ⟨Bx,0,none⟩=some (.int .u8 (c.toNat:Nat))∧u.cell? ⟨Bx,1,none⟩=some (.bool pl)∧u.cell? ⟨Bx,2,none⟩=some (.int .i64 (-2))) w5.drew):=hid ⟨HS5.out.ca,z0,z1,z2⟩
     refine U_beginR (late:=fun k=>decide (6≤k)) (S:=fun u:World=>u.cell? ⟨q,0,none⟩=some (.int .i64 (a:Nat))∧u.cell? ⟨Bx,0,none⟩=some (.int .u8 (c.toNat:Nat))∧u.cell? ⟨Bx,1,none⟩=some (.bool pl)∧u.cell? ⟨Bx,2,none⟩=some (.int .i64 (-2))) ?hno (by kernel_rfl) (by kernel_rfl) ?_
     case hno=>intro a9 w9 h9;exact h9
     refine U_take2 8 (i:=0) (v:=.int .i64 (a:Nat)) rfl (by kernel_rfl) (by kernel_rfl) (by kernel_rfl) (by kernel_rfl) (by kernel_rfl) (fun _ _ _ h=>h) (.inl ⟨rfl,fun u hu=>(by obtain ⟨h1,h2⟩:=hu;go_simp)⟩) S0.out ?_
     refine U_take2 8 (i:=1) (v:=.agg #[.int .u8 (c.toNat:Nat),.bool pl,.int .i64 (-2)]) rfl (by kernel_rfl) (by kernel_rfl) (by kernel_rfl) (by kernel_rfl) (by kernel_rfl) (fun _ _ _ h=>h) (.inl ⟨rfl,fun u hu=>(by obtain ⟨h1,h2⟩:=hu;go_simp)⟩) S0.out ?_
     refine U_take2 8 (i:=2) (v:=.agg #[.int .u8 (c.toNat:Nat),.bool pl,.int .i64 (-2)]) rfl (by kernel_rfl) (by kernel_rfl) (by kernel_rfl) (by kernel_rfl) (by kernel_rfl) (fun _ _ _ h=>h) (.inl ⟨rfl,fun u hu=>(by obtain ⟨h1,h2⟩:=hu;go_simp)⟩) S0.out ?_
     refine U_step (j:=3) (by kernel_rfl) rfl (fun K hK=>?_)
     go_simp
     (with_reducible refine (HONE.out _).mono ?_);rintro e' w6 ⟨rfl,hb6⟩
     have HB6:=hid (show Below w5.heap.size w5 w6 from (Below.refl _ w5).drew.trans hb6)
     have hs6:=HS5.out.on HB6.out
     have S6:Hid ((fun u:World=>u.cell? ⟨q,0,none⟩=some (.int .i64 (a:Nat))∧u.cell? ⟨Bx,0,none⟩=some (.int .u8 (c.toNat:Nat))∧u.cell? ⟨Bx,1,none⟩=some (.bool pl)∧u.cell? ⟨Bx,2,none⟩=some (.int .i64 (-2))) w6):=hid ⟨hs6.ca,(HB6.out.cell (p:=⟨Bx,0,none⟩) (Nat.lt_of_lt_of_le hBl hBX)).trans z0,(HB6.out.cell (p:=⟨Bx,1,none⟩) (Nat.lt_of_lt_of_le hBl hBX)).trans z1,(HB6.out.cell (p:=⟨Bx,2,none⟩) (Nat.lt_of_lt_of_le hBl hBX)).trans z2⟩
     refine hK.out _ _ (.inr S6.out) ?_
     clear hK K hb6 S0
     have HS6:=hid hs6
     clear hs6
     refine U_step (j:=4) (by kernel_rfl) rfl (fun K hK=>?_)
     go_simp
     (with_reducible refine (HLEN.out _).mono ?_);rintro e' w7 ⟨rfl,hb7⟩
     have HB7:=hid (show Below w5.heap.size w5 w7 from HB6.out.trans (hb7.mono HB6.out.size))
     have hs7:=HS5.out.on HB7.out
     have S7:Hid ((fun u:World=>u.cell? ⟨q,0,none⟩=some (.int .i64 (a:Nat))∧u.cell? ⟨Bx,0,none⟩=some (.int .u8 (c.toNat:Nat))∧u.cell? ⟨Bx,1,none⟩=some (.bool pl)∧u.cell? ⟨Bx,2,none⟩=some (.int .i64 (-2))) w7):=hid ⟨hs7.ca,(HB7.out.cell (p:=⟨Bx,0,none⟩) (Nat.lt_of_lt_of_le hBl hBX)).trans z0,(HB7.out.cell (p:=⟨Bx,1,none⟩) (Nat.lt_of_lt_of_le hBl hBX)).trans z1,(HB7.out.cell (p:=⟨Bx,2,none⟩) (Nat.lt_of_lt_of_le hBl hBX)).trans z2⟩
     refine hK.out _ _ (.inr S7.out) ?_
     clear hK K hb7 S6
     have HS7:=hid hs7
     clear hs7
     refine U_take2 8 (i:=5) (v:=.int .i64 (a1:Nat)) rfl (by kernel_rfl) (by kernel_rfl) (by kernel_rfl) (by kernel_rfl) (by kernel_rfl) (fun _ _ _ h=>h) (.inl ⟨rfl,fun u hu=>(by go_simp<;>(rw [ha1I];exact hwa1))⟩) S7.out ?_
     have fr7:=HS7.out.fa
     have cJ7:=HS7.out.ca
     refine U_step (j:=6) (by kernel_rfl) rfl (fun K hK=>?_)
     go_simp
     refine hK.out _ _ (.inl rfl) ?_
     clear hK K
     refine U_done (by kernel_rfl) ?_ _
     have HX:=hid (HS7.out.setA a1)
     have HY:=hid (HX.out.setE M)
     have m1:=HX.out.ca
     have m2:=HX.out.ce
     have m3:=HX.out.fe
     have HB8:=hid (HB5.out.trans (HB7.out.mono hBX))
     clear S7 fr7 cJ7
     gi_wp2
     refine ⟨(((KeepsOthers.of_below HB8.out).trans (KeepsOthers.setCell _ _ _)).trans (KeepsOthers.setCell _ _ _)).from _,KpF.trans (KpF.of HB8.out (by omega) (by omega)) (KpF.trans ⟨(Below.refl _ _).setCell (by show b≤q;omega) _,Below.heap_setCell _ _ _ _ (by show q+1+1≠q;omega)⟩ ⟨(Below.refl _ _).setCell (by show b≤q+1;omega) _,Below.heap_setCell _ _ _ _ (by show q+1+1≠q+1;omega)⟩),⟨a1,M,HY.out,by rw [hpl2];exact ha19,by rw [hpl2];exact hM9,fun rest hr=>HGN.out rest hcond hr⟩⟩
    ·rw [show takesL c=true by unfold takesL;rw [bne_iff_ne.2 h120,bne_iff_ne.2 (byte_ne_of y64)];rfl] at HTK
     have HO:=hid (fun rest hr=>(HREST.out rest hr).trans ((HGO.out rest).trans (if_pos ⟨rfl,h120⟩)))
     clear h120
     gi_wp2_with ((with_reducible refine And.intro ?_ ?_);exact trivial;gi_at_call 81;refine (calls_round (HTK.out _)).mono ?_;rintro e' w5 ⟨rfl,hb5⟩;have HB5:=hid hb5;have hs5:=HST.out.on hb5;have HS5:=hid hs5;have l1:=hs5.c0;have l2:=hs5.c1;have l3:=hs5.f0;have l4:=hs5.f1;clear hb5 hs5)
     refine ⟨(((KeepsOthers.of_below HB5.out).trans (KeepsOthers.setCell _ _ _)).trans (KeepsOthers.setCell _ _ _)).from _,rfl,?_,?_,HO.out,?_⟩
     ·exact (Below.heap_setCell _ _ _ _ (by show b≠b+1;omega)).trans (heap_set_one HS5.out.r0 _)
     ·exact heap_set_one ((Below.heap_setCell _ _ _ _ (by show b+1≠b;omega)).trans HS5.out.r1) _
     ·exact (HS5.out.low.setCell (by show b≤b;omega) _).setCell (by show b≤b+1;omega) _
   ·have hcond:¬ (n = -2∧c≠120):=fun h=>hn h.1
    have yn:(n == (-2:Int))=false:=by rw [beq_eq_false_iff_ne];exact hn
    have HBR:=hid (Below.refl W.heap.size W)
    clear hn
    gi_upto_region 6 with ((with_reducible refine And.intro ?_ ?_);exact trivial)
    have z0:W.cell? ⟨Bx,0,none⟩=some (.int .u8 (c.toNat:Nat)):=(HBR.out.cell (p:=⟨Bx,0,none⟩) hBl).trans x0
    have z1:W.cell? ⟨Bx,1,none⟩=some (.bool pl):=(HBR.out.cell (p:=⟨Bx,1,none⟩) hBl).trans x1
    have z2:W.cell? ⟨Bx,2,none⟩=some (.int .i64 n):=(HBR.out.cell (p:=⟨Bx,2,none⟩) hBl).trans x2
    have hBX:=HBR.out.size
    have S0:Hid ((fun u:World=>u.cell? ⟨q,0,none⟩=some (.int .i64 (a:Nat))∧u.cell? ⟨Bx,0,none⟩=some (.int .u8 (c.toNat:Nat))∧u.cell? ⟨Bx,1,none⟩=some (.bool pl)∧u.cell? ⟨Bx,2,none⟩=some (.int .i64 n)) W.drew):=hid ⟨HST.out.ca,z0,z1,z2⟩
    refine U_beginR (late:=fun k=>decide (6≤k)) (S:=fun u:World=>u.cell? ⟨q,0,none⟩=some (.int .i64 (a:Nat))∧u.cell? ⟨Bx,0,none⟩=some (.int .u8 (c.toNat:Nat))∧u.cell? ⟨Bx,1,none⟩=some (.bool pl)∧u.cell? ⟨Bx,2,none⟩=some (.int .i64 n)) ?hno (by kernel_rfl) (by kernel_rfl) ?_
    case hno=>intro a9 w9 h9;exact h9
    refine U_take2 8 (i:=0) (v:=.int .i64 (a:Nat)) rfl (by kernel_rfl) (by kernel_rfl) (by kernel_rfl) (by kernel_rfl) (by kernel_rfl) (fun _ _ _ h=>h) (.inl ⟨rfl,fun u hu=>(by obtain ⟨h1,h2⟩:=hu;go_simp)⟩) S0.out ?_
    refine U_take2 8 (i:=1) (v:=.agg #[.int .u8 (c.toNat:Nat),.bool pl,.int .i64 n]) rfl (by kernel_rfl) (by kernel_rfl) (by kernel_rfl) (by kernel_rfl) (by kernel_rfl) (fun _ _ _ h=>h) (.inl ⟨rfl,fun u hu=>(by obtain ⟨h1,h2⟩:=hu;go_simp)⟩) S0.out ?_
    refine U_take2 8 (i:=2) (v:=.agg #[.int .u8 (c.toNat:Nat),.bool pl,.int .i64 n]) rfl (by kernel_rfl) (by kernel_rfl) (by kernel_rfl) (by kernel_rfl) (by kernel_rfl) (fun _ _ _ h=>h) (.inl ⟨rfl,fun u hu=>(by obtain ⟨h1,h2⟩:=hu;go_simp)⟩) S0.out ?_
    refine U_step (j:=3) (by kernel_rfl) rfl (fun K hK=>?_)
    go_simp
    (with_reducible refine (HONE.out _).mono ?_);rintro e' w6 ⟨rfl,hb6⟩
    have HB6:=hid (show Below W.heap.size W w6 from (Below.refl _ W).drew.trans hb6)
    have hs6:=HST.out.on HB6.out
    have S6:Hid ((fun u:World=>u.cell? ⟨q,0,none⟩=some (.int .i64 (a:Nat))∧u.cell? ⟨Bx,0,none⟩=some (.int .u8 (c.toNat:Nat))∧u.cell? ⟨Bx,1,none⟩=some (.bool pl)∧u.cell? ⟨Bx,2,none⟩=some (.int .i64 n)) w6):=hid ⟨hs6.ca,(HB6.out.cell (p:=⟨Bx,0,none⟩) (Nat.lt_of_lt_of_le hBl hBX)).trans z0,(HB6.out.cell (p:=⟨Bx,1,none⟩) (Nat.lt_of_lt_of_le hBl hBX)).trans z1,(HB6.out.cell (p:=⟨Bx,2,none⟩) (Nat.lt_of_lt_of_le hBl hBX)).trans z2⟩
    refine hK.out _ _ (.inr S6.out) ?_
    clear hK K hb6 S0
    have HS6:=hid hs6
    clear hs6
    refine U_step (j:=4) (by kernel_rfl) rfl (fun K hK=>?_)
    go_simp
    (with_reducible refine (HLEN.out _).mono ?_);rintro e' w7 ⟨rfl,hb7⟩
    have HB7:=hid (show Below W.heap.size W w7 from HB6.out.trans (hb7.mono HB6.out.size))
    have hs7:=HST.out.on HB7.out
    have S7:Hid ((fun u:World=>u.cell? ⟨q,0,none⟩=some (.int .i64 (a:Nat))∧u.cell? ⟨Bx,0,none⟩=some (.int .u8 (c.toNat:Nat))∧u.cell? ⟨Bx,1,none⟩=some (.bool pl)∧u.cell? ⟨Bx,2,none⟩=some (.int .i64 n)) w7):=hid ⟨hs7.ca,(HB7.out.cell (p:=⟨Bx,0,none⟩) (Nat.lt_of_lt_of_le hBl hBX)).trans z0,(HB7.out.cell (p:=⟨Bx,1,none⟩) (Nat.lt_of_lt_of_le hBl hBX)).trans z1,(HB7.out.cell (p:=⟨Bx,2,none⟩) (Nat.lt_of_lt_of_le hBl hBX)).trans z2⟩
    refine hK.out _ _ (.inr S7.out) ?_
    clear hK K hb7 S6
    have HS7:=hid hs7
    clear hs7
    refine U_take2 8 (i:=5) (v:=.int .i64 (a1:Nat)) rfl (by kernel_rfl) (by kernel_rfl) (by kernel_rfl) (by kernel_rfl) (by kernel_rfl) (fun _ _ _ h=>h) (.inl ⟨rfl,fun u hu=>(by go_simp<;>(rw [ha1I];exact hwa1))⟩) S7.out ?_
    have fr7:=HS7.out.fa
    have cJ7:=HS7.out.ca
    refine U_step (j:=6) (by kernel_rfl) rfl (fun K hK=>?_)
    go_simp
    refine hK.out _ _ (.inl rfl) ?_
    clear hK K
    refine U_done (by kernel_rfl) ?_ _
    have HX:=hid (HS7.out.setA a1)
    have HY:=hid (HX.out.setE M)
    have m1:=HX.out.ca
    have m2:=HX.out.ce
    have m3:=HX.out.fe
    have HB8:=hid (HBR.out.trans (HB7.out.mono hBX))
    clear S7 fr7 cJ7
    gi_wp2
    refine ⟨(((KeepsOthers.of_below HB8.out).trans (KeepsOthers.setCell _ _ _)).trans (KeepsOthers.setCell _ _ _)).from _,KpF.trans (KpF.of HB8.out (by omega) (by omega)) (KpF.trans ⟨(Below.refl _ _).setCell (by show b≤q;omega) _,Below.heap_setCell _ _ _ _ (by show q+1+1≠q;omega)⟩ ⟨(Below.refl _ _).setCell (by show b≤q+1;omega) _,Below.heap_setCell _ _ _ _ (by show q+1+1≠q+1;omega)⟩),⟨a1,M,HY.out,by rw [hpl2];exact ha19,by rw [hpl2];exact hM9,fun rest hr=>HGN.out rest hcond hr⟩⟩
  case done=>
   rintro D xs W hD hxs hi hK
   obtain ⟨a,e,hst,-,-,hrest⟩:=hi.st
   have d0:=hst.c0
   have d1:=hst.c1
   have g0:=hst.f0
   have g1:=hst.f1
   have d2:=hst.ce
   have hnum:=hst.num
   have hres:lengthRes s=(((e:Nat):Int),(0:Int)):=by
    have h9:=hrest [] (by rw [hxs];simp)
    unfold lengthRes
    rw [← HOK.out,if_pos rfl,h9]
    rfl
   have HST:=hid hst
   have HRES:=hid hres
   have HK:=hid hK
   clear hst hrest hres hi hK
   gi_wp2
   refine len_end (b:=b) (x:=(e:Nat)) (z:=0) HBE.out (by omega) ?_ ?_ ?_ ?_ HRES.out rfl rfl
   ·exact (Below.heap_setCell _ _ _ _ (by show b≠b+1;omega)).trans (heap_set_one HST.out.r0 _)
   ·exact heap_set_one ((Below.heap_setCell _ _ _ _ (by show b+1≠b;omega)).trans HST.out.r1) _
   ·exact ((KeepsOthers.setCell _ _ _).trans (KeepsOthers.setCell _ _ _)).same D _ HK.out rfl
   ·exact (HST.out.low.setCell (by show b≤b;omega) _).setCell (by show b≤b+1;omega) _
  case stop=>
   rintro D c pre W hD hpre ⟨rfl,he⟩ hK
   obtain ⟨rest,hrest⟩:=hpre
   have hres:lengthRes s=(0,7):=by
    unfold lengthRes
    rw [← HOK.out,if_pos rfl,he.go rest hrest.symm]
    rfl
   gi_wp2
   exact len_end HBE.out (by omega) he.r0 he.r1 hK he.low hres rfl rfl
end Go.Proofs.YtihdndaibmgoiaaGreatDoor.Pz
namespace Go.Proofs.YtihdndaibmgoiaaGreatDoor.Pz
open Go.RowKit
attribute [local go_sem] Oper.semAt_some
theorem lenL_le8 (c:UInt8) (n:Nat):lenL c n≤8*n+7:=by
 unfold lenL
 split
 ·omega
 ·split
  ·omega
  ·have h:max 1 (widthL c)≤8:=by have:=widthL_le c;omega
   have:=Nat.mul_le_mul_right n h
   omega
set_option maxRecDepth 1000000 in
set_option maxHeartbeats 8000000 in
theorem fieldsR_fn (y:Str) (hy:y.length≤100000) (w:World):Calls Tryz.prog 51 #[.string ⟨y.toArray⟩] w fun e w'=>e=.returned (.tuple #[.int .i64 (fieldsN y).1,.int .i64 (fieldsN y).2])∧Below w.heap.size w w':=by
 have hrd:=readL_fn y true hy w
 rw [readG_valid] at hrd
 unfold ReadQ at hrd
 by_cases hv:validE y=true
 case neg=>
  have HRS:=hid (show fieldsN y=(0,2) by unfold fieldsN;rw [if_neg hv])
  rw [if_neg hv] at hrd
  have HRD:=hid (show Calls Tryz.prog 82 #[.string ⟨y.toArray⟩,.bool true] w fun e w'=>∃ v,e=.returned (.tuple #[v,.bool false])∧RowD w.heap.size w' v []∧Below w.heap.size w w' from hrd)
  clear hrd hv
  go_enter Tryz.func51,Tryz.ntmps51
  go_wp2_with (go_at_call 82;(with_reducible refine HRD.out.mono ?_);rintro e w1 ⟨v,rfl,hr1,hb1⟩;have HB1:=hid hb1;clear hr1 hb1)
  go_ret2
  exact ⟨by rw [HRS.out];rfl,HB1.out⟩
 rw [if_pos hv] at hrd
 obtain ⟨l,hl⟩:∃ l,l=fldsE y:=⟨_,rfl⟩
 have HOK:=hid (show ∀ f∈l,FldOk f by rw [hl];exact valid_ok hv)
 have hl9:l.length≤100000:=by rw [hl];exact Nat.le_trans (flds_len _ y (Nat.le_refl _)) hy
 have HRS:=hid (show fieldsN y=(((takesN l:Nat):Int),(0:Int)) by unfold fieldsN;rw [if_pos hv,hl])
 rw [← hl] at hrd
 have HRD:=hid (show Calls Tryz.prog 82 #[.string ⟨y.toArray⟩,.bool true] w fun e w'=>∃ v,e=.returned (.tuple #[v,.bool true])∧RowD w.heap.size w' v l∧Below w.heap.size w w' from hrd)
 obtain ⟨n,hn⟩:∃ n,n=l.length:=⟨_,rfl⟩
 have HNL:=hid hn
 clear hrd hv hl hn
 go_enter Tryz.func51,Tryz.ntmps51
 go_wp2_with (go_at_call 82;(with_reducible refine HRD.out.mono ?_);rintro e w1 ⟨v,rfl,hr1,hb1⟩;have HB1:=hid hb1;obtain ⟨va,vc,hve⟩:=hr1.shape;subst hve;rw [← HNL.out] at hr1;have HR1:=hid hr1;clear hr1 hb1)
 go_loopg [6,18] n (fun k cv iv wr=>∃ (i m:Nat),iv=.int .i64 (i:Nat)∧cv=.int .i64 (m:Nat)∧i≤n∧m≤i∧m+takesN (l.drop i)=takesN l∧Below w1.heap.size w1 wr∧k=n-i)
 case atStart=>exact ⟨0,0,rfl,rfl,Nat.zero_le _,Nat.le_refl _,by rw [List.drop_zero,Nat.zero_add],Below.refl _ _,rfl⟩
 case round=>
  obtain ⟨i,m,rfl,rfl,hin,hmi,hun,hbl,hk⟩:=hrel
  replace hk:=hk.symm
  subst hk
  have HUN:=hid hun
  have HBL:=hid hbl
  have hs4:=hbl.size
  clear hun hbl
  rcases Nat.lt_or_ge i n with hlt | hge
  ·have hltI:(i:Int)<(n:Int):=by omega
   have hil:i<l.length:=by rw [← HNL.out];exact hlt
   obtain ⟨g,hge,_,hgl,f0,f1,f2⟩:=RowD.at HR1.out hil
   subst hge
   obtain ⟨f,hf⟩:∃ f,f=l[i]:=⟨_,rfl⟩
   rw [← hf] at f0 f1 f2
   have HFO:=hid (HOK.out f (by rw [hf];exact List.getElem_mem hil))
   have HDR:=hid (show l.drop i=f::l.drop (i+1) by rw [hf];exact List.drop_eq_getElem_cons hil)
   have g0:=(HBL.out.cell (p:=⟨g,i*3,none⟩) hgl).trans f0
   have g1:=(HBL.out.cell (p:=⟨g,i*3+1,none⟩) hgl).trans f1
   have g2:=(HBL.out.cell (p:=⟨g,i*3+2,none⟩) hgl).trans f2
   obtain ⟨c,p,q⟩:=f
   dsimp only at g0 g1 g2
   clear hf f0 f1 f2
   have HBW:=hid (show Below wr.heap.size wr (wr.alloc (.cells #[.int .u8 (c.toNat:Nat),.bool p,.int .i64 q] 103)) from (Below.refl _ wr).alloc (Nat.le_refl _) _)
   have hcn:takesN (⟨c,p,q⟩::l.drop (i+1))=takesN (l.drop (i+1))+(if takesL c then 1 else 0):=by
    unfold takesN
    rw [List.countP_cons]
   rw [HDR.out,hcn] at HUN
   clear hcn HDR
   by_cases hc:c=120
   ·have y120:((c.toNat:Int) != 120)=false:=byte_is' hc rfl
    have HN:=hid (show m+takesN (l.drop (i+1))=takesN l by have h:=HUN.out;rw [show takesL c=false by rw [hc];rfl,if_neg (by simp)] at h;omega)
    clear hc
    go_wp2
    go_roundg (n-(i+1))
    case measure=>omega
    case rel=>exact ⟨i+1,m,by go_num,by go_num,hlt,by omega,HN.out,HBL.out.trans (HBW.out.mono hs4),rfl⟩
   have y120:((c.toNat:Int) != 120)=true:=byte_ne' (k:=120) 120 hc rfl
   by_cases hc4:c=64
   ·have y64:((c.toNat:Int) != 64)=false:=byte_is' hc4 rfl
    have HN:=hid (show m+takesN (l.drop (i+1))=takesN l by have h:=HUN.out;rw [show takesL c=false by rw [hc4];rfl,if_neg (by simp)] at h;omega)
    clear hc hc4
    go_wp2
    go_roundg (n-(i+1))
    case measure=>omega
    case rel=>exact ⟨i+1,m,by go_num,by go_num,hlt,by omega,HN.out,HBL.out.trans (HBW.out.mono hs4),rfl⟩
   have y64:((c.toNat:Int) != 64)=true:=byte_ne' (k:=64) 64 hc4 rfl
   have HN:=hid (show m+1+takesN (l.drop (i+1))=takesN l by have h:=HUN.out;rw [show takesL c=true by unfold takesL;rw [bne_iff_ne.2 hc,bne_iff_ne.2 hc4];rfl,if_pos rfl] at h;omega)
   clear hc hc4
   go_wp2
   go_roundg (n-(i+1))
   case measure=>omega
   case rel=>exact ⟨i+1,m+1,by go_num,by go_num,hlt,by omega,HN.out,HBL.out.trans (HBW.out.mono hs4),rfl⟩
  ·obtain rfl:i=n:=by omega
   have hnl:¬ ((i:Int)<(l.length:Int)):=by rw [← HNL.out];omega
   have HO:=hid (show m=takesN l by have h:=HUN.out;rw [List.drop_eq_nil_of_le (by rw [← HNL.out];exact Nat.le_refl _)] at h;exact h)
   clear hge hin
   go_wp2
   go_ret2
   exact ⟨by rw [HRS.out,HO.out];rfl,HB1.out.trans (HBL.out.mono HB1.out.size)⟩
set_option maxRecDepth 1000000 in
set_option maxHeartbeats 8000000 in
theorem lengthR_fn (y:Str) (hy:y.length≤100000) (w:World):Calls Tryz.prog 53 #[.string ⟨y.toArray⟩] w fun e w'=>e=.returned (.tuple #[.int .i64 (lengthRes y).1,.int .i64 (lengthRes y).2])∧Below w.heap.size w w':=by
 have hrd:=readL_fn y true hy w
 rw [readG_valid] at hrd
 unfold ReadQ at hrd
 by_cases hv:validE y=true
 case neg=>
  have HRS:=hid (show lengthRes y=(0,2) by unfold lengthRes;rw [if_neg hv])
  rw [if_neg hv] at hrd
  have HRD:=hid (show Calls Tryz.prog 82 #[.string ⟨y.toArray⟩,.bool true] w fun e w'=>∃ v,e=.returned (.tuple #[v,.bool false])∧RowD w.heap.size w' v []∧Below w.heap.size w w' from hrd)
  clear hrd hv
  go_enter Tryz.func53,Tryz.ntmps53
  go_wp2_with (go_at_call 82;(with_reducible refine HRD.out.mono ?_);rintro e w1 ⟨v,rfl,hr1,hb1⟩;have HB1:=hid hb1;clear hr1 hb1)
  go_ret2
  exact ⟨by rw [HRS.out];rfl,HB1.out⟩
 rw [if_pos hv] at hrd
 obtain ⟨l,hl⟩:∃ l,l=fldsE y:=⟨_,rfl⟩
 have HOK:=hid (show ∀ f∈l,FldOk f by rw [hl];exact valid_ok hv)
 have hl9:l.length≤100000:=by rw [hl];exact Nat.le_trans (flds_len _ y (Nat.le_refl _)) hy
 obtain ⟨U,hU⟩:∃ U,U=lengthGo l 0 0:=⟨_,rfl⟩
 have HRS:=hid (show lengthRes y=lenV U by unfold lengthRes;rw [if_pos hv,hU,hl])
 have HU:=hid hU
 clear hU
 rw [← hl] at hrd
 have HRD:=hid (show Calls Tryz.prog 82 #[.string ⟨y.toArray⟩,.bool true] w fun e w'=>∃ v,e=.returned (.tuple #[v,.bool true])∧RowD w.heap.size w' v l∧Below w.heap.size w w' from hrd)
 obtain ⟨n,hn⟩:∃ n,n=l.length:=⟨_,rfl⟩
 have HNL:=hid hn
 clear hrd hv hl hn
 go_enter Tryz.func53,Tryz.ntmps53
 go_wp2_with (go_at_call 82;(with_reducible refine HRD.out.mono ?_);rintro e w1 ⟨v,rfl,hr1,hb1⟩;have HB1:=hid hb1;obtain ⟨va,vc,hve⟩:=hr1.shape;subst hve;rw [← HNL.out] at hr1;have HR1:=hid hr1;clear hr1 hb1)
 go_loopg [6,7,19] n (fun k av ev iv wr=>∃ (i a b:Nat),iv=.int .i64 (i:Nat)∧av=.int .i64 (a:Nat)∧ev=.int .i64 (b:Nat)∧i≤n∧a≤80000*i∧b≤80000*i∧U=lengthGo (l.drop i) a b∧Below w1.heap.size w1 wr∧k=n-i)
 case atStart=>exact ⟨0,0,0,rfl,rfl,rfl,Nat.zero_le _,Nat.le_refl _,Nat.le_refl _,by rw [List.drop_zero];exact HU.out,Below.refl _ _,rfl⟩
 case round=>
  obtain ⟨i,a,b,rfl,rfl,rfl,hin,hai,hbi,hun,hbl,hk⟩:=hrel
  replace hk:=hk.symm
  subst hk
  have HUN:=hid hun
  have HBL:=hid hbl
  have hs4:=hbl.size
  clear hun hbl
  rcases Nat.lt_or_ge i n with hlt | hge
  ·have hltI:(i:Int)<(n:Int):=by omega
   have hil:i<l.length:=by rw [← HNL.out];exact hlt
   obtain ⟨g,hge,_,hgl,f0,f1,f2⟩:=RowD.at HR1.out hil
   subst hge
   obtain ⟨f,hf⟩:∃ f,f=l[i]:=⟨_,rfl⟩
   rw [← hf] at f0 f1 f2
   have HFO:=hid (HOK.out f (by rw [hf];exact List.getElem_mem hil))
   have HDR:=hid (show l.drop i=f::l.drop (i+1) by rw [hf];exact List.drop_eq_getElem_cons hil)
   have g0:=(HBL.out.cell (p:=⟨g,i*3,none⟩) hgl).trans f0
   have g1:=(HBL.out.cell (p:=⟨g,i*3+1,none⟩) hgl).trans f1
   have g2:=(HBL.out.cell (p:=⟨g,i*3+2,none⟩) hgl).trans f2
   obtain ⟨c,p,q⟩:=f
   dsimp only at g0 g1 g2
   clear hf f0 f1 f2
   have HBW:=hid (show Below wr.heap.size wr (wr.alloc (.cells #[.int .u8 (c.toNat:Nat),.bool p,.int .i64 q] 103)) from (Below.refl _ wr).alloc (Nat.le_refl _) _)
   rw [HDR.out,lengthGo] at HUN
   clear HDR
   have hcr:-2≤q∧q≤9999:=⟨HFO.out.2.2.1,HFO.out.2.2.2.1⟩
   by_cases hc:c=64
   ·have y64:((c.toNat:Int) == 64)=true:=byte_is hc rfl
    have h1:=HUN.out
    dsimp only at h1
    rw [hc,if_pos (by decide:((64:UInt8) == 64)=true)] at h1
    have hq1:q≠-1:=HFO.out.2.2.2.2 hc
    by_cases hq:q = -2
    ·subst hq
     rw [if_pos rfl,Nat.max_self] at h1
     have HN:=hid h1
     clear hc h1 hq1 hcr
     go_wp2
     go_roundg (n-(i+1))
     case measure=>omega
     case rel=>exact ⟨i+1,b,b,by go_num,by go_num,by go_num,hlt,by omega,by omega,HN.out,HBL.out.trans (HBW.out.mono hs4),rfl⟩
    ·obtain ⟨m,rfl⟩:∃ m:Nat,q=(m:Int):=⟨q.toNat,by omega⟩
     rw [if_neg hq,Int.toNat_natCast] at h1
     have HN:=hid h1
     have q2:((m:Int) == -2)=false:=by rw [beq_eq_false_iff_ne];omega
     have hm9:m≤9999:=by omega
     clear hc h1 hq1 hq hcr
     by_cases hmb:(b:Int)<(m:Int)
     ·have hmx:max b m=m:=Nat.max_eq_right (by omega)
      rw [hmx] at HN
      go_wp2
      go_roundg (n-(i+1))
      case measure=>omega
      case rel=>exact ⟨i+1,m,m,by go_num,by go_num,by go_num,hlt,by omega,by omega,HN.out,HBL.out.trans (HBW.out.mono hs4),rfl⟩
     ·have hmx:max b m=b:=Nat.max_eq_left (by omega)
      rw [hmx] at HN
      go_wp2
      go_roundg (n-(i+1))
      case measure=>omega
      case rel=>exact ⟨i+1,m,b,by go_num,by go_num,by go_num,hlt,by omega,by omega,HN.out,HBL.out.trans (HBW.out.mono hs4),rfl⟩
   have y64:((c.toNat:Int) == 64)=false:=byte_ne (k:=64) 64 hc rfl
   have h1:=HUN.out
   dsimp only at h1
   rw [beq_eq_false_iff_ne.2 hc,if_neg (by simp)] at h1
   have HBY:=hid (fun (k:Nat) (hk:k≤1000000) (v:World)=>bytesR_fn c HFO.out.1 hc k hk v)
   have hle:=lenL_le8 c
   by_cases hq2:q = -2
   ·subst hq2
    by_cases hx:c=120
    ·have y120:((c.toNat:Int) != 120)=false:=byte_is' hx rfl
     rw [if_neg (by simp [hx])] at h1
     clear hx
     obtain ⟨Q,hQ⟩:∃ Q,Q=lenL c 1:=⟨_,rfl⟩
     have hQ9:Q≤79999:=by rw [hQ];have:=hle 1;omega
     rw [show oneC ⟨c,p,-2⟩=1 from rfl,← hQ] at h1
     have HBC:=hid (show ∀ v,Calls Tryz.prog 84 #[.int .u8 (c.toNat:Nat),.int .i64 1] v fun e w'=>e=.returned (.int .i64 (Q:Nat))∧w'=v from fun v=>by rw [hQ];exact HBY.out 1 (by omega) v)
     have HN:=hid h1
     clear h1 hQ hle hc hcr
     obtain ⟨aq,haq⟩:∃ aq,aq=a+Q:=⟨_,rfl⟩
     have haqI:(a:Int)+(Q:Int)=(aq:Int):=by omega
     have hwq:IntKind.i64.wrap (aq:Int)=(aq:Int):=IntWalk.i64_in _ (by omega)
     rw [← haq] at HN
     clear haq
     by_cases hmb:(b:Int)<(aq:Int)
     ·rw [Nat.max_eq_right (by omega)] at HN
      go_wp2_with (go_at_call 84;(with_reducible refine (HBC.out _).mono ?_);rintro e w3 ⟨rfl,rfl⟩)
      go_roundg (n-(i+1))
      case measure=>omega
      case rel=>exact ⟨i+1,aq,aq,by go_num,by go_num,by go_num,hlt,by omega,by omega,HN.out,HBL.out.trans (HBW.out.mono hs4),rfl⟩
     ·rw [Nat.max_eq_left (by omega)] at HN
      go_wp2_with (go_at_call 84;(with_reducible refine (HBC.out _).mono ?_);rintro e w3 ⟨rfl,rfl⟩)
      go_roundg (n-(i+1))
      case measure=>omega
      case rel=>exact ⟨i+1,aq,b,by go_num,by go_num,by go_num,hlt,by omega,by omega,HN.out,HBL.out.trans (HBW.out.mono hs4),rfl⟩
    ·have y120:((c.toNat:Int) != 120)=true:=byte_ne' (k:=120) 120 hx rfl
     rw [if_pos ⟨rfl,hx⟩] at h1
     have HO:=hid h1
     clear h1 hx hc hle hcr
     go_wp2
     go_ret2
     exact ⟨by rw [HRS.out,HO.out];rfl,HB1.out.trans ((HBL.out.trans (HBW.out.mono hs4)).mono HB1.out.size)⟩
   rw [if_neg (fun h=>hq2 h.1)] at h1
   by_cases hq1:q = -1
   ·subst hq1
    clear hq2
    obtain ⟨Q,hQ⟩:∃ Q,Q=lenL c 1:=⟨_,rfl⟩
    have hQ9:Q≤79999:=by rw [hQ];have:=hle 1;omega
    rw [show oneC ⟨c,p,-1⟩=1 from rfl,← hQ] at h1
    have HBC:=hid (show ∀ v,Calls Tryz.prog 84 #[.int .u8 (c.toNat:Nat),.int .i64 1] v fun e w'=>e=.returned (.int .i64 (Q:Nat))∧w'=v from fun v=>by rw [hQ];exact HBY.out 1 (by omega) v)
    have HN:=hid h1
    clear h1 hQ hle hc hcr
    obtain ⟨aq,haq⟩:∃ aq,aq=a+Q:=⟨_,rfl⟩
    have haqI:(a:Int)+(Q:Int)=(aq:Int):=by omega
    have hwq:IntKind.i64.wrap (aq:Int)=(aq:Int):=IntWalk.i64_in _ (by omega)
    rw [← haq] at HN
    clear haq
    by_cases hmb:(b:Int)<(aq:Int)
    ·rw [Nat.max_eq_right (by omega)] at HN
     go_wp2_with (go_at_call 84;(with_reducible refine (HBC.out _).mono ?_);rintro e w3 ⟨rfl,rfl⟩)
     go_roundg (n-(i+1))
     case measure=>omega
     case rel=>exact ⟨i+1,aq,aq,by go_num,by go_num,by go_num,hlt,by omega,by omega,HN.out,HBL.out.trans (HBW.out.mono hs4),rfl⟩
    ·rw [Nat.max_eq_left (by omega)] at HN
     go_wp2_with (go_at_call 84;(with_reducible refine (HBC.out _).mono ?_);rintro e w3 ⟨rfl,rfl⟩)
     go_roundg (n-(i+1))
     case measure=>omega
     case rel=>exact ⟨i+1,aq,b,by go_num,by go_num,by go_num,hlt,by omega,by omega,HN.out,HBL.out.trans (HBW.out.mono hs4),rfl⟩
   ·obtain ⟨m,rfl⟩:∃ m:Nat,q=(m:Int):=⟨q.toNat,by omega⟩
    have q2:((m:Int) == -2)=false:=by rw [beq_eq_false_iff_ne];omega
    have q0:¬ ((m:Int)<0):=by omega
    have hm9:m≤9999:=by omega
    clear hq2 hq1
    obtain ⟨Q,hQ⟩:∃ Q,Q=lenL c m:=⟨_,rfl⟩
    have hQ9:Q≤79999:=by rw [hQ];have:=hle m;omega
    rw [show oneC ⟨c,p,(m:Int)⟩=m from by unfold oneC;dsimp only;rw [if_neg (by omega)];exact Int.toNat_natCast m,← hQ] at h1
    have HBC:=hid (show ∀ v,Calls Tryz.prog 84 #[.int .u8 (c.toNat:Nat),.int .i64 (m:Nat)] v fun e w'=>e=.returned (.int .i64 (Q:Nat))∧w'=v from fun v=>by rw [hQ];exact HBY.out m (by omega) v)
    have HN:=hid h1
    clear h1 hQ hle hc hcr
    obtain ⟨aq,haq⟩:∃ aq,aq=a+Q:=⟨_,rfl⟩
    have haqI:(a:Int)+(Q:Int)=(aq:Int):=by omega
    have hwq:IntKind.i64.wrap (aq:Int)=(aq:Int):=IntWalk.i64_in _ (by omega)
    rw [← haq] at HN
    clear haq
    by_cases hmb:(b:Int)<(aq:Int)
    ·rw [Nat.max_eq_right (by omega)] at HN
     go_wp2_with (go_at_call 84;(with_reducible refine (HBC.out _).mono ?_);rintro e w3 ⟨rfl,rfl⟩)
     go_roundg (n-(i+1))
     case measure=>omega
     case rel=>exact ⟨i+1,aq,aq,by go_num,by go_num,by go_num,hlt,by omega,by omega,HN.out,HBL.out.trans (HBW.out.mono hs4),rfl⟩
    ·rw [Nat.max_eq_left (by omega)] at HN
     go_wp2_with (go_at_call 84;(with_reducible refine (HBC.out _).mono ?_);rintro e w3 ⟨rfl,rfl⟩)
     go_roundg (n-(i+1))
     case measure=>omega
     case rel=>exact ⟨i+1,aq,b,by go_num,by go_num,by go_num,hlt,by omega,by omega,HN.out,HBL.out.trans (HBW.out.mono hs4),rfl⟩
  ·obtain rfl:i=n:=by omega
   have hnl:¬ ((i:Int)<(l.length:Int)):=by rw [← HNL.out];omega
   have HO:=hid (show U=some b by have h:=HUN.out;rw [List.drop_eq_nil_of_le (by rw [← HNL.out];exact Nat.le_refl _)] at h;exact h)
   clear hge hin
   go_wp2
   go_ret2
   exact ⟨by rw [HRS.out,HO.out];rfl,HB1.out.trans (HBL.out.mono HB1.out.size)⟩
end Go.Proofs.YtihdndaibmgoiaaGreatDoor.Pz
