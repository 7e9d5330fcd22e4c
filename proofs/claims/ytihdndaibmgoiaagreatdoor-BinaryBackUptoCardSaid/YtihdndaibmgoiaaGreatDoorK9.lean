/-
  Part K9 of the proofs of this seat, merged by a program out of 3 texts; remarks are struck.
-/
import Derived.Test.YtihdndaibmgoiaaGreatDoorK8
namespace Go.Proofs.YtihdndaibmgoiaaGreatDoor.Pz
open Go.RowKit Go.Shelf Go.Sort
attribute [local go_sem] Oper.semAt_some
theorem app_oneIn {F:Fence} {nF:Nat} {w:World} {N:Nat} (hN:w.heap.size=N) {ops:Array Oper} {rest:List Oper} {o:Oper} {a:Act} {Q:Exit→Act→World→Prop} (hgd:o.guard=none) (s x:Operand)
  (ho:o.op=.call { callee:=.builtin .append,args:=#[s,x],argTypes:=#[22,22] }) (B:Nat) (v:Value) (l:List Str) (q:Str)
  (hs:a.eval s=v) (hown:RowS B w v l) (hx:a.eval x=.slice (some ⟨N,0,none⟩) 1 1) (hB:B≤w.heap.size) (hl:l.length≤10000000)
  (h:∀ v' w',RowS B w' v' (l++[q])→w.grownBy w' v.ownBlock→(∀ g,v'.ownBlock=some g→v.ownBlock=some g∨w.heap.size≤g)→wpListIn F nF Tryz.prog ops Q rest (a.put o.dst v') w') :
  wpListIn F nF Tryz.prog ops Q (o::rest) a (w.alloc (.cells #[.string ⟨q.toArray⟩] 9)):=by
 obtain ⟨i0,hi,hz0,hz1,hz2⟩:=info_parts Tryz.infoS
 subst hN
 have hown':(w.alloc (.cells #[.string ⟨q.toArray⟩] 9)).ownsRow B 9 1 v l.length (strCells l):=World.ownsRow.alloc hown _
 refine wpListIn_append_own_at _ hgd s x 22 ho B 9 i0 (.string ⟨#[]⟩) 1 16 Tryz.underlying22 hi hz0 hz1 hz2 rfl (by decide) v l.length (strCells l) hs hown' ⟨w.heap.size,0,none⟩ 1 1 [.string ⟨q.toArray⟩] hx rfl (cell_one_new _ _ _) (strCells_one [q]) ?_ ?_ ?_ ?_
 ·unfold maxLen;omega
 ·omega
 ·simp;omega
 ·intro v' w' hrow hg _ hat
  refine h v' w' ?_ ?_ ?_
  ·show w'.ownsRow B 9 1 v' (l++[q]).length (strCells (l++[q]))
   rw [strCells_app,List.length_append]
   exact hrow
  ·refine ⟨hg.os,hg.tape,hg.output,?_,fun k hk hr=>?_⟩
   ·have:=hg.size;simp at this;omega
   ·rw [hg.block k (by simp;omega) hr]
    exact Below.heap_alloc _ _ _ (by omega)
  ·intro g hgv
   rcases hat with h2 | h2
   ·exact .inl (by rw [← h2];exact hgv)
   ·rw [h2] at hgv
    have:=Option.some.inj hgv
    simp at this
    exact .inr (by omega)
structure UBase (b:Nat) (s:Str) (v:Value) (W:World):Prop where
 sc:W.heap[b]? = some (.cells #[.string ⟨s.toArray⟩] 9 (0,0))
 lc:W.heap[b+1]? = some (.cells #[v] 22 (0,0))
 dc:W.heap[b+1+1]? = some (.cells #[.bool false] 4 (0,0))
 ec:W.heap[b+1+1+1]? = some (.cells #[.int .i64 0] 27 (0,0))
section
variable {b:Nat} {s:Str} {v:Value} {W W':World}
theorem UBase.lt (h:UBase b s v W):b+1+1+1<W.heap.size:=(Array.getElem?_eq_some_iff.1 h.ec).1
theorem UBase.on {B:Nat} (h:UBase b s v W) (hb:Below B W W') (hB:b+1+1+1<B):UBase b s v W':=⟨(hb.block _ (by omega)).trans h.sc,(hb.block _ (by omega)).trans h.lc,(hb.block _ (by omega)).trans h.dc,(hb.block _ hB).trans h.ec⟩
theorem UBase.cs (h:UBase b s v W):W.cell? ⟨b,0,none⟩=some (.string ⟨s.toArray⟩):=by rw [Lib.cell_of_heap h.sc];rfl
theorem UBase.cl (h:UBase b s v W):W.cell? ⟨b+1,0,none⟩=some v:=by rw [Lib.cell_of_heap h.lc];rfl
theorem UBase.cd (h:UBase b s v W):W.cell? ⟨b+1+1,0,none⟩=some (.bool false):=by rw [Lib.cell_of_heap h.dc];rfl
theorem UBase.ce (h:UBase b s v W):W.cell? ⟨b+1+1+1,0,none⟩=some (.int .i64 0):=by rw [Lib.cell_of_heap h.ec];rfl
theorem UBase.fl (h:UBase b s v W):W.frozen? ⟨b+1,0,none⟩=false:=Lib.frozen_of_heap h.lc 0
theorem UBase.fd (h:UBase b s v W):W.frozen? ⟨b+1+1,0,none⟩=false:=Lib.frozen_of_heap h.dc 0
theorem UBase.fe (h:UBase b s v W):W.frozen? ⟨b+1+1+1,0,none⟩=false:=Lib.frozen_of_heap h.ec 0
theorem UBase.set {g:Nat} (h:UBase b s v W) (x:Value) (h0:g≠b) (h1:g≠b+1) (h2:g≠b+1+1) (h3:g≠b+1+1+1):UBase b s v (W.setCell ⟨g,0,none⟩ x):=
 ⟨(Below.heap_setCell _ _ _ _ (fun e=>h0 e.symm)).trans h.sc,(Below.heap_setCell _ _ _ _ (fun e=>h1 e.symm)).trans h.lc,(Below.heap_setCell _ _ _ _ (fun e=>h2 e.symm)).trans h.dc,(Below.heap_setCell _ _ _ _ (fun e=>h3 e.symm)).trans h.ec⟩
end
def UnpackQ (y s:Str) (w:World) (e:Ending) (w':World):Prop:=∃ v,e=.returned (.tuple #[v,.bool (unpackRes y s).2.1,.int .i64 (unpackRes y s).2.2])∧RowS w.heap.size w' v (unpackRes y s).1∧Below w.heap.size w w'
set_option maxRecDepth 100000 in
theorem unpack_end0 {y s:Str} {b:Nat} {w W:World} {v:Value} {L:List Str} {d:Bool} {z:Int} {T:Array Value} (hb:b=w.heap.size) (h1:W.heap[b+1]? = some (.cells #[v] 22 (0,0))) (h2:W.heap[b+1+1]? = some (.cells #[.bool d] 4 (0,0))) (h3:W.heap[b+1+1+1]? = some (.cells #[.int .i64 z] 27 (0,0)))
  (hrow:RowS b W v L) (hlow:Below b w W) (hsp:unpackRes y s=(L,d,z)) (h4:T[4]? = some (.pointer (some ⟨b+1,0,none⟩))) (h5:T[5]? = some (.pointer (some ⟨b+1+1,0,none⟩))) (h6:T[6]? = some (.pointer (some ⟨b+1+1+1,0,none⟩))) :
  bodyPostM Fence.wide 5 Tryz.prog Tryz.f22 (UnpackQ y s w) Exit.ret { tmps:=T,defers:=[] } W:=by
 have c1:W.cell? ⟨b+1,0,none⟩=some v:=by rw [Lib.cell_of_heap h1];rfl
 have c2:W.cell? ⟨b+1+1,0,none⟩=some (.bool d):=by rw [Lib.cell_of_heap h2];rfl
 have c3:W.cell? ⟨b+1+1+1,0,none⟩=some (.int .i64 z):=by rw [Lib.cell_of_heap h3];rfl
 obtain ⟨a,c,rfl⟩:=hrow.shape
 refine ⟨.tuple #[.slice a L.length c,.bool d,.int .i64 z],?_,.slice a L.length c,by rw [hsp],by rw [hsp,← hb];exact hrow,?_⟩
 ·simp [results,Tryz.results22,asAddr,go_sem,c1,c2,c3,h4,h5,h6]
 ·rw [← hb]
  exact hlow
set_option maxRecDepth 100000 in
theorem unpack_end {y s:Str} {b D:Nat} {w W:World} {v:Value} {L:List Str} {d:Bool} {z:Int} {T:Array Value} (hb:b=w.heap.size) (hD:b+1+1+1<D) (h1:W.heap[b+1]? = some (.cells #[v] 22 (0,0))) (h2:W.heap[b+1+1]? = some (.cells #[.bool d] 4 (0,0))) (h3:W.heap[b+1+1+1]? = some (.cells #[.int .i64 z] 27 (0,0)))
  (hrow:RowS b W v L) (hK:W.heap[D]? = some (.deferred (some []))) (hlow:Below b w W) (hsp:unpackRes y s=(L,d,z)) (h4:T[4]? = some (.pointer (some ⟨b+1,0,none⟩))) (h5:T[5]? = some (.pointer (some ⟨b+1+1,0,none⟩))) (h6:T[6]? = some (.pointer (some ⟨b+1+1+1,0,none⟩))) :
  bodyPostM Fence.wide 5 Tryz.prog Tryz.f22 (UnpackQ y s w) Exit.ret { tmps:=T,defers:=[{ target:=.collected D,args:=#[] }] } W:=by
 refine ⟨by simp,.inl ⟨_,_,rfl,run_takeDeferred hK,?_⟩⟩
 refine unpack_end0 (W:=W.putObj D (.deferred none)) hb ((World.putObj_heap_other (by omega)).trans h1) ((World.putObj_heap_other (by omega)).trans h2) ((World.putObj_heap_other (by omega)).trans h3) ?_ ?_ hsp h4 h5 h6
 ·exact ownsRow_heap2 hrow fun g cur _ hc=>(World.putObj_heap_other (fun e=>by rw [e,hK] at hc;cases hc)).trans hc
 ·exact hlow.trans ⟨rfl,rfl,rfl,by rw [World.putObj_size];exact Nat.le_refl _,fun k hk=>World.putObj_heap_other (by omega)⟩
structure USt (b q M:Nat) (s:Str) (w W:World) (v:Value) (l:List Str) (at0:Nat):Prop where
 num:b+1+1+1<q∧q+1<M∧M≤W.heap.size
 base:UBase b s v W
 ac:W.heap[q]? = some (.cells #[.int .i64 (at0:Nat)] 3 (0,0))
 row:RowS M W v l
 low:Below b w W
section
variable {b q M:Nat} {s:Str} {v:Value} {w W W':World} {l:List Str} {at0:Nat}
theorem USt.on (h:USt b q M s w W v l at0) (hb:Below W.heap.size W W'):USt b q M s w W' v l at0:=by
 obtain ⟨n1,n2,n3⟩:=h.num
 exact ⟨⟨n1,n2,Nat.le_trans n3 hb.size⟩,h.base.on hb (by omega),(hb.block _ (by omega)).trans h.ac,h.row.on hb,h.low.trans (hb.mono (by omega))⟩
theorem RowS.setO {B g:Nat} {u:Value} {l:List Str} (h:RowS B W u l) (x:Value) (hg:g<B):RowS B (W.setCell ⟨g,0,none⟩ x) u l:=ownsRow_heap h fun g' hg'=>Below.heap_setCell _ _ _ _ (by have:=(h.lt g' hg').2;show g'≠g;omega)
theorem USt.setAt (h:USt b q M s w W v l at0) (x:Nat):USt b q M s w (W.setCell ⟨q,0,none⟩ (.int .i64 (x:Nat))) v l x:=by
 obtain ⟨n1,n2,n3⟩:=h.num
 exact ⟨⟨n1,n2,by simpa [World.setCell] using n3⟩,h.base.set _ (by omega) (by omega) (by omega) (by omega),heap_set_one h.ac _,h.row.setO _ (by omega),h.low.setCell (by show b≤q;omega) _⟩
theorem USt.setL (h:USt b q M s w W v l at0) {v':Value} {l':List Str} (hr:RowS M W' v' l') (hg:W.grownBy W' v.ownBlock):USt b q M s w (W'.setCell ⟨b+1,0,none⟩ v') v' l' at0:=by
 obtain ⟨n1,n2,n3⟩:=h.num
 have old:∀ g,g<M→W'.heap[g]? = W.heap[g]?:=fun g hl=>hg.block g (by omega) fun e=>by have:=(h.row.lt g e.symm).2;omega
 have ne:∀ g,g<M→g≠b+1→(W'.setCell ⟨b+1,0,none⟩ v').heap[g]? = W.heap[g]?:=fun g hl hn=>(Below.heap_setCell _ _ _ _ (fun e=>hn e)).trans (old g hl)
 refine ⟨⟨n1,n2,by have:=hg.size;simp [World.setCell];omega⟩,⟨(ne _ (by omega) (by omega)).trans h.base.sc,heap_set_one ((old (b+1) (by omega)).trans h.base.lc) _,(ne _ (by omega) (by omega)).trans h.base.dc,(ne _ (by omega) (by omega)).trans h.base.ec⟩,(ne _ (by omega) (by omega)).trans h.ac,hr.setO _ (by omega),?_⟩
 exact (h.low.grown hg (by omega) (fun g e=>by have:=(h.row.lt g e).2;omega)).setCell (by show b≤b+1;omega) _
theorem USt.ca (h:USt b q M s w W v l at0):W.cell? ⟨q,0,none⟩=some (.int .i64 (at0:Nat)):=by rw [Lib.cell_of_heap h.ac];rfl
theorem USt.fa (h:USt b q M s w W v l at0):W.frozen? ⟨q,0,none⟩=false:=Lib.frozen_of_heap h.ac 0
end
theorem unpackGo_cons (f:Fld) (fs:List Fld) (s:Str) (at0:Nat) (l:List Str):unpackGo (f::fs) s at0 l =
  if f.letter == 64 then (if s.length<(if f.count = -2 then s.length else f.count.toNat) then (l,false) else unpackGo fs s (if f.count = -2 then s.length else f.count.toNat) l)
  else if (unpkR f (s.drop at0)).2.2 then unpackGo fs s (at0+(unpkR f (s.drop at0)).2.1) (if takesL f.letter then l++[(unpkR f (s.drop at0)).1] else l) else (l,false):=by
 unfold unpkR
 rw [unpackGo]
 by_cases h:(f.letter == 64)=true
 ·rw [if_pos h,if_pos h]
 ·rw [if_neg h,if_neg h]
  dsimp only
  rw [List.length_drop]
  by_cases h2:s.length-at0<lenL f.letter (cntU f (s.length-at0))
  ·rw [if_pos h2,if_pos h2,if_neg (by simp)]
  ·rw [if_neg h2,if_neg h2,if_pos rfl]
theorem unpkR_le {f:Fld} {s:Str} (h:(unpkR f s).2.2=true):(unpkR f s).2.1≤s.length:=by
 unfold unpkR at h ⊢
 split
 ·rename_i h1
  rw [if_pos h1] at h
  cases h
 ·show lenL f.letter (cntU f s.length)≤s.length
  omega
structure UAt (b q M:Nat) (w:World) (y s:Str) (pre:List (FldIn y)) (W:World):Prop where
 st:∃ (v:Value) (l:List Str) (at0:Nat),USt b q M s w W v l at0∧at0≤s.length∧l.length≤pre.length∧∀ rest,fldsE y=pre.map Subtype.val++rest→unpackGo (fldsE y) s 0 []=unpackGo rest s at0 l
structure UEnd (b M:Nat) (w:World) (y s:Str) (pre:List (FldIn y)) (W:World):Prop where
 st:∃ (v:Value) (l:List Str),W.heap[b+1]? = some (.cells #[v] 22 (0,0))∧W.heap[b+1+1]? = some (.cells #[.bool false] 4 (0,0))∧W.heap[b+1+1+1]? = some (.cells #[.int .i64 0] 27 (0,0))∧RowS M W v l∧∀ rest,fldsE y=pre.map Subtype.val++rest→unpackGo (fldsE y) s 0 []=(l,false)
 low:Below b w W
theorem UAt.own {b q M B:Nat} {w:World} {y s:Str} (hB:M≤B) (hbw:b≤w.heap.size):OwnFrom B (UAt b q M w y s):=by
 rintro pre X Y row ⟨v,l,at0,h,hk⟩ hg hr
 obtain ⟨n1,n2,n3⟩:=h.num
 exact ⟨v,l,at0,⟨⟨n1,n2,Nat.le_trans n3 hg.size⟩,⟨cells_turn hg hr h.base.sc,cells_turn hg hr h.base.lc,cells_turn hg hr h.base.dc,cells_turn hg hr h.base.ec⟩,cells_turn hg hr h.ac,ownsRow_heap2 h.row fun g cur _ hc=>cells_turn hg hr hc,below_turn h.low hbw hg (fun r e=>⟨by have:=(hr r e).1;omega,(hr r e).2⟩)⟩,hk⟩
theorem UEnd.own {b M B:Nat} {w:World} {y s:Str} (hB:b≤B) (hbw:b≤w.heap.size):OwnFrom B (UEnd b M w y s):=by
 rintro pre X Y row ⟨⟨v,l,h1,h2,h3,h4,h5⟩,hlow⟩ hg hr
 exact ⟨⟨v,l,cells_turn hg hr h1,cells_turn hg hr h2,cells_turn hg hr h3,ownsRow_heap2 h4 fun g cur _ hc=>cells_turn hg hr hc,h5⟩,below_turn hlow hbw hg (fun r e=>⟨Nat.le_trans hB (hr r e).1,(hr r e).2⟩)⟩
theorem USt.stop {b q M:Nat} {s y:Str} {v:Value} {w W:World} {l:List Str} {at0:Nat} {pre:List (FldIn y)} (h:USt b q M s w W v l at0) (hres:∀ rest,fldsE y=pre.map Subtype.val++rest→unpackGo (fldsE y) s 0 []=(l,false)) :
  UEnd b M w y s pre (((W.setCell ⟨b+1,0,none⟩ v).setCell ⟨b+1+1,0,none⟩ (.bool false)).setCell ⟨b+1+1+1,0,none⟩ (.int .i64 0)):=by
 obtain ⟨n1,n2,n3⟩:=h.num
 refine ⟨⟨v,l,?_,?_,?_,((h.row.setO _ (by omega)).setO _ (by omega)).setO _ (by omega),hres⟩,((h.low.setCell (by show b≤b+1;omega) _).setCell (by show b≤b+1+1;omega) _).setCell (by show b≤b+1+1+1;omega) _⟩
 ·exact (Below.heap_setCell _ _ _ _ (by show b+1≠b+1+1+1;omega)).trans ((Below.heap_setCell _ _ _ _ (by show b+1≠b+1+1;omega)).trans (heap_set_one h.base.lc _))
 ·exact (Below.heap_setCell _ _ _ _ (by show b+1+1≠b+1+1+1;omega)).trans (heap_set_one ((Below.heap_setCell _ _ _ _ (by show b+1+1≠b+1;omega)).trans h.base.dc) _)
 ·exact heap_set_one ((Below.heap_setCell _ _ _ _ (by show b+1+1+1≠b+1+1;omega)).trans ((Below.heap_setCell _ _ _ _ (by show b+1+1+1≠b+1;omega)).trans h.base.ec)) _
set_option maxRecDepth 100000 in
set_option maxHeartbeats 1500000 in
theorem unpack_fn (y s:Str) (hy:y.length≤100000) (hs:s.length≤100000) (w:World) (htab:Tab w) :
  Calls Tryz.prog 22 #[.string ⟨y.toArray⟩,.string ⟨s.toArray⟩] w (UnpackQ y s w):=by
 have hsz:(⟨s.toArray⟩:ByteArray).size=s.length:=Lib.size_mk _
 refine (callsIn_wide (n:=5)).1 ?_
 refine callsIn_of_wp_marks Tryz.func22 rfl trivial ?_ rfl
 simp only [Tryz.ntmps22,List.size_toArray,List.length_cons,List.length_nil,Nat.reduceAdd,Nat.reduceSub,Array.replicate_succ,Array.replicate_zero,List.push_toArray,List.append_toArray,List.nil_append,List.cons_append]
 obtain ⟨W0,hW0⟩:∃ W0,W0=(((w.alloc (.cells #[.string ⟨s.toArray⟩] 9)).alloc (.cells #[.slice none 0 0] 22)).alloc (.cells #[.bool false] 4)).alloc (.cells #[.int .i64 0] 27):=⟨_,rfl⟩
 have hs0:W0.heap.size=w.heap.size+1+1+1+1:=by rw [hW0];simp
 have h0:W0.heap[w.heap.size]? = some (.cells #[.string ⟨s.toArray⟩] 9 (0,0)):=by
  rw [hW0,Below.heap_alloc _ _ _ (by simp<;>omega),Below.heap_alloc _ _ _ (by simp<;>omega),Below.heap_alloc _ _ _ (by simp)];exact heap_alloc_new _ _
 have h1:W0.heap[w.heap.size+1]? = some (.cells #[.slice none 0 0] 22 (0,0)):=by
  rw [hW0,Below.heap_alloc _ _ _ (by simp<;>omega),Below.heap_alloc _ _ _ (by simp)]
  simpa using heap_alloc_new (w.alloc (.cells #[.string ⟨s.toArray⟩] 9)) (.cells #[.slice none 0 0] 22)
 have h2:W0.heap[w.heap.size+1+1]? = some (.cells #[.bool false] 4 (0,0)):=by
  rw [hW0,Below.heap_alloc _ _ _ (by simp)]
  simpa using heap_alloc_new ((w.alloc (.cells #[.string ⟨s.toArray⟩] 9)).alloc (.cells #[.slice none 0 0] 22)) (.cells #[.bool false] 4)
 have h3:W0.heap[w.heap.size+1+1+1]? = some (.cells #[.int .i64 0] 27 (0,0)):=by
  rw [hW0]
  simpa using heap_alloc_new (((w.alloc (.cells #[.string ⟨s.toArray⟩] 9)).alloc (.cells #[.slice none 0 0] 22)).alloc (.cells #[.bool false] 4)) (.cells #[.int .i64 0] 27)
 have hb0:Below w.heap.size w W0:=by rw [hW0];exact ((((Below.refl _ _).alloc (Nat.le_refl _) _).alloc (by simp) _).alloc (by simp;omega) _).alloc (by simp;omega) _
 have HV:=hid (valid_fn y (by omega) W0)
 have HW0:=hid hW0
 have HB0:=hid hb0
 have HS0:=hid hs0
 have HT:=hid htab
 obtain ⟨ok,hok⟩:∃ ok,ok=validE y:=⟨_,rfl⟩
 rw [← hok] at HV
 have HP:=hid hok
 have HPB:=hid (show UBase w.heap.size s (.slice none 0 0) W0 from ⟨h0,h1,h2,h3⟩)
 clear hW0 h0 h1 h2 h3 hb0 hs0 hok htab
 cases ok with
 | false=>
  have HRS:=hid (show unpackRes y s=([],false,2) by unfold unpackRes;rw [← HP.out];rfl)
  gi_wp2_with (refine ⟨trivial,?_⟩;gi_at_call 79;rw [← HW0.out];refine (callsIn_wide.2 HV.out).mono ?_;rintro e w1 ⟨rfl,hb1⟩;have hp1:=HPB.out.on hb1 (by rw [HS0.out];omega);have q1:=hp1.cl;have q2:=hp1.fl;have q3:=hp1.cd;have q4:=hp1.fd;have q5:=hp1.ce;have q6:=hp1.fe;have HP1:=hid hp1;have HB1:=hid hb1;clear hp1 hb1)
  refine unpack_end0 (b:=w.heap.size) (v:=.slice none 0 0) (L:=[]) (d:=false) (z:=2) rfl ?_ ?_ ?_ (RowS.nil _ _) ?_ HRS.out rfl rfl rfl
  ·exact (Below.heap_setCell _ _ _ _ (by show w.heap.size+1≠w.heap.size+1+1+1;omega)).trans ((Below.heap_setCell _ _ _ _ (by show w.heap.size+1≠w.heap.size+1+1;omega)).trans (heap_set_one HP1.out.lc _))
  ·exact (Below.heap_setCell _ _ _ _ (by show w.heap.size+1+1≠w.heap.size+1+1+1;omega)).trans (heap_set_one ((Below.heap_setCell _ _ _ _ (by show w.heap.size+1+1≠w.heap.size+1;omega)).trans HP1.out.dc) _)
  ·exact heap_set_one ((Below.heap_setCell _ _ _ _ (by show w.heap.size+1+1+1≠w.heap.size+1+1;omega)).trans ((Below.heap_setCell _ _ _ _ (by show w.heap.size+1+1+1≠w.heap.size+1;omega)).trans HP1.out.ec)) _
  ·exact (((HB0.out.trans (HB1.out.mono (by rw [HS0.out];omega))).setCell (by show w.heap.size≤w.heap.size+1;omega) _).setCell (by show w.heap.size≤w.heap.size+1+1;omega) _).setCell (by show w.heap.size≤w.heap.size+1+1+1;omega) _
 | true=>
  have hFD:=fun u=>fields_fn y u
  have HFD:=hid hFD
  clear hFD
  gi_wp2_with (refine ⟨trivial,?_⟩;gi_at_call 79;rw [← HW0.out];refine (callsIn_wide.2 HV.out).mono ?_;rintro e w2 ⟨rfl,hb1⟩;have hp1:=HPB.out.on hb1 (by rw [HS0.out];omega);have HP1:=hid hp1;have HB2:=hid (HB0.out.trans (hb1.mono HB0.out.size));clear hp1 hb1)
  obtain ⟨w3,hw3⟩:∃ w3,w3=w2.alloc (.cells #[.int .i64 0] 3):=⟨_,rfl⟩
  rw [← hw3]
  obtain ⟨q,hq⟩:∃ q,q=w2.heap.size:=⟨_,rfl⟩
  have hz3:w3.heap.size=q+1:=by rw [hw3,hq];simp
  have ha3:w3.heap[q]? = some (.cells #[.int .i64 0] 3 (0,0)):=by rw [hw3,hq];exact heap_alloc_new _ _
  have hb3:Below w2.heap.size w2 w3:=by rw [hw3];exact belowA _ _
  have hlt1:=HP1.out.lt
  have hp3:=HP1.out.on hb3 hlt1
  have hlow3:Below w.heap.size w w3:=HB2.out.trans (hb3.mono HB2.out.size)
  rw [← hq]
  have hqb:w.heap.size+1+1+1<q:=by omega
  have HP3:=hid hp3
  have HA3:=hid ha3
  have HLOW3:=hid hlow3
  have HZ3:=hid hz3
  clear hw3 hq hz3 ha3 hb3 hp3 hlow3 hlt1 HB2 HP1 HPB HW0 HB0 HS0 HV
  refine ⟨trivial,(callsIn_wide.2 (HFD.out w3)).mono ?_⟩
  rintro e w4 ⟨rfl,hbe,hep,hsz4⟩
  rw [HZ3.out] at hep hsz4
  rw [HZ3.out]
  gi_wp2
  obtain ⟨b,hb⟩:∃ b,b=w.heap.size:=⟨_,rfl⟩
  have HBE:=hid hb
  have hbw1:b≤w.heap.size:=by omega
  have hI0:UAt b q w4.heap.size w y s [] w4:=by
   refine ⟨.slice none 0 0,[],0,USt.mk ⟨by omega,by omega,Nat.le_refl _⟩ ?_ ?_ (RowS.nil _ _) ?_,Nat.zero_le _,Nat.le_refl _,fun rest hr=>by rw [hr];rfl⟩
   ·rw [hb];exact HP3.out.on hbe (by rw [HZ3.out];omega)
   ·exact (hbe.block _ (by rw [HZ3.out];omega)).trans HA3.out
   ·rw [hb];exact HLOW3.out.trans (hbe.mono (by rw [HZ3.out];omega))
  rw [← hb] at hqb ⊢
  have HFL:=hid (flds_len _ y (Nat.le_refl _))
  clear HP3 HA3 HLOW3 hbe HFD hb HZ3
  refine wpIn_rangeFunc_ownH rfl (by omega) (gf:=120) (lb:=#[.pointer (some ⟨q+1,0,none⟩)]) rfl trivial (enters_of Tryz.func120 (by kernel_rfl) rfl)
   (fields_stopsI (B:=b) (by omega) _ hep (by omega)) KpF.trans (fun W l o o' hl h h1 h2=>⟨belowK_b (w:=w4) (by omega) W l o o' hl h h1 h2,World.putObj_heap_other (by omega)⟩) (Below.refl _ _) (fun _=>rfl)
   (UAt b q w4.heap.size w y s) (fun c pre W=>c=.ret∧UEnd b w4.heap.size w y s pre W)
   (UAt.own (B:=w4.heap.size) (Nat.le_refl _) hbw1) (fun c s' X Y row h hg hr=>⟨h.1,UEnd.own (B:=w4.heap.size) (by omega) hbw1 s' X Y row h.2 hg hr⟩) hI0
   (fun x a' W=>∃ Bx,w4.heap.size≤Bx∧W.heap[Bx]? = some (.cells #[.int .u8 (x.1.letter.toNat:Nat),.bool x.1.plain,.int .i64 x.1.count] 79 (0,0))∧a' = { tmps:=#[.string ⟨y.toArray⟩,.string ⟨s.toArray⟩,undef,.pointer (some ⟨b,0,none⟩),.pointer (some ⟨b+1,0,none⟩),.pointer (some ⟨b+1+1,0,none⟩),.pointer (some ⟨b+1+1+1,0,none⟩),.pointer (some ⟨q,0,none⟩),.pointer (some ⟨Bx,0,none⟩),undef,undef,undef,.string ⟨y.toArray⟩,.bool true,.bool false,.string ⟨y.toArray⟩,.func (.func 120) #[] #[.pointer (some ⟨q+1,0,none⟩)],fldV x.1,undef,undef,undef,undef,undef,undef,undef,undef,undef,undef,undef,undef,undef,undef,undef,undef,undef,undef,undef,undef,undef,undef,undef,undef,undef,undef,undef,undef,undef,undef,undef,undef,undef,undef,undef,undef],defers:=[] })
   (fun x a' s' X Y row h hg hr=>by obtain ⟨Bx,h1,h2,h3⟩:=h;exact ⟨Bx,h1,cells_turn hg hr h2,h3⟩) ?assign ?body ?done ?stop
  case assign=>
   rintro l pre ⟨x,hxs⟩ W K hi hK
   unfold encF fldV
   gi_wp2
   obtain ⟨v,ll,at0,hst,hrest⟩:=id hi.st
   obtain ⟨n1,n2,n3⟩:=hst.num
   exact hK _ _ ((KeepsOthers.alloc _ _).from _) (KpF.of (belowA _ _) (by omega) (by omega)) ((UAt.own (B:=w4.heap.size) (Nat.le_refl _) hbw1).alloc _ hi) ⟨W.heap.size,n3,heap_alloc_new _ _,rfl⟩
  case body=>
   rintro l pre ⟨⟨c,pl,n⟩,hxs⟩ a' W hl hr hi ⟨Bx,hBx,hX,rfl⟩ hlt
   clear hsz4
   dsimp only at hX
   have hok:=valid_ok HP.out.symm _ hxs
   have x0:W.cell? ⟨Bx,0,none⟩=some (.int .u8 (c.toNat:Nat)):=by rw [Lib.cell_of_heap hX];rfl
   have x1:W.cell? ⟨Bx,1,none⟩=some (.bool pl):=by rw [Lib.cell_of_heap hX];rfl
   have x2:W.cell? ⟨Bx,2,none⟩=some (.int .i64 n):=by rw [Lib.cell_of_heap hX];rfl
   obtain ⟨v,ll,at0,hst,hat,hll,hrest⟩:=hi.st
   have HF:Hid (FBlk Bx W ⟨c,pl,n⟩):=hid ⟨hX⟩
   have hll2:ll.length≤1000000:=by have:=HFL.out;omega
   have hll3:ll.length≤(pre++[(⟨⟨c,pl,n⟩,hxs⟩:FldIn y)]).length:=by simp;omega
   have hll4:ll.length+1≤(pre++[(⟨⟨c,pl,n⟩,hxs⟩:FldIn y)]).length:=by simp;omega
   obtain ⟨va,vc,he⟩:=hst.row.shape
   obtain ⟨nl,hnl⟩:∃ nl,nl=ll.length:=⟨_,rfl⟩
   rw [← hnl] at he
   have HNL:=hid hnl
   have HST:=hid hst
   have HREST:=hid hrest
   obtain ⟨o1,o2,o3,o4,o5⟩:=hok
   dsimp only at o1 o2 o3 o4 o5
   clear hi hrest hX hst hnl
   subst he
   obtain ⟨n1,n2,n3⟩:=HST.out.num
   have c0:=HST.out.base.cs
   have c1:=HST.out.base.cl
   have c2:=HST.out.base.fl
   have c3:=HST.out.base.cd
   have c4:=HST.out.base.fd
   have c5:=HST.out.base.ce
   have c6:=HST.out.base.fe
   have c7:=HST.out.ca
   have c8:=HST.out.fa
   have HLL:=hid (And.intro hll2 (And.intro hll3 hll4))
   clear hll hll2 hll3 hll4 hlt
   unfold fldV
   dsimp only
   by_cases h64:c=64
   ·have y64:((c.toNat:Int) == 64)=true:=by rw [h64];rfl
    have hgo:∀ to':Nat,(to'=if n = -2 then s.length else n.toNat)→∀ rest,fldsE y=(pre++[(⟨⟨c,pl,n⟩,hxs⟩:FldIn y)]).map Subtype.val++rest→unpackGo (fldsE y) s 0 []=if s.length<to' then (ll,false) else unpackGo rest s to' ll:=fun to' ht rest hr=>by
     subst ht
     rw [HREST.out (⟨c,pl,n⟩::rest) (hr.trans (by simp)),unpackGo_cons,if_pos (by rw [h64];rfl)]
    have HGO:=hid hgo
    have hne1:=o5 h64
    clear hgo h64
    by_cases hn:n = -2
    ·have yn:(n == (-2:Int))=true:=by rw [hn];rfl
     have HGO2:=hid (HGO.out s.length (by rw [if_pos hn]))
     have HNN:=hid hn
     clear hn
     gi_wp2
     rw [setCell_two]
     refine ⟨(KeepsOthers.setCell _ _ _).from _,⟨(Below.refl _ _).setCell (by show b≤q;omega) _,Below.heap_setCell _ _ _ _ (by show q+1≠q;omega)⟩,⟨_,ll,s.length,HST.out.setAt s.length,Nat.le_refl _,HLL.out.2.1,fun rest hr=>?_⟩⟩
     rw [HGO2.out rest hr,if_neg (by omega)]
    ·have yn:(n == (-2:Int))=false:=by simp;omega
     obtain ⟨N,hN⟩:∃ N:Nat,n=(N:Int):=⟨n.toNat,by omega⟩
     have HGO2:=hid (HGO.out N (by rw [if_neg hn,hN];rfl))
     clear HGO
     subst hN
     clear hn
     by_cases hbig:s.length<N
     ·have hbI:(s.length:Int)<(N:Int):=by omega
      gi_wp2
      refine ⟨((((KeepsOthers.setCell _ _ _).trans (KeepsOthers.setCell _ _ _)).trans (KeepsOthers.setCell _ _ _)).trans (KeepsOthers.setCell _ _ _)).from _,rfl,(HST.out.setAt N).stop fun rest hr=>?_⟩
      rw [HGO2.out rest hr,if_pos hbig]
     ·have hbI:¬ ((s.length:Int)<(N:Int)):=by omega
      gi_wp2
      refine ⟨(KeepsOthers.setCell _ _ _).from _,⟨(Below.refl _ _).setCell (by show b≤q;omega) _,Below.heap_setCell _ _ _ _ (by show q+1≠q;omega)⟩,⟨_,ll,N,HST.out.setAt N,by omega,HLL.out.2.1,fun rest hr=>?_⟩⟩
      rw [HGO2.out rest hr,if_neg hbig]
   ·have y64:((c.toNat:Int) == 64)=false:=byte_ne 64 h64 rfl
    obtain ⟨t,ht⟩:∃ t,t=s.drop at0:=⟨_,rfl⟩
    have htl:t.length=s.length-at0:=by rw [ht,List.length_drop]
    have haT:At s t at0:=⟨by omega,ht.symm⟩
    have hext:=haT.all
    have hatI:(at0:Int)≤(s.length:Int):=by omega
    obtain ⟨r,hr0⟩:∃ r,r=unpkR ⟨c,pl,n⟩ t:=⟨_,rfl⟩
    have hgo:∀ rest,fldsE y=(pre++[(⟨⟨c,pl,n⟩,hxs⟩:FldIn y)]).map Subtype.val++rest→unpackGo (fldsE y) s 0 []=if r.2.2 then unpackGo rest s (at0+r.2.1) (if takesL c then ll++[r.1] else ll) else (ll,false):=fun rest hr=>by
     rw [HREST.out (⟨c,pl,n⟩::rest) (hr.trans (by simp)),unpackGo_cons,if_neg (by simpa using h64),← ht,← hr0]
    have HGO:=hid hgo
    have HUF:=hid (fun u (hu:Tab u)=>by have h:=unpacked_fn c pl n ⟨o3,o4⟩ o1 h64 t (by omega) u hu;unfold UnpkQ at h;rw [← hr0] at h;exact h)
    have hrle:r.2.2=true→at0+r.2.1≤s.length:=fun h=>by
     have:=unpkR_le (f:=⟨c,pl,n⟩) (s:=t) (by rw [← hr0];exact h)
     rw [← hr0] at this
     omega
    have HRLE:=hid hrle
    obtain ⟨r1,sz,ok⟩:=r
    dsimp only at HGO HUF HRLE
    have HTW:=hid (HT.out.below (show Below w.heap.size w W from by rw [← HBE.out];exact HST.out.low))
    have HEXT:=hid hext
    clear hgo hr0 hrle ht htl haT h64 hext
    gi_upto_region 12 with fail
    have S0:Hid ((fun u:World=>u.cell? ⟨Bx,0,none⟩=some (.int .u8 (c.toNat:Nat))∧u.cell? ⟨Bx,1,none⟩=some (.bool pl)∧u.cell? ⟨Bx,2,none⟩=some (.int .i64 n)∧u.cell? ⟨b,0,none⟩=some (.string ⟨s.toArray⟩)∧u.cell? ⟨q,0,none⟩=some (.int .i64 (at0:Nat))) W.drew):=hid ⟨x0,x1,x2,c0,c7⟩
    refine U_beginR (late:=fun k=>decide (12≤k)) (S:=fun u:World=>u.cell? ⟨Bx,0,none⟩=some (.int .u8 (c.toNat:Nat))∧u.cell? ⟨Bx,1,none⟩=some (.bool pl)∧u.cell? ⟨Bx,2,none⟩=some (.int .i64 n)∧u.cell? ⟨b,0,none⟩=some (.string ⟨s.toArray⟩)∧u.cell? ⟨q,0,none⟩=some (.int .i64 (at0:Nat))) (fun _ _ h=>h) (by kernel_rfl) (by kernel_rfl) ?_
    refine U_take2 8 (i:=0) (v:=.agg #[.int .u8 (c.toNat:Nat),.bool pl,.int .i64 n]) rfl (by kernel_rfl) (by kernel_rfl) (by kernel_rfl) (by kernel_rfl) (by kernel_rfl) (fun _ _ _ h=>h) (.inl ⟨rfl,fun u hu=>(by obtain ⟨h1,h2,h3,h4,h5⟩:=hu;go_simp)⟩) S0.out ?_
    refine U_take2 8 (i:=1) (v:=.string ⟨s.toArray⟩) rfl (by kernel_rfl) (by kernel_rfl) (by kernel_rfl) (by kernel_rfl) (by kernel_rfl) (fun _ _ _ h=>h) (.inl ⟨rfl,fun u hu=>(by obtain ⟨h1,h2,h3,h4,h5⟩:=hu;go_simp)⟩) S0.out ?_
    refine U_take2 8 (i:=2) (v:=.int .i64 (at0:Nat)) rfl (by kernel_rfl) (by kernel_rfl) (by kernel_rfl) (by kernel_rfl) (by kernel_rfl) (fun _ _ _ h=>h) (.inl ⟨rfl,fun u hu=>(by obtain ⟨h1,h2,h3,h4,h5⟩:=hu;go_simp)⟩) S0.out ?_
    refine U_take2 8 (i:=3) (v:=.string ⟨t.toArray⟩) rfl (by kernel_rfl) (by kernel_rfl) (by kernel_rfl) (by kernel_rfl) (by kernel_rfl) (fun _ _ _ h=>h) (.inl ⟨rfl,fun u hu=>(by go_simp<;>(try rw [if_pos ⟨by omega,by omega⟩])<;>(try rw [HEXT.out]))⟩) S0.out ?_
    refine U_step (j:=4) (by kernel_rfl) rfl (fun K hK=>?_)
    go_simp
    (with_reducible refine (HUF.out _ (HTW.out.below ((Below.refl _ _).drew))).mono ?_);rintro e w6 ⟨rfl,hb6⟩
    have hb6':Below W.heap.size W w6:=(Below.refl _ W).drew.trans hb6
    have hst6:=HST.out.on hb6'
    have S6:Hid ((fun u:World=>u.cell? ⟨Bx,0,none⟩=some (.int .u8 (c.toNat:Nat))∧u.cell? ⟨Bx,1,none⟩=some (.bool pl)∧u.cell? ⟨Bx,2,none⟩=some (.int .i64 n)∧u.cell? ⟨b,0,none⟩=some (.string ⟨s.toArray⟩)∧u.cell? ⟨q,0,none⟩=some (.int .i64 (at0:Nat))) w6):=by
     have hF6:=HF.out.on hb6'
     exact hid ⟨hF6.c0,hF6.c1,hF6.c2,hst6.base.cs,hst6.ca⟩
    refine hK.out _ _ (.inr S6.out) ?_
    clear hK K S0
    have HB6:=hid hb6'
    have HST6:=hid hst6
    have HF6:=hid (HF.out.on hb6')
    have d1:=hst6.base.cl
    have d2:=hst6.base.fl
    have d3:=hst6.base.cd
    have d4:=hst6.base.fd
    have d5:=hst6.base.ce
    have d6:=hst6.base.fe
    clear hb6 hb6' hst6
    refine U_take2 8 (i:=5) (v:=.tuple #[.string ⟨r1.toArray⟩,.int .i64 (sz:Nat),.bool ok]) rfl (by kernel_rfl) (by kernel_rfl) (by kernel_rfl) (by kernel_rfl) (by kernel_rfl) (fun _ _ _ h=>h) (.inl ⟨rfl,fun u hu=>(by go_simp)⟩) S6.out ?_
    refine U_take2 8 (i:=6) (v:=.string ⟨r1.toArray⟩) rfl (by kernel_rfl) (by kernel_rfl) (by kernel_rfl) (by kernel_rfl) (by kernel_rfl) (fun _ _ _ h=>h) (.inl ⟨rfl,fun u hu=>(by go_simp)⟩) S6.out ?_
    refine U_take2 8 (i:=7) (v:=.int .i64 (sz:Nat)) rfl (by kernel_rfl) (by kernel_rfl) (by kernel_rfl) (by kernel_rfl) (by kernel_rfl) (fun _ _ _ h=>h) (.inl ⟨rfl,fun u hu=>(by go_simp)⟩) S6.out ?_
    refine U_take2 8 (i:=8) (v:=.bool ok) rfl (by kernel_rfl) (by kernel_rfl) (by kernel_rfl) (by kernel_rfl) (by kernel_rfl) (fun _ _ _ h=>h) (.inl ⟨rfl,fun u hu=>(by go_simp)⟩) S6.out ?_
    refine U_take2 8 (i:=9) (v:=.string ⟨r1.toArray⟩) rfl (by kernel_rfl) (by kernel_rfl) (by kernel_rfl) (by kernel_rfl) (by kernel_rfl) (fun _ _ _ h=>h) (.inl ⟨rfl,fun u hu=>(by go_simp)⟩) S6.out ?_
    refine U_take2 8 (i:=10) (v:=.int .i64 (sz:Nat)) rfl (by kernel_rfl) (by kernel_rfl) (by kernel_rfl) (by kernel_rfl) (by kernel_rfl) (fun _ _ _ h=>h) (.inl ⟨rfl,fun u hu=>(by go_simp)⟩) S6.out ?_
    refine U_take2 8 (i:=11) (v:=.bool ok) rfl (by kernel_rfl) (by kernel_rfl) (by kernel_rfl) (by kernel_rfl) (by kernel_rfl) (fun _ _ _ h=>h) (.inl ⟨rfl,fun u hu=>(by go_simp)⟩) S6.out ?_
    refine U_done (by kernel_rfl) ?_ _
    clear S6
    cases ok with
    | false=>
     gi_wp2
     refine ⟨((((KeepsOthers.of_below HB6.out).trans (KeepsOthers.setCell _ _ _)).trans (KeepsOthers.setCell _ _ _)).trans (KeepsOthers.setCell _ _ _)).from _,rfl,HST6.out.stop fun rest hr=>?_⟩
     rw [HGO.out rest hr,if_neg (by decide)]
    | true=>
     have hrle:=HRLE.out rfl
     have g0:=HF6.out.c0
     have g1:=HF6.out.c1
     have g2:=HF6.out.c2
     have hsz6:=HB6.out.size
     have hTK:=fun u=>taking_fn c pl n u
     cases htk:takesL c with
     | false=>
      have HGO2:=hid (show ∀ rest,fldsE y=(pre++[(⟨⟨c,pl,n⟩,hxs⟩:FldIn y)]).map Subtype.val++rest→unpackGo (fldsE y) s 0 []=unpackGo rest s (at0+sz) ll from fun rest hr=>by rw [HGO.out rest hr,if_pos rfl,htk];rfl)
      rw [htk] at hTK
      have HTK:=hid hTK
      clear htk hTK HGO
      gi_wp2_with ((with_reducible refine And.intro ?_ ?_);exact trivial;gi_at_call 81;refine (calls_round (HTK.out _)).mono ?_;rintro e w7 ⟨rfl,hb7⟩;have hs7:=HST6.out.on hb7;have k7:=hs7.ca;have f7:=hs7.fa;have HB7:=hid hb7;have HS7:=hid hs7;clear hb7 hs7)
      have hs7:=HB7.out.size
      refine ⟨(((KeepsOthers.of_below HB6.out).trans (KeepsOthers.of_below HB7.out)).trans (KeepsOthers.setCell _ _ _)).from _,KpF.trans (KpF.of (HB6.out.trans (HB7.out.mono hsz6)) (by omega) (by omega)) ⟨(Below.refl _ _).setCell (by show b≤q;omega) _,Below.heap_setCell _ _ _ _ (by show q+1≠q;omega)⟩,⟨.slice va nl vc,ll,at0+sz,?_,hrle,HLL.out.2.1,HGO2.out⟩⟩
      have h9:=HS7.out.setAt (at0+sz)
      rw [Int.natCast_add] at h9
      exact h9
     | true=>
      have HGO2:=hid (show ∀ rest,fldsE y=(pre++[(⟨⟨c,pl,n⟩,hxs⟩:FldIn y)]).map Subtype.val++rest→unpackGo (fldsE y) s 0 []=unpackGo rest s (at0+sz) (ll++[r1]) from fun rest hr=>by rw [HGO.out rest hr,if_pos rfl,htk];rfl)
      rw [htk] at hTK
      have HTK:=hid hTK
      clear htk hTK HGO
      have hnl6:ll.length≤10000000:=by have:=HLL.out.1;omega
      gi_wp2_with (first|((with_reducible refine And.intro ?_ ?_);exact trivial;gi_at_call 81;refine (calls_round (HTK.out _)).mono ?_;rintro e w7 ⟨rfl,hb7⟩;have hs7:=HST6.out.on hb7;have k7:=hs7.base.cl;have HB7:=hid hb7;have HS7:=hid hs7;clear hb7 hs7)|(gi_at_builtin;refine app_oneIn rfl rfl (.tmp 46) (.tmp 48) rfl w4.heap.size _ _ r1 rfl HS7.out.row rfl HS7.out.num.2.2 hnl6 ?_;intro v9 w9 hr9 hg9 hv9;have e9:=(hg9.block (b+1) (by have:=HS7.out.num;omega) (fun e=>by have:=(HS7.out.row.lt _ e.symm).2;have:=HS7.out.num;omega)).trans HS7.out.base.lc;have k9:=Lib.cell_of_heap e9;have f9:=Lib.frozen_of_heap e9 0;have hs9:=HS7.out.setL hr9 hg9;have m9:=hs9.ca;have p9:=hs9.fa;have HG9:=hid hg9;obtain ⟨a9,c9,h9⟩:=hr9.shape;obtain ⟨n9,hn9⟩:∃ n9,n9=(ll++[r1]).length:=⟨_,rfl⟩;rw [← hn9] at h9;have HS9:=hid hs9;clear hr9 hg9 hv9 e9 hs9 hn9;subst h9))
      have hs7:=HB7.out.size
      have hko:=((KeepsOthers.of_below HB6.out).trans (KeepsOthers.of_below HB7.out)).trans (KeepsOthers.of_grownBy HG9.out fun j o e ho=>by obtain ⟨_,cur,hc⟩:=ownsRow_lt HS7.out.row j e;rw [hc] at ho;cases ho;rfl)
      have hb9:Below b w7 w9:=(Below.refl b w7).grown HG9.out (by omega) (fun g e=>by have:=HS7.out.row.lt g e;omega)
      have hp9:w9.heap[q+1]? = w7.heap[q+1]?:=HG9.out.block _ (by omega) fun e=>by have:=(HS7.out.row.lt _ e.symm).2;omega
      refine ⟨((hko.trans (KeepsOthers.setCell _ _ _)).trans (KeepsOthers.setCell _ _ _)).from _,KpF.trans (KpF.of (HB6.out.trans (HB7.out.mono hsz6)) (by omega) (by omega)) ⟨(hb9.setCell (by show b≤b+1;omega) _).setCell (by show b≤q;omega) _,?_⟩,⟨.slice a9 n9 c9,ll++[r1],at0+sz,?h9,hrle,by rw [List.length_append,List.length_singleton];exact HLL.out.2.2,HGO2.out⟩⟩
      case h9=>
       have h9:=HS9.out.setAt (at0+sz)
       rw [Int.natCast_add] at h9
       exact h9
      exact (Below.heap_setCell _ _ _ _ (by show q+1≠q;omega)).trans ((Below.heap_setCell _ _ _ _ (by show q+1≠b+1;omega)).trans hp9)
  case done=>
   rintro D xs W hD hxs hi hK
   obtain ⟨v,l,at0,hst,hat,hll,hrest⟩:=hi.st
   have c1:=hst.base.cl
   have c2:=hst.base.fl
   have c3:=hst.base.cd
   have c4:=hst.base.fd
   have c5:=hst.base.ce
   have c6:=hst.base.fe
   have hlt:=hst.base.lt
   obtain ⟨va,vc,hve⟩:=hst.row.shape
   obtain ⟨nl,hnl⟩:∃ nl,nl=l.length:=⟨_,rfl⟩
   rw [← hnl] at hve
   subst hve
   have hres:unpackRes y s=(l,true,0):=by
    have h9:=hrest [] (by rw [hxs];simp)
    unfold unpackRes
    rw [← HP.out,if_pos rfl,h9]
    rfl
   have HST:=hid hst
   have HRES:=hid hres
   have HK:=hid hK
   clear hst hrest hres hi hK hnl
   gi_wp2
   obtain ⟨n1,n2,n3⟩:=HST.out.num
   refine unpack_end (b:=b) (v:=.slice va nl vc) (L:=l) (d:=true) (z:=0) HBE.out (by omega) ?_ ?_ ?_ ?_ ?_ ?_ HRES.out rfl rfl rfl
   ·exact (Below.heap_setCell _ _ _ _ (by show b+1≠b+1+1+1;omega)).trans ((Below.heap_setCell _ _ _ _ (by show b+1≠b+1+1;omega)).trans (heap_set_one HST.out.base.lc _))
   ·exact (Below.heap_setCell _ _ _ _ (by show b+1+1≠b+1+1+1;omega)).trans (heap_set_one ((Below.heap_setCell _ _ _ _ (by show b+1+1≠b+1;omega)).trans HST.out.base.dc) _)
   ·exact heap_set_one ((Below.heap_setCell _ _ _ _ (by show b+1+1+1≠b+1+1;omega)).trans ((Below.heap_setCell _ _ _ _ (by show b+1+1+1≠b+1;omega)).trans HST.out.base.ec)) _
   ·exact (((HST.out.row.setO _ (by omega)).setO _ (by omega)).setO _ (by omega)).mono (by omega)
   ·exact (((KeepsOthers.setCell _ _ _).trans (KeepsOthers.setCell _ _ _)).trans (KeepsOthers.setCell _ _ _)).same D _ HK.out rfl
   ·exact ((HST.out.low.setCell (by show b≤b+1;omega) _).setCell (by show b≤b+1+1;omega) _).setCell (by show b≤b+1+1+1;omega) _
  case stop=>
   rintro D c pre W hD hpre ⟨rfl,he⟩ hK
   obtain ⟨v,l,h1,h2,h3,hrow,h4⟩:=he.st
   obtain ⟨rest,hrest⟩:=hpre
   have hres:unpackRes y s=(l,false,0):=by
    unfold unpackRes
    rw [← HP.out,if_pos rfl,h4 rest hrest.symm]
   gi_wp2
   exact unpack_end HBE.out (by omega) h1 h2 h3 (hrow.mono (by omega)) hK he.low hres rfl rfl rfl
end Go.Proofs.YtihdndaibmgoiaaGreatDoor.Pz
namespace Go.Proofs.YtihdndaibmgoiaaGreatDoor.Pz
open Go.RowKit
theorem sigdig (n:Nat) (h:n<(⟨#[65,66,67,68,69,70,71,72,73,74,75,76,77,78,79,80,81,82,83,84,85,86,87,88,89,90,97,98,99,100,101,102,103,104,105,106,107,108,109,110,111,112,113,114,115,116,117,118,119,120,121,122,48,49,50,51,52,53,54,55,56,57,43,47]⟩:ByteArray).size):(⟨#[65,66,67,68,69,70,71,72,73,74,75,76,77,78,79,80,81,82,83,84,85,86,87,88,89,90,97,98,99,100,101,102,103,104,105,106,107,108,109,110,111,112,113,114,115,116,117,118,119,120,121,122,48,49,50,51,52,53,54,55,56,57,43,47]⟩:ByteArray)[n]'h=b64L n:=
 (show ∀ m:Fin 64,(⟨#[65,66,67,68,69,70,71,72,73,74,75,76,77,78,79,80,81,82,83,84,85,86,87,88,89,90,97,98,99,100,101,102,103,104,105,106,107,108,109,110,111,112,113,114,115,116,117,118,119,120,121,122,48,49,50,51,52,53,54,55,56,57,43,47]⟩:ByteArray)[m.1]'m.2=b64L m.1 from by decide) ⟨n,h⟩
def vP (l:Str):Nat→Nat
 | 0=>0
 | k+1=>vP l k*256+(l.getD k 0).toNat
theorem vP_lt (l:Str):∀ k,vP l k<256 ^ k
 | 0=>Nat.zero_lt_one
 | k+1=>by
  have:=vP_lt l k
  have hc:=(l.getD k 0).toNat_lt
  rw [vP,Nat.pow_succ]
  omega
theorem vP_three (l:Str):vP l 3=v24 l:=by
 show ((0*256+(l.getD 0 0).toNat)*256+(l.getD 1 0).toNat)*256+(l.getD 2 0).toNat=_
 unfold v24
 omega
theorem quad_snoc (l:Str) (k:Nat) (h:k<4):(quad l).take (k+1)=(quad l).take k++[sign4 l k]:=by
 rcases (show k=0∨k=1∨k=2∨k=3 by omega) with rfl | rfl | rfl | rfl<;>rfl
theorem quad_len (l:Str):(quad l).length=4:=rfl
set_option maxRecDepth 100000 in
set_option maxHeartbeats 8000000 in
theorem base64_fn (s:Str) (hs:s.length≤1000000) (w:World):Calls Tryz.prog 41 #[.string ⟨s.toArray⟩] w fun e w'=>e=.returned (.string ⟨(b64E s).toArray⟩)∧Below w.heap.size w w':=by
  obtain ⟨R,hR⟩:∃ R,R=b64E s:=⟨_,rfl⟩
  have hRl:R.length≤2000000:=by rw [hR,b64E_len];omega
  rw [← hR]
  have HR:=hid hR
  clear hR
  have HB0:=hid (Bld.new w)
  have HL0:=hid (belowA w (.cells #[.pointer none,.slice none 0 0] 88))
  go_enter Tryz.func41,Tryz.ntmps41
  go_wp2_with fail
  go_loopg [0] (s.length+1) (fun k sv wr=>∃ (l out:Str),sv=.string ⟨l.toArray⟩∧l.length≤1000000∧R=out++b64E l∧Bld wr w.heap.size out∧Below w.heap.size w wr∧k=l.length+1)
  case atStart=>exact ⟨s,[],rfl,hs,HR.out,HB0.out,HL0.out,rfl⟩
  case round=>
    obtain ⟨l,out,rfl,hl,hr,hb,hbl,hk⟩:=hrel
    replace hk:=hk.symm
    subst hk
    have hsz:(⟨l.toArray⟩:ByteArray).size=l.length:=Lib.size_mk _
    have HRR:=hid hr
    have HB:=hid hb
    have HBL:=hid hbl
    have hol:out.length≤2000000:=by have:=congrArg List.length hr;rw [List.length_append] at this;omega
    clear hr hb hbl
    by_cases hl0:l.length=0
    · have hgt:decide (0<l.length)=false:=decide_eq_false (by omega)
      have hRo:R=out:=by rw [HRR.out,List.eq_nil_of_length_eq_zero hl0];exact List.append_nil _
      have HRO:=hid hRo
      clear hRo
      have HST:=hid (str_fn HB.out)
      go_wp2_with (go_at_call 78;refine HST.out.mono ?_;rintro e w5 ⟨rfl,hb5,hk5⟩;have HK5:=hid hk5;clear hb5 hk5)
      go_ret
      exact ⟨by rw [HRO.out];rfl,HBL.out.trans HK5.out.1⟩
    have hgt:decide (0<l.length)=true:=decide_eq_true (by omega)
    have hlpos:0<l.length:=by omega
    obtain ⟨n,hn⟩:∃ n,n=min 3 l.length:=⟨_,rfl⟩
    have hmin:min (3:Int) (l.length:Int)=(n:Int):=by omega
    have hn3:n≤3:=by omega
    have hnl:n≤l.length:=by omega
    have hn1:1≤n:=by omega
    have HN:=hid hn
    clear hn
    go_wp2_with fail
    clear hmin
    go_loopg [5,14] 3 (fun k vv iv wx=>∃ (i:Nat),i≤3∧vv=.int .i64 (vP l i:Nat)∧iv=.int .i64 (i:Nat)∧wx=wr∧k=3-i)
    case atStart=>exact ⟨0,Nat.zero_le _,rfl,rfl,rfl,rfl⟩
    case round=>
      obtain ⟨i,hi3,rfl,rfl,hw,hk⟩:=hrel
      replace hk:=hk.symm
      subst hk
      replace hw:=hw.symm
      subst hw
      obtain ⟨V,hV⟩:∃ V,V=vP l i:=⟨_,rfl⟩
      have hVl:V<16777216:=by
        have h1:=vP_lt l i
        have h2:256 ^ i≤256 ^ 3:=Nat.pow_le_pow_right (by decide) hi3
        have h3:(256:Nat) ^ 3=16777216:=by decide
        omega
      have hV2:vP l (i+1)=V*256+(l.getD i 0).toNat:=by rw [hV];rfl
      rw [← hV]
      have HV:=hid hV
      have hVI:(0:Int)≤(V:Int)∧(V:Int)<16777216:=by omega
      have HV2:=hid hV2
      clear hV hV2
      rcases Nat.lt_or_ge i 3 with hlt | hge
      · have hltI:(i:Int)<3:=by omega
        rcases Nat.lt_or_ge i n with hin | hin
        · have hinI:(i:Int)<(n:Int):=by omega
          have hil:i<l.length:=by omega
          have hbyte:=(At.here hil).byte
          obtain ⟨x,hx⟩:∃ x,x=l[i]:=⟨_,rfl⟩
          rw [← hx] at hbyte
          have hgd:l.getD i 0=x:=by rw [hx,List.getD_eq_getElem?_getD,List.getElem?_eq_getElem hil];rfl
          have hilI:(i:Int)<(l.length:Int):=by omega
          have hxl:=x.toNat_lt
          have hor:=i64_or8 V x.toNat (by omega) hxl
          have HGD:=hid hgd
          clear hx hgd
          go_wp2
          go_roundg (3-(i+1))
          case measure=>omega
          case rel=>exact ⟨i+1,hlt,by rw [HV2.out,HGD.out];go_num,by go_num,rfl,rfl⟩
        · have hinI:¬ ((i:Int)<(n:Int)):=by omega
          have HGD:=hid (show l.getD i 0=0 by rw [List.getD_eq_getElem?_getD,List.getElem?_eq_none (by have:=HN.out;omega)];rfl)
          go_wp2
          go_roundg (3-(i+1))
          case measure=>omega
          case rel=>exact ⟨i+1,hlt,by rw [HV2.out,HGD.out];go_num,by go_num,rfl,rfl⟩
      · obtain rfl:i=3:=by omega
        have HV3:=hid (show V=v24 l by rw [HV.out,vP_three])
        clear hi3 hge HV HV2
        rw [show ((3:Nat):Int)=3 from rfl]
        go_wp2_with fail
        go_loopg [29] 4 (fun k iv wx=>∃ (i:Nat),i≤4∧iv=.int .i64 (i:Nat)∧Bld wx w.heap.size (out++(quad l).take i)∧Below w.heap.size w wx∧k=4-i)
        case atStart=>exact ⟨0,Nat.zero_le _,rfl,by rw [List.take_zero,List.append_nil];exact HB.out,HBL.out,rfl⟩
        case round=>
          obtain ⟨i,hi4,rfl,hbx,hblx,hk⟩:=hrel
          replace hk:=hk.symm
          subst hk
          have HBX:=hid hbx
          have HBLX:=hid hblx
          clear hbx hblx
          have hlx:(out++(quad l).take i).length≤1000000000:=by rw [List.length_append,List.length_take,quad_len];omega
          rcases (show i=0∨i=1∨i=2∨i=3∨i=4 by omega) with rfl | rfl | rfl | rfl | rfl
          · have HSN:=hid (quad_snoc l 0 (by decide))
            by_cases hg:n<0
            · have hgI:(n:Int)<0:=by omega
              have HSG:=hid (show sign4 l 0=61 by unfold sign4;rw [if_pos (by have:=HN.out;omega)])
              go_wp2_with (go_at_call 91;refine (wbyte_fn HBX.out 61 hlx).mono ?_;rintro e w6 ⟨rfl,hb6,hk6⟩;have HB6:=hid hb6;have HK6:=hid hk6;clear hb6 hk6)
              go_roundg (4-(0+1))
              case measure=>omega
              case rel=>exact ⟨0+1,by omega,by go_num,by rw [HSN.out,HSG.out,← List.append_assoc];exact HB6.out,HBLX.out.trans HK6.out.1,rfl⟩
            · have hgI:¬ ((n:Int)<0):=by omega
              obtain ⟨z,hz⟩:∃ z,z=V / 262144:=⟨_,rfl⟩
              have hzI:(V:Int) / 262144=(z:Int):=by omega
              have hzl:z<9223372036854775808:=by omega
              have hand:=i64_mask6 z hzl
              obtain ⟨d,hd⟩:∃ d,d=z % 64:=⟨_,rfl⟩
              rw [← hd] at hand
              have hdl:d<64:=by omega
              have hd2:(0:Int)≤(d:Int)∧(d:Int)<64:=by omega
              have HSG:=hid (show sign4 l 0=b64L d by
                unfold sign4
                rw [if_neg (by have:=HN.out;omega),← HV3.out,hd,hz])
              clear hz hd
              go_wp2_with (go_at_call 91;rw [sigdig];refine (wbyte_fn HBX.out _ hlx).mono ?_;rintro e w6 ⟨rfl,hb6,hk6⟩;have HB6:=hid hb6;have HK6:=hid hk6;clear hb6 hk6)
              go_roundg (4-(0+1))
              case measure=>omega
              case rel=>exact ⟨0+1,by omega,by go_num,by rw [HSN.out,HSG.out,← List.append_assoc];exact HB6.out,HBLX.out.trans HK6.out.1,rfl⟩
          · have HSN:=hid (quad_snoc l 1 (by decide))
            by_cases hg:n<1
            · have hgI:(n:Int)<1:=by omega
              have HSG:=hid (show sign4 l 1=61 by unfold sign4;rw [if_pos (by have:=HN.out;omega)])
              go_wp2_with (go_at_call 91;refine (wbyte_fn HBX.out 61 hlx).mono ?_;rintro e w6 ⟨rfl,hb6,hk6⟩;have HB6:=hid hb6;have HK6:=hid hk6;clear hb6 hk6)
              go_roundg (4-(1+1))
              case measure=>omega
              case rel=>exact ⟨1+1,by omega,by go_num,by rw [HSN.out,HSG.out,← List.append_assoc];exact HB6.out,HBLX.out.trans HK6.out.1,rfl⟩
            · have hgI:¬ ((n:Int)<1):=by omega
              obtain ⟨z,hz⟩:∃ z,z=V / 4096:=⟨_,rfl⟩
              have hzI:(V:Int) / 4096=(z:Int):=by omega
              have hzl:z<9223372036854775808:=by omega
              have hand:=i64_mask6 z hzl
              obtain ⟨d,hd⟩:∃ d,d=z % 64:=⟨_,rfl⟩
              rw [← hd] at hand
              have hdl:d<64:=by omega
              have hd2:(0:Int)≤(d:Int)∧(d:Int)<64:=by omega
              have HSG:=hid (show sign4 l 1=b64L d by
                unfold sign4
                rw [if_neg (by have:=HN.out;omega),← HV3.out,hd,hz])
              clear hz hd
              go_wp2_with (go_at_call 91;rw [sigdig];refine (wbyte_fn HBX.out _ hlx).mono ?_;rintro e w6 ⟨rfl,hb6,hk6⟩;have HB6:=hid hb6;have HK6:=hid hk6;clear hb6 hk6)
              go_roundg (4-(1+1))
              case measure=>omega
              case rel=>exact ⟨1+1,by omega,by go_num,by rw [HSN.out,HSG.out,← List.append_assoc];exact HB6.out,HBLX.out.trans HK6.out.1,rfl⟩
          · have HSN:=hid (quad_snoc l 2 (by decide))
            by_cases hg:n<2
            · have hgI:(n:Int)<2:=by omega
              have HSG:=hid (show sign4 l 2=61 by unfold sign4;rw [if_pos (by have:=HN.out;omega)])
              go_wp2_with (go_at_call 91;refine (wbyte_fn HBX.out 61 hlx).mono ?_;rintro e w6 ⟨rfl,hb6,hk6⟩;have HB6:=hid hb6;have HK6:=hid hk6;clear hb6 hk6)
              go_roundg (4-(2+1))
              case measure=>omega
              case rel=>exact ⟨2+1,by omega,by go_num,by rw [HSN.out,HSG.out,← List.append_assoc];exact HB6.out,HBLX.out.trans HK6.out.1,rfl⟩
            · have hgI:¬ ((n:Int)<2):=by omega
              obtain ⟨z,hz⟩:∃ z,z=V / 64:=⟨_,rfl⟩
              have hzI:(V:Int) / 64=(z:Int):=by omega
              have hzl:z<9223372036854775808:=by omega
              have hand:=i64_mask6 z hzl
              obtain ⟨d,hd⟩:∃ d,d=z % 64:=⟨_,rfl⟩
              rw [← hd] at hand
              have hdl:d<64:=by omega
              have hd2:(0:Int)≤(d:Int)∧(d:Int)<64:=by omega
              have HSG:=hid (show sign4 l 2=b64L d by
                unfold sign4
                rw [if_neg (by have:=HN.out;omega),← HV3.out,hd,hz])
              clear hz hd
              go_wp2_with (go_at_call 91;rw [sigdig];refine (wbyte_fn HBX.out _ hlx).mono ?_;rintro e w6 ⟨rfl,hb6,hk6⟩;have HB6:=hid hb6;have HK6:=hid hk6;clear hb6 hk6)
              go_roundg (4-(2+1))
              case measure=>omega
              case rel=>exact ⟨2+1,by omega,by go_num,by rw [HSN.out,HSG.out,← List.append_assoc];exact HB6.out,HBLX.out.trans HK6.out.1,rfl⟩
          · have HSN:=hid (quad_snoc l 3 (by decide))
            by_cases hg:n<3
            · have hgI:(n:Int)<3:=by omega
              have HSG:=hid (show sign4 l 3=61 by unfold sign4;rw [if_pos (by have:=HN.out;omega)])
              go_wp2_with (go_at_call 91;refine (wbyte_fn HBX.out 61 hlx).mono ?_;rintro e w6 ⟨rfl,hb6,hk6⟩;have HB6:=hid hb6;have HK6:=hid hk6;clear hb6 hk6)
              go_roundg (4-(3+1))
              case measure=>omega
              case rel=>exact ⟨3+1,by omega,by go_num,by rw [HSN.out,HSG.out,← List.append_assoc];exact HB6.out,HBLX.out.trans HK6.out.1,rfl⟩
            · have hgI:¬ ((n:Int)<3):=by omega
              have hand:=i64_mask6 V (by omega)
              obtain ⟨d,hd⟩:∃ d,d=V % 64:=⟨_,rfl⟩
              rw [← hd] at hand
              have hdl:d<64:=by omega
              have hd2:(0:Int)≤(d:Int)∧(d:Int)<64:=by omega
              have HSG:=hid (show sign4 l 3=b64L d by
                unfold sign4
                rw [if_neg (by have:=HN.out;omega),← HV3.out,hd,show V / 2 ^ (18-6*3)=V from Nat.div_one V])
              clear hd
              go_wp2_with (go_at_call 91;rw [sigdig];refine (wbyte_fn HBX.out _ hlx).mono ?_;rintro e w6 ⟨rfl,hb6,hk6⟩;have HB6:=hid hb6;have HK6:=hid hk6;clear hb6 hk6)
              go_roundg (4-(3+1))
              case measure=>omega
              case rel=>exact ⟨3+1,by omega,by go_num,by rw [HSN.out,HSG.out,← List.append_assoc];exact HB6.out,HBLX.out.trans HK6.out.1,rfl⟩
          · have hext : (⟨l.toArray⟩ : ByteArray).extract n l.length = ⟨(l.drop n).toArray⟩ := by
              rw [Lib.extract_mk]
              congr 2
              rw [List.take_of_length_le (by rw [List.length_drop];exact Nat.le_refl _)]
            have hnlI:(n:Int)≤(l.length:Int):=by omega
            obtain ⟨t,ht⟩:∃ t,t=l.drop n:=⟨_,rfl⟩
            rw [← ht] at hext
            have htl:t.length=l.length-n:=by rw [ht,List.length_drop]
            have htd:t=l.drop 3:=by
              rw [ht]
              by_cases h3:3≤l.length
              · rw [show n=3 by have:=HN.out;omega]
              · rw [show n=l.length by have:=HN.out;omega,List.drop_eq_nil_of_le (Nat.le_refl _),List.drop_eq_nil_of_le (by omega)]
            have HTD:=hid htd
            have HTL:=hid htl
            clear ht htl htd
            go_wp2
            go_roundg (t.length+1)
            case measure=>have:=HTL.out;omega
            case rel=>exact ⟨t,out++quad l,rfl,by have:=HTL.out;omega,by rw [HRR.out,b64E_step l (fun e=>hl0 (by rw [e];rfl)),← HTD.out,List.append_assoc],HBX.out,HBLX.out,rfl⟩
end Go.Proofs.YtihdndaibmgoiaaGreatDoor.Pz
namespace Go.Proofs.YtihdndaibmgoiaaGreatDoor.Pz
open Go.RowKit
attribute [local go_sem] Oper.semAt_some
theorem awPack:packRes [97,51,32,115,32,72,52] [[97,98],[50,53,56],[48,97,49,98]]=([97,98,0,2,1,10,27],0):=by kernel_rfl
theorem awUnpack:unpackRes [99,50,32,99,117] [255,1,255]=([[45,49,32,49],[50,53,53]],true,0):=by kernel_rfl
theorem awB64:b64E [97,98]=[89,87,73,61]:=by kernel_rfl
theorem strs_new (w:World) (l:List Str):StrsAt (w.alloc (.cells (l.map fun x=>Value.string ⟨x.toArray⟩).toArray 9)) (.slice (some ⟨w.heap.size,0,none⟩) l.length l.length) l:=by
 refine ⟨_,_,rfl,Nat.le_refl _,fun i hi=>⟨_,rfl,by simp,?_⟩⟩
 rw [add_none,Nat.zero_add,Lib.cell_of_heap (heap_alloc_new _ _)]
 simp [hi]
set_option maxRecDepth 100000 in
set_option maxHeartbeats 2000000 in
theorem awake_fn (w:World) (htab:Tab w):Calls Tryz.prog 11 #[] w fun e w'=>e=.returned (.bool true)∧Below w.heap.size w w':=by
 have hp:Calls Tryz.prog 20 #[.string ⟨#[97,51,32,115,32,72,52]⟩,.slice (some ⟨w.heap.size,0,none⟩) 3 3] (w.alloc (.cells #[.string ⟨#[97,98]⟩,.string ⟨#[50,53,56]⟩,.string ⟨#[48,97,49,98]⟩] 9)) (PackQ [97,51,32,115,32,72,52] [[97,98],[50,53,56],[48,97,49,98]] (w.alloc (.cells #[.string ⟨#[97,98]⟩,.string ⟨#[50,53,56]⟩,.string ⟨#[48,97,49,98]⟩] 9))):=pack_fn [97,51,32,115,32,72,52] (by decide) [[97,98],[50,53,56],[48,97,49,98]] _ _ (strs_new w [[97,98],[50,53,56],[48,97,49,98]]) (by decide) (by decide)
 unfold PackQ at hp
 rw [awPack] at hp
 have HP:=hid hp
 have HT:=hid htab
 have HU:=hid (fun u (hu:Tab u)=>by have h:=unpack_fn [99,50,32,99,117] [255,1,255] (by decide) (by decide) u hu;unfold UnpackQ at h;rw [awUnpack] at h;exact h)
 have HB64:=hid (fun u=>by have h:=base64_fn [97,98] (by decide) u;rw [awB64] at h;exact h)
 clear hp htab
 go_enter Tryz.func11,Tryz.ntmps11
 go_wp2_with fail
 (with_reducible refine HP.out.mono ?_);rintro e w1 ⟨rfl,hb1⟩
 have HB1:=hid (show Below w.heap.size w w1 from (belowA _ _).trans (hb1.mono (by simp)))
 clear hb1 HP
 go_wp2_with fail
 (with_reducible refine (HU.out _ (HT.out.below HB1.out)).mono ?_);rintro e w2 ⟨v,rfl,hr2,hb2⟩
 have hs1:=HB1.out.size
 have HB2:=hid (HB1.out.trans (hb2.mono hs1))
 have hs2:=HB2.out.size
 have HR2:=hid hr2
 obtain ⟨a2,c2,he⟩:=hr2.shape
 subst he
 clear hb2 hr2 HU
 have HSM:=hid (sameG_fn (w:=w2.alloc (.cells #[.string ⟨#[45,49,32,49]⟩,.string ⟨#[50,53,53]⟩] 9)) (HR2.out.strs.below (belowA _ _)) (strs_new w2 [[45,49,32,49],[50,53,53]]) (by decide) (by decide))
 have HSM2:=hid (show Calls Tryz.prog 23 #[.slice a2 2 c2,.slice (some ⟨w2.heap.size,0,none⟩) 2 2] (w2.alloc (.cells #[.string ⟨#[45,49,32,49]⟩,.string ⟨#[50,53,53]⟩] 9)) fun e w'=>e=.returned (.bool true)∧Below (w2.heap.size+1) (w2.alloc (.cells #[.string ⟨#[45,49,32,49]⟩,.string ⟨#[50,53,53]⟩] 9)) w' from by
  have h:=HSM.out
  simp only [World.size_alloc,decide_true] at h
  exact h)
 clear HSM
 go_wp2_with (first|(go_at_call 23;refine HSM2.out.mono ?_;rintro e w3 ⟨rfl,hb3⟩;have HB3:=hid (HB2.out.trans ((belowA w2 (.cells #[.string ⟨#[45,49,32,49]⟩,.string ⟨#[50,53,53]⟩] 9)).mono hs2 |>.trans (hb3.mono (by omega))));clear hb3)|(go_at_call 41;refine (HB64.out _).mono ?_;rintro e w4 ⟨rfl,hb4⟩;have HB4:=hid (HB3.out.trans (hb4.mono HB3.out.size));clear hb4))
 go_ret
 exact ⟨rfl,HB4.out⟩
end Go.Proofs.YtihdndaibmgoiaaGreatDoor.Pz
