/-
  Part K18 of the proofs of this seat, merged by a program out of 4 texts; remarks are struck.
-/
import Derived.Test.YtbilphfbfnohmaaGreatDoorK17
import Derived.Test.YtbilphfbfnohmaaGreatDoorK11
namespace Go.Proofs.YtbilphfbfnohmaaGreatDoor.Pz
open Go.RowKit
def natCells (l:List Nat):List Value:=l.map fun n=>.int .i64 (n:Nat)
theorem natCells_app (a b:List Nat):natCells (a++b)=natCells a++natCells b:=by simp [natCells]
theorem natCells_one (a:List Nat):∀ u∈natCells a,u.oneCell'=true:=by
 intro u hu
 obtain ⟨s,_,rfl⟩:=List.mem_map.1 hu
 rfl
theorem natCells_set (l:List Nat) (i:Nat) (x:Nat):natCells (l.set i x)=(natCells l).set i (.int .i64 (x:Nat)):=by simp [natCells,List.map_set]
def RowN (B:Nat) (w:World) (v:Value) (l:List Nat):Prop:=w.ownsRow B 3 1 v l.length (natCells l)
theorem RowN.nil (B:Nat) (w:World):RowN B w (.slice none 0 0) []:=World.ownsRow_nil _ _ _ _
theorem RowN.lt {B:Nat} {w:World} {v:Value} {l:List Nat} (h:RowN B w v l):∀ g,v.ownBlock=some g→g<w.heap.size∧B≤g:=fun g hg=>⟨(ownsRow_lt h g hg).1,ownsRow_base h g hg⟩
theorem RowN.below {B C:Nat} {w w':World} {v:Value} {l:List Nat} (h:RowN B w v l) (hb:Below C w w') (hC:∀ g,v.ownBlock=some g→g<C):RowN B w' v l:=ownsRow_heap h fun g hg=>hb.block g (hC g hg)
theorem RowN.on {B:Nat} {w w':World} {v:Value} {l:List Nat} (h:RowN B w v l) (hb:Below w.heap.size w w'):RowN B w' v l:=h.below hb fun g hg=>(h.lt g hg).1
theorem RowN.grown {C:Nat} {w w':World} {v u:Value} {l:List Nat} (h:RowN C w u l) (hg:w.grownBy w' v.ownBlock) (hv:∀ g,v.ownBlock=some g→u.ownBlock≠some g):RowN C w' u l:=by
 refine ownsRow_heap h fun g hgu=>hg.block g (h.lt g hgu).1 fun e=>hv g e.symm hgu
theorem appN_one {w:World} {N:Nat} (hN:w.heap.size=N) {ops:Array Oper} {rest:List Oper} {o:Oper} {a:Act} {Q:Exit→Act→World→Prop} (hgd:o.guard=none) (s x:Operand)
  (ho:o.op=.call { callee:=.builtin .append,args:=#[s,x],argTypes:=#[57,57] }) (B:Nat) (v:Value) (l:List Nat) (q:Nat)
  (hs:a.eval s=v) (hown:RowN B w v l) (hx:a.eval x=.slice (some ⟨N,0,none⟩) 1 1) (hB:B≤w.heap.size) (hl:l.length≤10000000)
  (h:∀ v' w',RowN B w' v' (l++[q])→w.grownBy w' v.ownBlock→(∀ g,v'.ownBlock=some g→v.ownBlock=some g∨w.heap.size≤g)→wpList Tryz.prog ops Q rest (a.put o.dst v') w') :
  wpList Tryz.prog ops Q (o::rest) a (w.alloc (.cells #[.int .i64 (q:Nat)] 3)):=by
 obtain ⟨i0,hi,hz0,hz1,hz2⟩:=info_parts Tryz.infoInt
 subst hN
 have hown':(w.alloc (.cells #[.int .i64 (q:Nat)] 3)).ownsRow B 3 1 v l.length (natCells l):=World.ownsRow.alloc hown _
 refine wpList_append_own_at _ hgd s x 57 ho B 3 i0 (.int .i64 0) 1 8 Tryz.underlying57 hi hz0 hz1 hz2 rfl (by decide) v l.length (natCells l) hs hown' ⟨w.heap.size,0,none⟩ 1 1 [.int .i64 (q:Nat)] hx rfl (cell_one_new _ _ _) (natCells_one [q]) ?_ ?_ ?_ ?_
 ·unfold maxLen;omega
 ·omega
 ·simp;omega
 ·intro v' w' hrow hg _ hat
  refine h v' w' ?_ ?_ ?_
  ·show w'.ownsRow B 3 1 v' (l++[q]).length (natCells (l++[q]))
   rw [natCells_app,List.length_append]
   exact hrow
  ·refine ⟨hg.os,hg.tape,hg.output,?_,fun k hk hr=>?_⟩
   ·have:=hg.size;simp at this;omega
   ·rw [hg.block k (by simp;omega) hr]
    exact Below.heap_alloc _ _ _ (by omega)
  ·intro g hgv
   rcases hat with h2 | h2
   ·exact .inl (by rw [← h2];exact hgv)
   ·rw [h2] at hgv
    have:=Option.some.inj hgv
    simp at this
    exact .inr (by omega)
theorem RowN.shape {B:Nat} {w:World} {v:Value} {l:List Nat} (h:RowN B w v l):∃ a c,v=.slice a l.length c:=by
 rcases h.2 with ⟨rfl,h0⟩ | ⟨g,cap,cur,rfl,_⟩
 ·exact ⟨none,0,by rw [h0]⟩
 ·exact ⟨_,_,rfl⟩
theorem RowN.at {B:Nat} {w:World} {a:Option Addr} {n c:Nat} {l:List Nat} (h:RowN B w (.slice a n c) l) {i:Nat} (hi:i<l.length):∃ g,a=some ⟨g,0,none⟩∧n=l.length∧w.cell? ⟨g,i,none⟩=some (.int .i64 (l[i]:Nat)):=by
 rcases h.2 with ⟨_,h0⟩ | ⟨g,cap,cur,e,_⟩
 ·omega
 ·have hc:=World.ownsRow.cells h (show (Value.slice a n c).ownBlock=some g by rw [e];rfl) i (.int .i64 (l[i]:Nat)) (by simp [natCells,hi])
  simp only [Value.slice.injEq] at e
  rw [add_none,Nat.zero_add] at hc
  exact ⟨g,e.1,e.2.1,hc⟩
theorem RowN.mono {B C:Nat} {w:World} {v:Value} {l:List Nat} (h:RowN B w v l) (hb:C≤B):RowN C w v l:=by
 refine ⟨h.1,?_⟩
 rcases h.2 with hn | ⟨g,cap,cur,e,hB,rest⟩
 ·exact .inl hn
 ·exact .inr ⟨g,cap,cur,e,by omega,rest⟩
theorem RowN.stored {B:Nat} {w:World} {g n c:Nat} {l:List Nat} (h:RowN B w (.slice (some ⟨g,0,none⟩) n c) l) (i:Nat) (x:Nat) :
  RowN B (w.setCell ⟨g,i,none⟩ (.int .i64 (x:Nat))) (.slice (some ⟨g,0,none⟩) n c) (l.set i x)∧Below B w (w.setCell ⟨g,i,none⟩ (.int .i64 (x:Nat)))∧w.frozen? ⟨g,i,none⟩=false:=by
 have hn:n=l.length:=by
  obtain ⟨a',c',e⟩:=h.shape
  simp only [Value.slice.injEq] at e
  exact e.2.1
 have hr':=h
 unfold RowN at hr'
 rw [← hn] at hr'
 obtain ⟨s1,s2⟩:=World.ownsRow.stored hr' i (.int .i64 (x:Nat))
 obtain ⟨_,cur,hc⟩:=ownsRow_lt h g rfl
 refine ⟨?_,?_,Lib.frozen_of_heap hc i⟩
 ·show World.ownsRow _ _ _ _ _ _ _
  rw [natCells_set,List.length_set,← hn]
  exact s1
 ·refine ⟨rfl,rfl,rfl,by simp [World.setCell],fun k hk=>Below.heap_setCell _ _ _ _ ?_⟩
  have:=(h.lt g rfl).2
  intro e
  have:k=g:=e
  omega
def RowsAt (w:World) (v:Value) (rr:List (List Str)):Prop:=∃ a cap,v=.slice a rr.length cap∧∀ i (h:i<rr.length),∃ (b o:Nat) (u:Value),a=some ⟨b,o,none⟩∧b<w.heap.size∧w.cell? ⟨b,o+i,none⟩=some u∧StrsAt w u rr[i]
theorem RowsAt.below {w w':World} {v:Value} {rr:List (List Str)} (h:RowsAt w v rr) (hb:Below w.heap.size w w'):RowsAt w' v rr:=by
 obtain ⟨a,cap,rfl,h⟩:=h
 refine ⟨a,cap,rfl,fun i hi=>?_⟩
 obtain ⟨b,o,u,h1,h2,h3,h4⟩:=h i hi
 have:=hb.size
 exact ⟨b,o,u,h1,by omega,by rw [hb.cell (p:=⟨b,o+i,none⟩) h2];exact h3,h4.below hb⟩
def widRow:List Nat→List Str→List Nat
 | ws,[]=>ws
 | [],c::cs=>c.length::widRow [] cs
 | w::ws,c::cs=>max w c.length::widRow ws cs
def widAll (rr:List (List Str)):List Nat:=rr.foldl widRow []
def padRow:List Nat→Nat→List Str→Str
 | _,_,[]=>[]
 | _,_,[c]=>c
 | [],_,c::_::_=>c
 | w::ws,g,c::d::t=>c++(List.replicate (w-c.length+g) 32++padRow ws g (d::t))
def colsT (ws:List Nat) (g:Nat):List (List Str)→Str
 | []=>[]
 | r::rs=>padRow ws g r++10::colsT ws g rs
def colsE (rr:List (List Str)) (gap:Int):Str×Int:=
 if 0≤gap∧gap≤99 then (if (colsT (widAll rr) gap.toNat rr).length≤65536 then (colsT (widAll rr) gap.toNat rr,0) else ([],4)) else ([],7)
def Cov (ws:List Nat) (r:List Str):Prop:=∀ j (h:j<r.length),∃ w,ws[j]? = some w∧r[j].length≤w
theorem Cov.nil (ws:List Nat):Cov ws []:=fun _ h=>absurd h (Nat.not_lt_zero _)
theorem Cov.row:∀ (ws:List Nat) (r:List Str),Cov (widRow ws r) r
 | ws,[]=>Cov.nil _
 | [],c::cs=>fun j h=>by
  cases j with
  | zero=>exact ⟨_,rfl,Nat.le_refl _⟩
  | succ j=>exact Cov.row [] cs j (by simpa using h)
 | w::ws,c::cs=>fun j h=>by
  cases j with
  | zero=>exact ⟨_,rfl,Nat.le_max_right _ _⟩
  | succ j=>exact Cov.row ws cs j (by simpa using h)
theorem Cov.keep:∀ (ws:List Nat) (r s:List Str),Cov ws s→Cov (widRow ws r) s
 | ws,[],s,h=>by
  rw [widRow.eq_def]
  cases ws<;>exact h
 | [],c::cs,s,h=>fun j hj=>by
  obtain ⟨w,e,_⟩:=h j hj
  simp at e
 | w::ws,c::cs,s,h=>fun j hj=>by
  obtain ⟨x,e,hx⟩:=h j hj
  cases j with
  | zero=>
   have e:=Option.some.inj e
   exact ⟨_,rfl,Nat.le_trans hx (by rw [← e];exact Nat.le_max_left _ _)⟩
  | succ j=>
   cases s with
   | nil=>exact absurd hj (Nat.not_lt_zero _)
   | cons a t=>exact Cov.keep ws cs t (fun k hk=>h (k+1) (by simpa using hk)) j (by simpa using hj)
theorem cov_fold:∀ (rr:List (List Str)) (ws:List Nat) (r:List Str),(Cov ws r∨r∈rr)→Cov (rr.foldl widRow ws) r
 | [],ws,r,h=>h.resolve_right (by simp)
 | s::rr,ws,r,h=>by
  refine cov_fold rr (widRow ws s) r ?_
  rcases h with h | h
  ·exact .inl (Cov.keep ws s r h)
  ·rcases List.mem_cons.1 h with rfl | h
   ·exact .inl (Cov.row ws r)
   ·exact .inr h
theorem cov_all {rr:List (List Str)} {r:List Str} (h:r∈rr):Cov (widAll rr) r:=cov_fold rr [] r (.inr h)
theorem widRow_le (M:Nat):∀ (ws:List Nat) (r:List Str),(∀ w∈ws,w≤M)→(∀ c∈r,c.length≤M)→∀ w∈widRow ws r,w≤M
 | ws,[],h,_=>by
  rw [widRow.eq_def]
  cases ws<;>exact h
 | [],c::cs,h,hc=>fun w hw=>by
  rcases List.mem_cons.1 hw with rfl | k
  ·exact hc c (by simp)
  ·exact widRow_le M [] cs (by simp) (fun x hx=>hc x (List.mem_cons_of_mem _ hx)) w k
 | v::ws,c::cs,h,hc=>fun w hw=>by
  rcases List.mem_cons.1 hw with rfl | k
  ·exact Nat.max_le.2 ⟨h v (by simp),hc c (by simp)⟩
  ·exact widRow_le M ws cs (fun x hx=>h x (List.mem_cons_of_mem _ hx)) (fun x hx=>hc x (List.mem_cons_of_mem _ hx)) w k
theorem widAll_le (M:Nat):∀ (rr:List (List Str)) (ws:List Nat),(∀ w∈ws,w≤M)→(∀ r∈rr,∀ c∈r,c.length≤M)→∀ w∈rr.foldl widRow ws,w≤M
 | [],ws,h,_=>h
 | s::rr,ws,h,hc=>widAll_le M rr (widRow ws s) (widRow_le M ws s h (hc s (by simp))) (fun r hr=>hc r (List.mem_cons_of_mem _ hr))
theorem padRow_len (M g:Nat):∀ (ws:List Nat) (r:List Str),(∀ w∈ws,w≤M)→(∀ c∈r,c.length≤M)→(padRow ws g r).length≤r.length*(M+g)
 | ws,[],_,_=>by cases ws<;>exact Nat.zero_le _
 | ws,[c],_,hc=>by
  have h1:=hc c (by simp)
  have e:padRow ws g [c]=c:=by cases ws<;>rfl
  rw [e,List.length_singleton]
  omega
 | [],c::d::t,_,hc=>by
  have h1:=hc c (by simp)
  show c.length≤(t.length+1+1)*(M+g)
  rw [Nat.add_mul]
  omega
 | w::ws,c::d::t,h,hc=>by
  have ih:=padRow_len M g ws (d::t) (fun x hx=>h x (List.mem_cons_of_mem _ hx)) (fun x hx=>hc x (List.mem_cons_of_mem _ hx))
  have h1:=hc c (by simp)
  have h2:=h w (by simp)
  show (c++(List.replicate (w-c.length+g) 32++padRow ws g (d::t))).length≤((d::t).length+1)*(M+g)
  rw [List.length_append,List.length_append,List.length_replicate,Nat.add_mul]
  omega
def cellsN (rr:List (List Str)):Nat:=(rr.map fun r=>r.length+1).sum
theorem colsT_len (M g:Nat) (hM:1≤M) (ws:List Nat) (h:∀ w∈ws,w≤M):∀ rr:List (List Str),(∀ r∈rr,∀ c∈r,c.length≤M)→(colsT ws g rr).length≤cellsN rr*(M+g)
 | [],_=>Nat.zero_le _
 | r::rr,hc=>by
  have h1:=padRow_len M g ws r h (hc r (by simp))
  have h2:=colsT_len M g hM ws h rr (fun s hs=>hc s (List.mem_cons_of_mem _ hs))
  show (padRow ws g r++10::colsT ws g rr).length≤(r.length+1+cellsN rr)*(M+g)
  rw [List.length_append,List.length_cons,Nat.add_mul,Nat.add_mul]
  omega
end Go.Proofs.YtbilphfbfnohmaaGreatDoor.Pz
namespace Go.Proofs.YtbilphfbfnohmaaGreatDoor.Pz
open Go.RowKit
theorem limited_fn (s:Str) (hs:s.length≤1000000000) (w:World):Calls Tryz.prog 63 #[.string ⟨s.toArray⟩] w fun e w'=>e=.returned (.tuple #[.string ⟨(if s.length≤65536 then s else []).toArray⟩,.int .i64 (if s.length≤65536 then 0 else 4)])∧w'=w:=by
 have hsz:(⟨s.toArray⟩:ByteArray).size=s.length:=Lib.size_mk _
 by_cases h:s.length≤65536
 ·have hd:decide ((65536:Int)<(s.length:Int))=false:=decide_eq_false (by omega)
  have hd2:¬ (65536:Int)<(s.length:Int):=by omega
  rw [if_pos h,if_pos h]
  go_enter Tryz.func63,Tryz.ntmps63
  go_wp2_with fail
  go_ret2
  exact ⟨rfl,rfl⟩
 ·have hd:decide ((65536:Int)<(s.length:Int))=true:=decide_eq_true (by omega)
  have hd2:(65536:Int)<(s.length:Int):=by omega
  rw [if_neg h,if_neg h]
  go_enter Tryz.func63,Tryz.ntmps63
  go_wp2_with fail
  go_ret2
  exact ⟨rfl,rfl⟩
theorem padRow_nil (ws:List Nat) (g:Nat):padRow ws g []=[]:=by cases ws<;>rfl
theorem padRow_one (ws:List Nat) (g:Nat) (c:Str):padRow ws g [c]=c:=by cases ws<;>rfl
theorem dropC {α:Type} {l:List α} {i:Nat} (h:i<l.length):l.drop i=l[i]::l.drop (i+1):=List.drop_eq_getElem_cons h
theorem padRow_at {ws:List Nat} {g:Nat} {r:List Str} {j:Nat} (h:j+1<r.length) {x:Nat} (hx:ws[j]? = some x) :
  padRow (ws.drop j) g (r.drop j)=r[j]++(List.replicate (x-r[j].length+g) 32++padRow (ws.drop (j+1)) g (r.drop (j+1))):=by
 obtain ⟨hw,e⟩:=List.getElem?_eq_some_iff.1 hx
 rw [dropC (show j<r.length by omega),dropC h,dropC hw,e]
 rfl
theorem padRow_last {ws:List Nat} {g:Nat} {r:List Str} {j:Nat} (h:j+1=r.length):padRow (ws.drop j) g (r.drop j)=r[j]'(by omega):=by
 rw [dropC (show j<r.length by omega),List.drop_of_length_le (show r.length≤j+1 by omega),padRow_one]
theorem wid_new {W:List Nat} {r:List Str} {j:Nat} {done:List Nat} (h:widRow W r=done++widRow [] (r.drop j)) (hj:j<r.length):widRow W r=(done++[r[j].length])++widRow [] (r.drop (j+1)):=by
 rw [h,dropC hj,List.append_assoc]
 rfl
theorem wid_old {W:List Nat} {r:List Str} {j x:Nat} {done rest:List Nat} (h:widRow W r=done++widRow (x::rest) (r.drop j)) (hj:j<r.length):widRow W r=(done++[max x r[j].length])++widRow rest (r.drop (j+1)):=by
 rw [h,dropC hj,List.append_assoc]
 rfl
theorem set_mid (done rest:List Nat) (x y:Nat):(done++x::rest).set done.length y=(done++[y])++rest:=by
 induction done with
 | nil=>rfl
 | cons a t ih=>simp
theorem set_end (done:List Nat) (x y:Nat):(done++[x]).set done.length y=(done++[y])++[]:=set_mid done [] x y
theorem widRow_nil (W:List Nat):widRow W []=W:=by cases W<;>rfl
set_option maxRecDepth 100000 in
set_option maxHeartbeats 8000000 in
theorem columnsP_fn {rr:List (List Str)} {v:Value} (w:World) (hv:RowsAt w v rr) (hn:rr.length≤100000) (hr:∀ r∈rr,r.length≤100000) (hc:∀ r∈rr,∀ c∈r,c.length≤100000) (hT:∀ g,g≤99→(colsT (widAll rr) g rr).length≤1000000) (gap:Int) :
  Calls Tryz.prog 22 #[v,.int .i64 gap] w fun e w'=>e=.returned (.tuple #[.string ⟨(colsE rr gap).1.toArray⟩,.int .i64 (colsE rr gap).2])∧Below w.heap.size w w':=by
 have HWI:=hid (within_fn gap 0 99)
 by_cases h:0≤gap∧gap≤99
 ·obtain ⟨g,rfl⟩:∃ g:Nat,gap=(g:Nat):=⟨gap.toNat,by omega⟩
  have hg:g≤99:=by omega
  have hE:colsE rr (g:Int)=if (colsT (widAll rr) g rr).length≤65536 then (colsT (widAll rr) g rr,0) else ([],4):=if_pos h
  rw [hE]
  have hT9:=hT g hg
  obtain ⟨WA,hWA⟩:∃ WA,WA=widAll rr:=⟨_,rfl⟩
  have hcov:∀ r∈rr,Cov WA r:=fun r h=>by rw [hWA];exact cov_all h
  have hwm:∀ x∈WA,x≤100000:=by rw [hWA];exact widAll_le 100000 rr [] (by simp) hc
  rw [← hWA] at hT9 ⊢
  obtain ⟨TOT,hTOT⟩:∃ TOT,TOT=colsT WA g rr:=⟨_,rfl⟩
  rw [← hTOT] at hT9 ⊢
  have HTOT:=hid hTOT
  obtain ⟨RES,hRES⟩:∃ RES,RES=(if TOT.length≤65536 then (TOT,(0:Int)) else ([],4)):=⟨_,rfl⟩
  rw [← hRES]
  have HRES0:=hid hRES
  have HWA:=hid (show WA=(rr.drop 0).foldl widRow [] from hWA)
  have HCOV:=hid hcov
  have HWM:=hid hwm
  have HR:=hid hr
  have HC:=hid hc
  have HV:=hid hv
  have hv2:=hv
  obtain ⟨av,cv,rfl,-⟩:=hv2
  have d1:decide ((0:Int)≤(g:Int))=true:=decide_eq_true (by omega)
  have d2:decide ((g:Int)≤99)=true:=decide_eq_true (by omega)
  clear hTOT hWA hcov hwm hE h hv hr hc hT hRES
  go_enter Tryz.func22,Tryz.ntmps22
  go_wp2_with ((with_reducible refine (HWI.out _).mono ?_);rintro e w0 ⟨rfl,hw0⟩;replace hw0:=hw0.symm;subst hw0)
  go_loopg [6,21] (rr.length+1) (fun k ov iv wr=>∃ (i:Nat) (W:List Nat),iv=.int .i64 (i:Nat)∧RowN w.heap.size wr ov W∧Below w.heap.size w wr∧WA=(rr.drop i).foldl widRow W∧W.length≤100000∧i≤rr.length∧k=rr.length+1-i)
  case atStart=>exact ⟨0,[],rfl,RowN.nil _ _,Below.refl _ _,HWA.out,by simp,Nat.zero_le _,rfl⟩
  case round=>
   obtain ⟨i,W,rfl,hrow,hbl,hwa,hwl,hi,rfl⟩:=hrel
   have HROW:=hid hrow
   have HBL:=hid hbl
   have HWAI:=hid hwa
   obtain ⟨ao,co,hov⟩:=hrow.shape
   subst hov
   by_cases hin:i<rr.length
   ·have hinI:(i:Int)<(rr.length:Int):=by omega
    obtain ⟨_,_,e0,hcells⟩:=HV.out
    simp only [Value.slice.injEq] at e0
    obtain ⟨e1,-,e2⟩:=e0
    subst e1
    subst e2
    obtain ⟨vb,vo,u,hav,hvlt,hcu0,hsu⟩:=hcells i hin
    subst hav
    have hcu:wr.cell? ⟨vb,vo+i,none⟩=some u:=by rw [hbl.cell (p:=⟨vb,vo+i,none⟩) hvlt];exact hcu0
    have hrm:rr[i]∈rr:=List.getElem_mem hin
    have hrl:=HR.out _ hrm
    have hcl:=HC.out _ hrm
    have HWAJ:=hid (show WA=(rr.drop (i+1)).foldl widRow (widRow W rr[i]) from by rw [HWAI.out,dropC hin];rfl)
    generalize rr[i]=r at hsu hrl hcl HWAJ
    obtain ⟨au,cu,hue,-⟩:=strsAt_off hsu
    subst hue
    have HSU:=hid hsu
    have HCL:=hid hcl
    have hkk:rr.length+1-(i+1)<rr.length+1-i:=by omega
    clear hrow hbl hwa hcells hsu hcl HWAI hrm hcu0
    go_wp2_with fail
    go_loopg [6,27] (r.length+1) (fun k ov iv w2=>∃ (j:Nat) (done rest:List Nat),iv=.int .i64 (j:Nat)∧RowN w.heap.size w2 ov (done++rest)∧Below w.heap.size w w2∧done.length=j∧widRow W r=done++widRow rest (r.drop j)∧j≤r.length∧(done++rest).length≤100000∧k=r.length+1-j)
    case atStart=>exact ⟨0,[],W,rfl,HROW.out,HBL.out,rfl,rfl,Nat.zero_le _,hwl,rfl⟩
    case round=>
     obtain ⟨j,done,rest,rfl,hrow,hbl,hdj,hwr,hj,hdl,rfl⟩:=hrel
     subst hdj
     have HROW2:=hid hrow
     have HBL2:=hid hbl
     have hBr:=hbl.size
     by_cases hjr:done.length<r.length
     ·have hjrI:(done.length:Int)<(r.length:Int):=by omega
      have hsu2:=HSU.out.below hbl
      obtain ⟨_,_,e0,hx⟩:=strsAt_off hsu2
      simp only [Value.slice.injEq] at e0
      obtain ⟨e1,-,e2⟩:=e0
      subst e1
      subst e2
      obtain ⟨xb,xo,hxa,hxc⟩:=hx done.length hjr
      subst hxa
      have hcl9:=HCL.out r[done.length] (List.getElem_mem hjr)
      have hkk2:r.length+1-(done.length+1)<r.length+1-done.length:=by omega
      have hdn:done.length≤10000000:=by omega
      cases rest with
      | nil=>
       have HN:=hid (wid_new hwr hjr)
       generalize r[done.length]=c at hxc hcl9 HN
       have hcz:(⟨c.toArray⟩:ByteArray).size=c.length:=Lib.size_mk _
       have hmax:max (0:Int) (c.length:Int)=(c.length:Nat):=by omega
       rw [List.append_nil] at hrow
       obtain ⟨a2,c2,hov⟩:=hrow.shape
       subst hov
       have HROW3:=hid hrow
       have hl9:(done++[0]).length=done.length+1:=by simp
       clear hrow hbl hwr hx hsu2 hdl HROW2
       go_wp2_with (at_builtin;refine appN_one rfl rfl (.tmp 36) (.tmp 37) rfl w.heap.size _ _ 0 rfl HROW3.out rfl hBr hdn ?_;intro v9 w9 hr9 hg9 hv9;obtain ⟨a9,c9,e9⟩:=hr9.shape;rw [hl9] at e9;subst e9;obtain ⟨g9,ha9,-,hc9⟩:=hr9.at (i:=done.length) (by simp);subst ha9;rw [List.getElem_append_right (Nat.le_refl _)] at hc9;simp only [Nat.sub_self,List.getElem_cons_zero] at hc9;have hst:=hr9.stored done.length c.length;have hfz:=hst.2.2;have HST:=hid hst;have HBL9:=hid (HBL2.out.grown hg9 hBr (fun k hk=>(HROW3.out.lt k hk).2));have hxc9:=HBL9.out;clear hr9 hg9 hv9 hst hxc9)
       go_roundg (r.length+1-(done.length+1))
       case measure=>exact hkk2
       case rel=>exact ⟨done.length+1,done++[c.length],[],by go_num,by have h:=HST.out.1;rw [set_end] at h;exact h,HBL9.out.trans HST.out.2.1,by simp,HN.out,by omega,by simp;omega,rfl⟩
      | cons x rest=>
       have HN:=hid (wid_old hwr hjr)
       generalize r[done.length]=c at hxc hcl9 HN
       have hcz:(⟨c.toArray⟩:ByteArray).size=c.length:=Lib.size_mk _
       have hmax:max (x:Int) (c.length:Int)=((max x c.length:Nat):Int):=by omega
       obtain ⟨a2,c2,hov⟩:=hrow.shape
       subst hov
       obtain ⟨g2,hg2,-,hc2⟩:=hrow.at (i:=done.length) (by simp)
       subst hg2
       rw [List.getElem_append_right (Nat.le_refl _)] at hc2
       simp only [Nat.sub_self,List.getElem_cons_zero] at hc2
       have hst:=hrow.stored done.length (max x c.length)
       obtain ⟨L,hL⟩:∃ L,L=(done++x::rest).length:=⟨_,rfl⟩
       have hL2:done.length<L:=by rw [hL];simp
       have hLI:(done.length:Int)<(L:Int):=by omega
       have heq:((done.length:Int) == (L:Int))=false:=by rw [beq_eq_false_iff_ne];omega
       have heq2:¬ ((done.length:Int)=(L:Int)):=by omega
       rw [← hL] at hst hdl ⊢
       have hfz:=hst.2.2
       have HST:=hid hst
       have HLL:=hid hL
       clear hrow hbl hwr hx hsu2 hst HROW2 hL
       go_wp2
       go_roundg (r.length+1-(done.length+1))
       case measure=>exact hkk2
       case rel=>exact ⟨done.length+1,done++[max x c.length],rest,by go_num,by have h:=HST.out.1;rw [set_mid] at h;exact h,HBL2.out.trans HST.out.2.1,by simp,HN.out,by omega,by have h:=HLL.out;simp at h ⊢;omega,rfl⟩
     ·have hjrI:¬ (done.length:Int)<(r.length:Int):=by omega
      have hW2:widRow W r=done++rest:=by rw [hwr,List.drop_of_length_le (by omega),widRow_nil]
      have HWN:=hid (show WA=(rr.drop (i+1)).foldl widRow (done++rest) from by rw [← hW2];exact HWAJ.out)
      obtain ⟨a2,c2,hov⟩:=hrow.shape
      subst hov
      obtain ⟨L,hL⟩:∃ L,L=(done++rest).length:=⟨_,rfl⟩
      rw [← hL] at HROW2 hdl ⊢
      have HL:=hid hL
      clear hrow hbl hwr hW2 hL
      go_wp2
      go_roundg (rr.length+1-(i+1))
      case measure=>exact hkk
      case rel=>exact ⟨i+1,done++rest,by go_num,HROW2.out,HBL2.out,HWN.out,by rw [← HL.out];exact hdl,by omega,rfl⟩
   ·have hinI:¬ (i:Int)<(rr.length:Int):=by omega
    have hWW:WA=W:=by
     have h:=hwa
     rw [List.drop_of_length_le (by omega)] at h
     exact h
    subst hWW
    clear hrow hbl hwa HWAI
    obtain ⟨b,hb⟩:∃ b,b=wr.heap.size:=⟨_,rfl⟩
    have hbs:w.heap.size≤b:=by rw [hb];exact HBL.out.size
    obtain ⟨w4,hw4⟩:∃ w4,w4=wr.alloc (.cells #[.pointer none,.slice none 0 0] 73):=⟨_,rfl⟩
    have HBD:=hid (show Bld w4 b [] by rw [hw4,hb];exact Bld.new wr)
    have HW4:=hid (show Below b wr w4 by rw [hw4,hb];exact belowS _ _)
    have HBB:=hid (show b=wr.heap.size from hb)
    have HWW4:=hid hw4
    clear hw4
    go_wp2_with fail
    rw [← HWW4.out,← HBB.out]
    clear hb
    go_loopg [53] (rr.length+1) (fun k iv w5=>∃ (i:Nat) (T:Str),iv=.int .i64 (i:Nat)∧Bld w5 b T∧Below b w4 w5∧TOT=T++colsT WA g (rr.drop i)∧i≤rr.length∧k=rr.length+1-i)
    case atStart=>exact ⟨0,[],rfl,HBD.out,Below.refl _ _,HTOT.out,Nat.zero_le _,rfl⟩
    case round=>
     obtain ⟨i,T,rfl,hbd,hkp,htot,hi,rfl⟩:=hrel
     have HBD5:=hid hbd
     have HKP:=hid hkp
     have hBw:=HBL.out.trans ((HW4.out.trans hkp).mono hbs)
     have hTl:T.length≤1000000:=by have h:=congrArg List.length htot;rw [List.length_append] at h;omega
     by_cases hin:i<rr.length
     ·have hinI:(i:Int)<(rr.length:Int):=by omega
      obtain ⟨_,_,e0,hcells⟩:=HV.out
      simp only [Value.slice.injEq] at e0
      obtain ⟨e1,-,e2⟩:=e0
      subst e1
      subst e2
      obtain ⟨vb,vo,u,hav,hvlt,hcu0,hsu⟩:=hcells i hin
      subst hav
      have hcu:wr.cell? ⟨vb,vo+i,none⟩=some u:=by rw [hBw.cell (p:=⟨vb,vo+i,none⟩) hvlt];exact hcu0
      have hrm:rr[i]∈rr:=List.getElem_mem hin
      have hrl:=HR.out _ hrm
      have hcl:=HC.out _ hrm
      have hcv:=HCOV.out _ hrm
      obtain ⟨REST,hREST⟩:∃ REST,REST=colsT WA g (rr.drop (i+1)):=⟨_,rfl⟩
      have HTJ:=hid (show TOT=T++(padRow (WA.drop 0) g (rr[i].drop 0)++10::REST) from by rw [htot,dropC hin,hREST];rfl)
      have HREST:=hid hREST
      generalize rr[i]=r at hsu hrl hcl hcv HTJ
      obtain ⟨au,cu,hue,-⟩:=strsAt_off hsu
      subst hue
      have HSU:=hid hsu
      have HCL:=hid hcl
      have HCV:=hid hcv
      have hkk:rr.length+1-(i+1)<rr.length+1-i:=by omega
      clear hbd hkp htot hcells hsu hcl hcv hrm hcu0 hREST hBw
      go_wp2_with fail
      go_loopg [59] (r.length+1) (fun k iv w6=>∃ (j:Nat) (T2:Str),iv=.int .i64 (j:Nat)∧Bld w6 b T2∧Below b w4 w6∧TOT=T2++(padRow (WA.drop j) g (r.drop j)++10::REST)∧j≤r.length∧k=r.length+1-j)
      case atStart=>exact ⟨0,T,rfl,HBD5.out,HKP.out,HTJ.out,Nat.zero_le _,rfl⟩
      case round=>
       obtain ⟨j,T2,rfl,hbd,hkp,htot,hj,rfl⟩:=hrel
       have HBD6:=hid hbd
       have HKP6:=hid hkp
       have hBw:=HBL.out.trans ((HW4.out.trans hkp).mono hbs)
       have hT2l:T2.length≤1000000:=by have h:=congrArg List.length htot;rw [List.length_append] at h;omega
       by_cases hjr:j<r.length
       ·have hjrI:(j:Int)<(r.length:Int):=by omega
        have hsu2:=HSU.out.below hBw
        obtain ⟨_,_,e0,hx⟩:=strsAt_off hsu2
        simp only [Value.slice.injEq] at e0
        obtain ⟨e1,-,e2⟩:=e0
        subst e1
        subst e2
        obtain ⟨xb,xo,hxa,hxc⟩:=hx j hjr
        subst hxa
        have hcl9:=HCL.out r[j] (List.getElem_mem hjr)
        have hkk2:r.length+1-(j+1)<r.length+1-j:=by omega
        by_cases hlast:j+1<r.length
        ·obtain ⟨x,hxw,hxl⟩:=HCV.out j hjr
         have hx9:=HWM.out x (List.mem_of_getElem? hxw)
         obtain ⟨hjw,hxe⟩:=List.getElem?_eq_some_iff.1 hxw
         have hrn:=HROW.out.below (HW4.out.trans hkp) (fun k hk=>by rw [HBB.out];exact (HROW.out.lt k hk).1)
         obtain ⟨gw,hgw,-,hcw⟩:=hrn.at hjw
         subst hgw
         have hgwlt:gw<b:=by rw [HBB.out];exact (HROW.out.lt gw rfl).1
         rw [hxe] at hcw
         have hjwI:(j:Int)<(WA.length:Int):=by omega
         have htot2:=htot
         rw [padRow_at hlast hxw] at htot2
         generalize r[j]=c at hxc hcl9 hxl htot2
         have hcz:(⟨c.toArray⟩:ByteArray).size=c.length:=Lib.size_mk _
         have hNI:(x:Int)-(c.length:Int)+(g:Int)=((x-c.length+g:Nat):Int):=by omega
         obtain ⟨N,hN⟩:∃ N,N=x-c.length+g:=⟨_,rfl⟩
         rw [← hN] at hNI htot2
         have hN9:N≤1000000:=by omega
         have hlastI:(j:Int)<(r.length:Int)-1:=by omega
         have HTT:=hid (show TOT=((T2++c)++List.replicate N 32)++(padRow (WA.drop (j+1)) g (r.drop (j+1))++10::REST) from by rw [htot2];simp)
         have hlen2:((T2++c)++List.replicate N 32).length≤1000000:=by have h:=congrArg List.length HTT.out;rw [List.length_append] at h;omega
         have hlen1:(T2++c).length≤1000000:=by rw [List.length_append] at hlen2;omega
         have hlen3:T2.length+c.length≤1000000:=by rw [← List.length_append];exact hlen1
         have HREP:=hid (fun u=>repeat_fn 32 rfl N hN9 u)
         obtain ⟨spc,hspc⟩:∃ spc,spc=List.replicate N (32:UInt8):=⟨_,rfl⟩
         have hspl:spc.length≤1000000:=by rw [hspc];simp;omega
         rw [← hspc] at HREP HTT hlen2
         have HWS:=hid (wstr_fn hbd c (by omega))
         clear hbd hkp htot htot2 hx hsu2 hBw hrn hxw hspc hN hxe
         by_cases hbig:65536<((T2++c)++spc).length
         ·have HRES:=hid (show RES=([],4) from by rw [HRES0.out];exact if_neg (by have h:=congrArg List.length HTT.out;rw [List.length_append] at h;omega))
          obtain ⟨no,hno⟩:∃ no,no=((T2++c)++spc).length:=⟨_,rfl⟩
          have hnod:decide ((65536:Int)<(no:Int))=true:=decide_eq_true (by omega)
          have hno2:(65536:Int)<(no:Int):=by omega
          have HNO:=hid hno
          clear hno hbig hlen1 hlen2
          go_wp2_with (first|(go_at_call 48;first|(refine HWS2.out.mono ?_;rintro e w9 ⟨rfl,hbd9,hk9⟩;have HBD9:=hid hbd9;have HB9:=hid (HB8.out.trans hk9.1);have hln:=len_fn hbd9;rw [← HNO.out] at hln;have HLN:=hid hln;clear hbd9 hk9 hln)|(refine HWS.out.mono ?_;rintro e w7 ⟨rfl,hbd7,hk7⟩;have HBD7:=hid hbd7;have HB7:=hid (HKP6.out.trans hk7.1);have hcw7:w7.cell? ⟨gw,j,none⟩=some (.int .i64 (x:Nat)):=by { rw [hk7.1.cell (p:=⟨gw,j,none⟩) hgwlt];exact hcw };clear hbd7 hk7))|(go_at_call 58;(with_reducible refine (HREP.out _).mono ?_);rintro e w8 ⟨rfl,hb8⟩;have HBD8:=hid (HBD7.out.below hb8);have HB8:=hid (HB7.out.trans (hb8.mono (Nat.le_of_lt HBD7.out.lt)));have HWS2:=hid (wstr_fn HBD8.out spc (by rw [List.length_append];omega));clear hb8)|(go_at_call 51;refine HLN.out.mono ?_;rintro e w10 ⟨rfl,hw10⟩;replace hw10:=hw10.symm;subst hw10))
          go_ret2
          exact ⟨by rw [HRES.out];rfl,HBL.out.trans ((HW4.out.trans HB9.out).mono hbs)⟩
         ·obtain ⟨no,hno⟩:∃ no,no=((T2++c)++spc).length:=⟨_,rfl⟩
          have hnod:decide ((65536:Int)<(no:Int))=false:=decide_eq_false (by omega)
          have hno2:¬ (65536:Int)<(no:Int):=by omega
          have HNO:=hid hno
          clear hno hbig hlen1 hlen2
          go_wp2_with (first|(go_at_call 48;first|(refine HWS2.out.mono ?_;rintro e w9 ⟨rfl,hbd9,hk9⟩;have HBD9:=hid hbd9;have HB9:=hid (HB8.out.trans hk9.1);have hln:=len_fn hbd9;rw [← HNO.out] at hln;have HLN:=hid hln;clear hbd9 hk9 hln)|(refine HWS.out.mono ?_;rintro e w7 ⟨rfl,hbd7,hk7⟩;have HBD7:=hid hbd7;have HB7:=hid (HKP6.out.trans hk7.1);have hcw7:w7.cell? ⟨gw,j,none⟩=some (.int .i64 (x:Nat)):=by { rw [hk7.1.cell (p:=⟨gw,j,none⟩) hgwlt];exact hcw };clear hbd7 hk7))|(go_at_call 58;(with_reducible refine (HREP.out _).mono ?_);rintro e w8 ⟨rfl,hb8⟩;have HBD8:=hid (HBD7.out.below hb8);have HB8:=hid (HB7.out.trans (hb8.mono (Nat.le_of_lt HBD7.out.lt)));have HWS2:=hid (wstr_fn HBD8.out spc (by rw [List.length_append];omega));clear hb8)|(go_at_call 51;refine HLN.out.mono ?_;rintro e w10 ⟨rfl,hw10⟩;replace hw10:=hw10.symm;subst hw10))
          go_roundg (r.length+1-(j+1))
          case measure=>exact hkk2
          case rel=>exact ⟨j+1,_,by go_num,HBD9.out,HB9.out,HTT.out,by omega,rfl⟩
        ·have htot2:=htot
         rw [padRow_last (show j+1=r.length by omega)] at htot2
         generalize r[j]=c at hxc hcl9 htot2
         have hcz:(⟨c.toArray⟩:ByteArray).size=c.length:=Lib.size_mk _
         have hlastI:¬ (j:Int)<(r.length:Int)-1:=by omega
         have HTT:=hid (show TOT=(T2++c)++(padRow (WA.drop (j+1)) g (r.drop (j+1))++10::REST) from by rw [htot2,List.drop_of_length_le (show r.length≤j+1 by omega),padRow_nil];simp)
         have hlen1:(T2++c).length≤1000000:=by have h:=congrArg List.length HTT.out;rw [List.length_append] at h;omega
         have hlen3:T2.length+c.length≤1000000:=by rw [← List.length_append];exact hlen1
         have HWS:=hid (wstr_fn hbd c (by omega))
         clear hbd hkp htot htot2 hx hsu2 hBw
         by_cases hbig:65536<(T2++c).length
         ·have HRES:=hid (show RES=([],4) from by rw [HRES0.out];exact if_neg (by have h:=congrArg List.length HTT.out;rw [List.length_append] at h;omega))
          obtain ⟨no,hno⟩:∃ no,no=(T2++c).length:=⟨_,rfl⟩
          have hnod:decide ((65536:Int)<(no:Int))=true:=decide_eq_true (by omega)
          have hno2:(65536:Int)<(no:Int):=by omega
          have HNO:=hid hno
          clear hno hbig hlen1
          go_wp2_with (first|(go_at_call 48;refine HWS.out.mono ?_;rintro e w7 ⟨rfl,hbd7,hk7⟩;have HBD7:=hid hbd7;have HB7:=hid (HKP6.out.trans hk7.1);have hln:=len_fn hbd7;rw [← HNO.out] at hln;have HLN:=hid hln;clear hbd7 hk7 hln)|(go_at_call 51;refine HLN.out.mono ?_;rintro e w10 ⟨rfl,hw10⟩;replace hw10:=hw10.symm;subst hw10))
          go_ret2
          exact ⟨by rw [HRES.out];rfl,HBL.out.trans ((HW4.out.trans HB7.out).mono hbs)⟩
         ·obtain ⟨no,hno⟩:∃ no,no=(T2++c).length:=⟨_,rfl⟩
          have hnod:decide ((65536:Int)<(no:Int))=false:=decide_eq_false (by omega)
          have hno2:¬ (65536:Int)<(no:Int):=by omega
          have HNO:=hid hno
          clear hno hbig hlen1
          go_wp2_with (first|(go_at_call 48;refine HWS.out.mono ?_;rintro e w7 ⟨rfl,hbd7,hk7⟩;have HBD7:=hid hbd7;have HB7:=hid (HKP6.out.trans hk7.1);have hln:=len_fn hbd7;rw [← HNO.out] at hln;have HLN:=hid hln;clear hbd7 hk7 hln)|(go_at_call 51;refine HLN.out.mono ?_;rintro e w10 ⟨rfl,hw10⟩;replace hw10:=hw10.symm;subst hw10))
          go_roundg (r.length+1-(j+1))
          case measure=>exact hkk2
          case rel=>exact ⟨j+1,_,by go_num,HBD7.out,HB7.out,HTT.out,by omega,rfl⟩
       ·have hjrI:¬ (j:Int)<(r.length:Int):=by omega
        have HTT:=hid (show TOT=(T2++[10])++REST from by rw [htot,List.drop_of_length_le (show r.length≤j by omega),padRow_nil];simp)
        have HWB:=hid (show Calls Tryz.prog 49 #[.pointer (some ⟨b,0,none⟩),.int .u8 10] wr fun e w'=>e=.returned .nilIface∧Bld w' b (T2++[10])∧Kept b wr w' from wbyte_fn hbd 10 (by omega))
        clear hbd hkp htot hBw
        go_wp2_with (go_at_call 49;refine HWB.out.mono ?_;rintro e w7 ⟨rfl,hbd7,hk7⟩;have HBD7:=hid hbd7;have HB7:=hid (HKP6.out.trans hk7.1);clear hbd7 hk7)
        go_roundg (rr.length+1-(i+1))
        case measure=>exact hkk
        case rel=>exact ⟨i+1,T2++[10],by go_num,HBD7.out,HB7.out,by rw [← HREST.out];exact HTT.out,by omega,rfl⟩
     ·have hinI:¬ (i:Int)<(rr.length:Int):=by omega
      have htt:TOT=T:=by
       have h:=htot
       rw [List.drop_of_length_le (by omega)] at h
       rw [h]
       exact List.append_nil _
      have HTT:=hid htt
      have HST:=hid (str_fn hbd)
      have HLM:=hid (fun u=>limited_fn T (by omega) u)
      by_cases hle:T.length≤65536
      ·rw [if_pos hle,if_pos hle] at HLM
       have HRES:=hid (show RES=(T,0) from by rw [HRES0.out,htt];exact if_pos hle)
       clear hbd hkp htot htt hBw hle
       go_wp2_with (first|(go_at_call 52;refine HST.out.mono ?_;rintro e w7 ⟨rfl,hbd7,hk7⟩;have HB7:=hid (HKP.out.trans hk7.1);clear hbd7 hk7)|(go_at_call 63;refine (HLM.out _).mono ?_;rintro e w8 ⟨rfl,hw8⟩;replace hw8:=hw8.symm;subst hw8))
       go_ret2
       exact ⟨by rw [HRES.out];rfl,HBL.out.trans ((HW4.out.trans HB7.out).mono hbs)⟩
      ·rw [if_neg hle,if_neg hle] at HLM
       have HRES:=hid (show RES=([],4) from by rw [HRES0.out,htt];exact if_neg hle)
       clear hbd hkp htot htt hBw hle
       go_wp2_with (first|(go_at_call 52;refine HST.out.mono ?_;rintro e w7 ⟨rfl,hbd7,hk7⟩;have HB7:=hid (HKP.out.trans hk7.1);clear hbd7 hk7)|(go_at_call 63;refine (HLM.out _).mono ?_;rintro e w8 ⟨rfl,hw8⟩;replace hw8:=hw8.symm;subst hw8))
       go_ret2
       exact ⟨by rw [HRES.out];rfl,HBL.out.trans ((HW4.out.trans HB7.out).mono hbs)⟩
 ·have hE:colsE rr gap=([],7):=if_neg h
  rw [hE]
  obtain ⟨av,cv,rfl,-⟩:=hv
  by_cases h1:0≤gap
  ·have d1:decide ((0:Int)≤gap)=true:=decide_eq_true h1
   have d2:decide (gap≤99)=false:=decide_eq_false (by omega)
   clear h hE hr hc hT
   go_enter Tryz.func22,Tryz.ntmps22
   go_wp2_with ((with_reducible refine (HWI.out _).mono ?_);rintro e w1 ⟨rfl,rfl⟩)
   go_ret2
   exact ⟨rfl,Below.refl _ _⟩
  ·have d1:decide ((0:Int)≤gap)=false:=decide_eq_false h1
   clear h hE hr hc hT
   go_enter Tryz.func22,Tryz.ntmps22
   go_wp2_with ((with_reducible refine (HWI.out _).mono ?_);rintro e w1 ⟨rfl,rfl⟩)
   go_ret2
   exact ⟨rfl,Below.refl _ _⟩
set_option maxRecDepth 100000 in
set_option maxHeartbeats 8000000 in
theorem columnsR_fn {rr:List (List Str)} {v:Value} (w:World) (hv:RowsAt w v rr) (hn:rr.length≤100000) (hr:∀ r∈rr,r.length≤100000) (hc:∀ r∈rr,∀ c∈r,c.length≤100000) (hT:∀ g,g≤99→(colsT (widAll rr) g rr).length≤1000000) (gap:Int) :
  Calls Tryz.prog 23 #[v,.int .i64 gap] w fun e w'=>e=.returned (.tuple #[.string ⟨(colsE rr gap).1.toArray⟩,.int .i64 (colsE rr gap).2])∧Below w.heap.size w w':=by
 by_cases h:0≤gap∧gap≤99
 ·obtain ⟨g,rfl⟩:∃ g:Nat,gap=(g:Nat):=⟨gap.toNat,by omega⟩
  have hg:g≤99:=by omega
  have hE:colsE rr (g:Int)=if (colsT (widAll rr) g rr).length≤65536 then (colsT (widAll rr) g rr,0) else ([],4):=if_pos h
  rw [hE]
  have hT9:=hT g hg
  obtain ⟨WA,hWA⟩:∃ WA,WA=widAll rr:=⟨_,rfl⟩
  have hcov:∀ r∈rr,Cov WA r:=fun r h=>by rw [hWA];exact cov_all h
  have hwm:∀ x∈WA,x≤100000:=by rw [hWA];exact widAll_le 100000 rr [] (by simp) hc
  rw [← hWA] at hT9 ⊢
  obtain ⟨TOT,hTOT⟩:∃ TOT,TOT=colsT WA g rr:=⟨_,rfl⟩
  rw [← hTOT] at hT9 ⊢
  have HTOT:=hid hTOT
  obtain ⟨RES,hRES⟩:∃ RES,RES=(if TOT.length≤65536 then (TOT,(0:Int)) else ([],4)):=⟨_,rfl⟩
  rw [← hRES]
  have HRES0:=hid hRES
  have HWA:=hid (show WA=(rr.drop 0).foldl widRow [] from hWA)
  have HCOV:=hid hcov
  have HWM:=hid hwm
  have HR:=hid hr
  have HC:=hid hc
  have HV:=hid hv
  have hv2:=hv
  obtain ⟨av,cv,rfl,-⟩:=hv2
  have d1:decide ((g:Int)<(0:Int))=false:=decide_eq_false (by omega)
  have d2:decide ((99:Int)<(g:Int))=false:=decide_eq_false (by omega)
  clear hTOT hWA hcov hwm hE h hv hr hc hT hRES
  go_enter Tryz.func23,Tryz.ntmps23
  go_wp2_with fail
  go_loopg [6,24] (rr.length+1) (fun k ov iv wr=>∃ (i:Nat) (W:List Nat),iv=.int .i64 (i:Nat)∧RowN w.heap.size wr ov W∧Below w.heap.size w wr∧WA=(rr.drop i).foldl widRow W∧W.length≤100000∧i≤rr.length∧k=rr.length+1-i)
  case atStart=>exact ⟨0,[],rfl,RowN.nil _ _,Below.refl _ _,HWA.out,by simp,Nat.zero_le _,rfl⟩
  case round=>
   obtain ⟨i,W,rfl,hrow,hbl,hwa,hwl,hi,rfl⟩:=hrel
   have HROW:=hid hrow
   have HBL:=hid hbl
   have HWAI:=hid hwa
   obtain ⟨ao,co,hov⟩:=hrow.shape
   subst hov
   by_cases hin:i<rr.length
   ·have hinI:(i:Int)<(rr.length:Int):=by omega
    obtain ⟨_,_,e0,hcells⟩:=HV.out
    simp only [Value.slice.injEq] at e0
    obtain ⟨e1,-,e2⟩:=e0
    subst e1
    subst e2
    obtain ⟨vb,vo,u,hav,hvlt,hcu0,hsu⟩:=hcells i hin
    subst hav
    have hcu:wr.cell? ⟨vb,vo+i,none⟩=some u:=by rw [hbl.cell (p:=⟨vb,vo+i,none⟩) hvlt];exact hcu0
    have hrm:rr[i]∈rr:=List.getElem_mem hin
    have hrl:=HR.out _ hrm
    have hcl:=HC.out _ hrm
    have HWAJ:=hid (show WA=(rr.drop (i+1)).foldl widRow (widRow W rr[i]) from by rw [HWAI.out,dropC hin];rfl)
    generalize rr[i]=r at hsu hrl hcl HWAJ
    obtain ⟨au,cu,hue,-⟩:=strsAt_off hsu
    subst hue
    have HSU:=hid hsu
    have HCL:=hid hcl
    have hkk:rr.length+1-(i+1)<rr.length+1-i:=by omega
    clear hrow hbl hwa hcells hsu hcl HWAI hrm hcu0
    go_wp2_with fail
    go_loopg [6,30] (r.length+1) (fun k ov iv w2=>∃ (j:Nat) (done rest:List Nat),iv=.int .i64 (j:Nat)∧RowN w.heap.size w2 ov (done++rest)∧Below w.heap.size w w2∧done.length=j∧widRow W r=done++widRow rest (r.drop j)∧j≤r.length∧(done++rest).length≤100000∧k=r.length+1-j)
    case atStart=>exact ⟨0,[],W,rfl,HROW.out,HBL.out,rfl,rfl,Nat.zero_le _,hwl,rfl⟩
    case round=>
     obtain ⟨j,done,rest,rfl,hrow,hbl,hdj,hwr,hj,hdl,rfl⟩:=hrel
     subst hdj
     have HROW2:=hid hrow
     have HBL2:=hid hbl
     have hBr:=hbl.size
     by_cases hjr:done.length<r.length
     ·have hjrI:(done.length:Int)<(r.length:Int):=by omega
      have hsu2:=HSU.out.below hbl
      obtain ⟨_,_,e0,hx⟩:=strsAt_off hsu2
      simp only [Value.slice.injEq] at e0
      obtain ⟨e1,-,e2⟩:=e0
      subst e1
      subst e2
      obtain ⟨xb,xo,hxa,hxc⟩:=hx done.length hjr
      subst hxa
      have hcl9:=HCL.out r[done.length] (List.getElem_mem hjr)
      have hkk2:r.length+1-(done.length+1)<r.length+1-done.length:=by omega
      have hdn:done.length≤10000000:=by omega
      cases rest with
      | nil=>
       have HN:=hid (wid_new hwr hjr)
       generalize r[done.length]=c at hxc hcl9 HN
       have hcz:(⟨c.toArray⟩:ByteArray).size=c.length:=Lib.size_mk _
       have hmax:max (0:Int) (c.length:Int)=(c.length:Nat):=by omega
       rw [List.append_nil] at hrow
       obtain ⟨a2,c2,hov⟩:=hrow.shape
       subst hov
       have HROW3:=hid hrow
       have hl9:(done++[0]).length=done.length+1:=by simp
       clear hrow hbl hwr hx hsu2 hdl HROW2
       go_wp2_with (at_builtin;refine appN_one rfl rfl (.tmp 39) (.tmp 40) rfl w.heap.size _ _ 0 rfl HROW3.out rfl hBr hdn ?_;intro v9 w9 hr9 hg9 hv9;obtain ⟨a9,c9,e9⟩:=hr9.shape;rw [hl9] at e9;subst e9;obtain ⟨g9,ha9,-,hc9⟩:=hr9.at (i:=done.length) (by simp);subst ha9;rw [List.getElem_append_right (Nat.le_refl _)] at hc9;simp only [Nat.sub_self,List.getElem_cons_zero] at hc9;have hst:=hr9.stored done.length c.length;have hfz:=hst.2.2;have HST:=hid hst;have HBL9:=hid (HBL2.out.grown hg9 hBr (fun k hk=>(HROW3.out.lt k hk).2));have hxc9:=HBL9.out;clear hr9 hg9 hv9 hst hxc9)
       go_roundg (r.length+1-(done.length+1))
       case measure=>exact hkk2
       case rel=>exact ⟨done.length+1,done++[c.length],[],by go_num,by have h:=HST.out.1;rw [set_end] at h;exact h,HBL9.out.trans HST.out.2.1,by simp,HN.out,by omega,by simp;omega,rfl⟩
      | cons x rest=>
       have HN:=hid (wid_old hwr hjr)
       generalize r[done.length]=c at hxc hcl9 HN
       have hcz:(⟨c.toArray⟩:ByteArray).size=c.length:=Lib.size_mk _
       have hmax:max (x:Int) (c.length:Int)=((max x c.length:Nat):Int):=by omega
       obtain ⟨a2,c2,hov⟩:=hrow.shape
       subst hov
       obtain ⟨g2,hg2,-,hc2⟩:=hrow.at (i:=done.length) (by simp)
       subst hg2
       rw [List.getElem_append_right (Nat.le_refl _)] at hc2
       simp only [Nat.sub_self,List.getElem_cons_zero] at hc2
       have hst:=hrow.stored done.length (max x c.length)
       obtain ⟨L,hL⟩:∃ L,L=(done++x::rest).length:=⟨_,rfl⟩
       have hL2:done.length<L:=by rw [hL];simp
       have hLI:(done.length:Int)<(L:Int):=by omega
       have heq:((done.length:Int) == (L:Int))=false:=by rw [beq_eq_false_iff_ne];omega
       have heq2:¬ ((done.length:Int)=(L:Int)):=by omega
       rw [← hL] at hst hdl ⊢
       have hfz:=hst.2.2
       have HST:=hid hst
       have HLL:=hid hL
       clear hrow hbl hwr hx hsu2 hst HROW2 hL
       go_wp2
       go_roundg (r.length+1-(done.length+1))
       case measure=>exact hkk2
       case rel=>exact ⟨done.length+1,done++[max x c.length],rest,by go_num,by have h:=HST.out.1;rw [set_mid] at h;exact h,HBL2.out.trans HST.out.2.1,by simp,HN.out,by omega,by have h:=HLL.out;simp at h ⊢;omega,rfl⟩
     ·have hjrI:¬ (done.length:Int)<(r.length:Int):=by omega
      have hW2:widRow W r=done++rest:=by rw [hwr,List.drop_of_length_le (by omega),widRow_nil]
      have HWN:=hid (show WA=(rr.drop (i+1)).foldl widRow (done++rest) from by rw [← hW2];exact HWAJ.out)
      obtain ⟨a2,c2,hov⟩:=hrow.shape
      subst hov
      obtain ⟨L,hL⟩:∃ L,L=(done++rest).length:=⟨_,rfl⟩
      rw [← hL] at HROW2 hdl ⊢
      have HL:=hid hL
      clear hrow hbl hwr hW2 hL
      go_wp2
      go_roundg (rr.length+1-(i+1))
      case measure=>exact hkk
      case rel=>exact ⟨i+1,done++rest,by go_num,HROW2.out,HBL2.out,HWN.out,by rw [← HL.out];exact hdl,by omega,rfl⟩
   ·have hinI:¬ (i:Int)<(rr.length:Int):=by omega
    have hWW:WA=W:=by
     have h:=hwa
     rw [List.drop_of_length_le (by omega)] at h
     exact h
    subst hWW
    clear hrow hbl hwa HWAI
    obtain ⟨w4,hw4⟩:∃ w4,w4=wr:=⟨_,rfl⟩
    rw [← hw4] at HROW HBL ⊢
    clear hw4
    obtain ⟨b,hb⟩:∃ b,b=w4.heap.size:=⟨_,rfl⟩
    have hbs:w.heap.size≤b:=by rw [hb];exact HBL.out.size
    have HW4:=hid (Below.refl b w4)
    have HBB:=hid hb
    clear hb
    go_wp2_with fail
    go_loopg [11,56] (rr.length+1) (fun k sv iv w5=>∃ (i:Nat) (T:Str),sv=.string ⟨T.toArray⟩∧iv=.int .i64 (i:Nat)∧Below b w4 w5∧TOT=T++colsT WA g (rr.drop i)∧T.length≤65536∧i≤rr.length∧k=rr.length+1-i)
    case atStart=>exact ⟨0,[],rfl,rfl,Below.refl _ _,HTOT.out,by simp,Nat.zero_le _,rfl⟩
    case round=>
     obtain ⟨i,T,rfl,rfl,hkp,htot,hT6,hi,rfl⟩:=hrel
     have HKP:=hid hkp
     have hBw:=HBL.out.trans ((HW4.out.trans hkp).mono hbs)
     by_cases hin:i<rr.length
     ·have hinI:(i:Int)<(rr.length:Int):=by omega
      obtain ⟨_,_,e0,hcells⟩:=HV.out
      simp only [Value.slice.injEq] at e0
      obtain ⟨e1,-,e2⟩:=e0
      subst e1
      subst e2
      obtain ⟨vb,vo,u,hav,hvlt,hcu0,hsu⟩:=hcells i hin
      subst hav
      have hcu:wr.cell? ⟨vb,vo+i,none⟩=some u:=by rw [hBw.cell (p:=⟨vb,vo+i,none⟩) hvlt];exact hcu0
      have hrm:rr[i]∈rr:=List.getElem_mem hin
      have hrl:=HR.out _ hrm
      have hcl:=HC.out _ hrm
      have hcv:=HCOV.out _ hrm
      obtain ⟨REST,hREST⟩:∃ REST,REST=colsT WA g (rr.drop (i+1)):=⟨_,rfl⟩
      have HTJ:=hid (show TOT=T++(padRow (WA.drop 0) g (rr[i].drop 0)++10::REST) from by rw [htot,dropC hin,hREST];rfl)
      have HREST:=hid hREST
      generalize rr[i]=r at hsu hrl hcl hcv HTJ
      obtain ⟨au,cu,hue,-⟩:=strsAt_off hsu
      subst hue
      have HSU:=hid hsu
      have HCL:=hid hcl
      have HCV:=hid hcv
      have hkk:rr.length+1-(i+1)<rr.length+1-i:=by omega
      clear hkp htot hcells hsu hcl hcv hrm hcu0 hREST hBw
      go_wp2_with fail
      go_loopg [11,62] (r.length+1) (fun k sv iv w6=>∃ (j:Nat) (T2:Str),sv=.string ⟨T2.toArray⟩∧iv=.int .i64 (j:Nat)∧Below b w4 w6∧TOT=T2++(padRow (WA.drop j) g (r.drop j)++10::REST)∧j≤r.length∧k=r.length+1-j)
      case atStart=>exact ⟨0,T,rfl,rfl,HKP.out,HTJ.out,Nat.zero_le _,rfl⟩
      case round=>
       obtain ⟨j,T2,rfl,rfl,hkp,htot,hj,rfl⟩:=hrel
       have HKP6:=hid hkp
       have hBw:=HBL.out.trans ((HW4.out.trans hkp).mono hbs)
       have hbwr:b≤wr.heap.size:=by rw [HBB.out];exact hkp.size
       have hT2l:T2.length≤1000000:=by have h:=congrArg List.length htot;rw [List.length_append] at h;omega
       by_cases hjr:j<r.length
       ·have hjrI:(j:Int)<(r.length:Int):=by omega
        have hsu2:=HSU.out.below hBw
        obtain ⟨_,_,e0,hx⟩:=strsAt_off hsu2
        simp only [Value.slice.injEq] at e0
        obtain ⟨e1,-,e2⟩:=e0
        subst e1
        subst e2
        obtain ⟨xb,xo,hxa,hxc⟩:=hx j hjr
        subst hxa
        have hcl9:=HCL.out r[j] (List.getElem_mem hjr)
        have hkk2:r.length+1-(j+1)<r.length+1-j:=by omega
        by_cases hlast:j+1<r.length
        ·obtain ⟨x,hxw,hxl⟩:=HCV.out j hjr
         have hx9:=HWM.out x (List.mem_of_getElem? hxw)
         obtain ⟨hjw,hxe⟩:=List.getElem?_eq_some_iff.1 hxw
         have hrn:=HROW.out.below (HW4.out.trans hkp) (fun k hk=>by rw [HBB.out];exact (HROW.out.lt k hk).1)
         obtain ⟨gw,hgw,-,hcw⟩:=hrn.at hjw
         subst hgw
         have hgwlt:gw<b:=by rw [HBB.out];exact (HROW.out.lt gw rfl).1
         rw [hxe] at hcw
         have hjwI:(j:Int)<(WA.length:Int):=by omega
         have htot2:=htot
         rw [padRow_at hlast hxw] at htot2
         generalize r[j]=c at hxc hcl9 hxl htot2
         have hcz:(⟨c.toArray⟩:ByteArray).size=c.length:=Lib.size_mk _
         have hNI:(x:Int)-(c.length:Int)+(g:Int)=((x-c.length+g:Nat):Int):=by omega
         obtain ⟨N,hN⟩:∃ N,N=x-c.length+g:=⟨_,rfl⟩
         rw [← hN] at hNI htot2
         have hN9:N≤1000000:=by omega
         have hlastI:(j:Int)<(r.length:Int)-1:=by omega
         have HTT:=hid (show TOT=((T2++c)++List.replicate N 32)++(padRow (WA.drop (j+1)) g (r.drop (j+1))++10::REST) from by rw [htot2];simp)
         have hlen2:((T2++c)++List.replicate N 32).length≤1000000:=by have h:=congrArg List.length HTT.out;rw [List.length_append] at h;omega
         have hlen1:(T2++c).length≤1000000:=by rw [List.length_append] at hlen2;omega
         have hlen3:T2.length+c.length≤1000000:=by rw [← List.length_append];exact hlen1
         have HREP:=hid (fun u=>repeat_fn 32 rfl N hN9 u)
         obtain ⟨spc,hspc⟩:∃ spc,spc=List.replicate N (32:UInt8):=⟨_,rfl⟩
         have hspl:spc.length≤1000000:=by rw [hspc];simp;omega
         rw [← hspc] at HREP HTT hlen2
         have hct1:=cat_run T2 c (by omega) (by omega)
         have hct2:=cat_run (T2++c) spc (by omega) (by omega)
         clear hkp htot htot2 hx hsu2 hBw hrn hxw hspc hN hxe hlen1 hlen2
         go_wp2_with (go_at_call 58;(with_reducible refine (HREP.out _).mono ?_);rintro e w8 ⟨rfl,hb8⟩;have HB8:=hid (HKP6.out.trans (hb8.mono hbwr));clear hb8)
         go_roundg (r.length+1-(j+1))
         case measure=>exact hkk2
         case rel=>exact ⟨j+1,(T2++c)++spc,by rw [List.append_assoc],by go_num,HB8.out,HTT.out,by omega,rfl⟩
        ·have htot2:=htot
         rw [padRow_last (show j+1=r.length by omega)] at htot2
         generalize r[j]=c at hxc hcl9 htot2
         have hcz:(⟨c.toArray⟩:ByteArray).size=c.length:=Lib.size_mk _
         have hlastI:¬ (j:Int)<(r.length:Int)-1:=by omega
         have HTT:=hid (show TOT=(T2++c)++(padRow (WA.drop (j+1)) g (r.drop (j+1))++10::REST) from by rw [htot2,List.drop_of_length_le (show r.length≤j+1 by omega),padRow_nil];simp)
         have hlen1:(T2++c).length≤1000000:=by have h:=congrArg List.length HTT.out;rw [List.length_append] at h;omega
         have hlen3:T2.length+c.length≤1000000:=by rw [← List.length_append];exact hlen1
         have hct1:=cat_run T2 c (by omega) (by omega)
         clear hkp htot htot2 hx hsu2 hBw hlen1
         go_wp2
         go_roundg (r.length+1-(j+1))
         case measure=>exact hkk2
         case rel=>exact ⟨j+1,T2++c,rfl,by go_num,HKP6.out,HTT.out,by omega,rfl⟩
       ·have hjrI:¬ (j:Int)<(r.length:Int):=by omega
        have hTT:TOT=(T2++[10])++REST:=by rw [htot,List.drop_of_length_le (show r.length≤j by omega),padRow_nil];simp
        have hct:∀ u,(Op.stringOp .add ⟨T2.toArray⟩ ⟨#[10]⟩).run Tryz.prog u=.ok (.string ⟨(T2++[10]).toArray⟩) u:=fun u=>cat_run T2 [10] (by omega) (by simp) u
        obtain ⟨T3,hT3⟩:∃ T3,T3=T2++[10]:=⟨_,rfl⟩
        rw [← hT3] at hTT hct
        have hT3z:(⟨T3.toArray⟩:ByteArray).size=T3.length:=Lib.size_mk _
        have hT3l:T3.length≤1000000:=by have h:=congrArg List.length hTT;rw [List.length_append] at h;omega
        have HTT:=hid hTT
        by_cases hbig:65536<T3.length
        ·have HRES:=hid (show RES=([],4) from by rw [HRES0.out];exact if_neg (by have h:=congrArg List.length HTT.out;rw [List.length_append] at h;omega))
         have hd:decide ((65536:Int)<(T3.length:Int))=true:=decide_eq_true (by omega)
         have hd2:(65536:Int)<(T3.length:Int):=by omega
         clear hkp htot hBw hT3 hTT
         go_wp2
         go_ret2
         exact ⟨by rw [HRES.out];rfl,HBL.out.trans ((HW4.out.trans HKP6.out).mono hbs)⟩
        ·have hd:decide ((65536:Int)<(T3.length:Int))=false:=decide_eq_false (by omega)
         have hd2:¬ (65536:Int)<(T3.length:Int):=by omega
         clear hkp htot hBw hT3 hTT
         go_wp2
         go_roundg (rr.length+1-(i+1))
         case measure=>exact hkk
         case rel=>exact ⟨i+1,T3,rfl,by go_num,HKP6.out,by rw [← HREST.out];exact HTT.out,by omega,by omega,rfl⟩
     ·have hinI:¬ (i:Int)<(rr.length:Int):=by omega
      have htt:TOT=T:=by
       have h:=htot
       rw [List.drop_of_length_le (by omega)] at h
       rw [h]
       exact List.append_nil _
      have HRES:=hid (show RES=(T,0) from by rw [HRES0.out,htt];exact if_pos hT6)
      clear hkp htot htt hBw
      go_wp2
      go_ret2
      exact ⟨by rw [HRES.out];rfl,HBL.out.trans ((HW4.out.trans HKP.out).mono hbs)⟩
 ·have hE:colsE rr gap=([],7):=if_neg h
  rw [hE]
  obtain ⟨av,cv,rfl,-⟩:=hv
  by_cases h1:0≤gap
  ·have d1:decide (gap<(0:Int))=false:=decide_eq_false (by omega)
   have d2:decide ((99:Int)<gap)=true:=decide_eq_true (by omega)
   clear h hE hr hc hT
   go_enter Tryz.func23,Tryz.ntmps23
   go_wp2_with fail
   go_ret2
   exact ⟨rfl,Below.refl _ _⟩
  ·have d1:decide (gap<(0:Int))=true:=decide_eq_true (by omega)
   clear h hE hr hc hT
   go_enter Tryz.func23,Tryz.ntmps23
   go_wp2_with fail
   go_ret2
   exact ⟨rfl,Below.refl _ _⟩
end Go.Proofs.YtbilphfbfnohmaaGreatDoor.Pz
namespace Go.Proofs.YtbilphfbfnohmaaGreatDoor.Pz
open Go.RowKit
def bulkR:List (List Str)→Nat
 | []=>0
 | r::rr=>(sumT r+r.length+1)+bulkR rr
theorem bulkR_mem:∀ (rr:List (List Str)) (r:List Str),r∈rr→sumT r+r.length+1≤bulkR rr
 | [],_,h=>by cases h
 | s::rr,r,h=>by
  rw [bulkR]
  rcases List.mem_cons.1 h with rfl | k
  ·omega
  ·have:=bulkR_mem rr r k;omega
theorem bulkR_cells:∀ rr:List (List Str),cellsN rr≤bulkR rr∧rr.length≤bulkR rr
 | []=>⟨Nat.le_refl _,Nat.le_refl _⟩
 | s::rr=>by
  have h:=bulkR_cells rr
  rw [bulkR]
  simp only [cellsN,List.map_cons,List.sum_cons,List.length_cons] at *
  omega
theorem cellsN_app (a b:List (List Str)):cellsN (a++b)=cellsN a+cellsN b:=by simp [cellsN]
theorem cellsN_take (rr:List (List Str)) (i:Nat) (h:i<rr.length):cellsN (rr.take (i+1))=cellsN (rr.take i)+(rr[i].length+1):=by
 rw [List.take_succ_eq_append_getElem h,cellsN_app]
 rfl
theorem cellsN_le (rr:List (List Str)):∀ i,cellsN (rr.take i)≤cellsN rr:=by
 intro i
 have h:cellsN rr=cellsN (rr.take i)+cellsN (rr.drop i):=by
  rw [← cellsN_app,List.take_append_drop]
 omega
theorem cellsN_len:∀ rr:List (List Str),rr.length≤cellsN rr
 | []=>Nat.le_refl _
 | r::rr=>by
  have:=cellsN_len rr
  simp only [cellsN,List.map_cons,List.sum_cons,List.length_cons] at *
  omega
theorem lightB_true {z:Int} {l:List Str} (h:lightB z l=true):(sumT l:Int)≤z∧l.length≤60:=by
 unfold lightB at h
 rw [Bool.and_eq_true] at h
 exact ⟨of_decide_eq_true h.1,of_decide_eq_true h.2⟩
set_option maxRecDepth 1000000 in
set_option maxHeartbeats 4000000 in
theorem spellColumns_fn (rr:List (List Str)) (v:Value) (gap:Int) (w:World) (hv:RowsAt w v rr) (hbulk:bulkR rr≤4000000) :
  Calls Tryz.prog 5 #[v,.int .i64 gap] w fun e w'=>e=.returned (.bool true)∧Below w.heap.size w w':=by
 have HA:=hid awake_fn
 have HV:=hid hv
 have hv2:=hv
 obtain ⟨av,cv,rfl,-⟩:=hv2
 obtain ⟨hcl,hrl⟩:=bulkR_cells rr
 have HBM:=hid (bulkR_mem rr)
 have hcl4:cellsN rr≤4000000:=by omega
 have hrl4:rr.length≤4000000:=by omega
 have HLE:=hid (cellsN_le rr)
 have HTK:=hid (cellsN_take rr)
 have HBU:=hid hbulk
 clear hv hcl hrl hbulk
 go_enter Tryz.func5,Tryz.ntmps5
 go_wp2_with fail
 go_loopg [5,14] (rr.length+1) (fun k nv iv wr=>∃ (i m:Nat),nv=.int .i64 (m:Nat)∧iv=.int .i64 (i:Nat)∧wr=w∧m=cellsN (rr.take i)∧(∀ r∈rr.take i,lightB 400 r=true)∧i≤rr.length∧k=rr.length+1-i)
 case atStart=>exact ⟨0,0,rfl,rfl,rfl,rfl,by simp,Nat.zero_le _,rfl⟩
 case round=>
  obtain ⟨i,m,rfl,rfl,hw,hm,hall,hi,rfl⟩:=hrel
  replace hw:=hw.symm
  subst hw
  have hm4:m≤4000000:=by have:=HLE.out i;omega
  by_cases hin:i<rr.length
  ·have hinI:(i:Int)<(rr.length:Int):=by omega
   obtain ⟨_,_,e0,hcells⟩:=HV.out
   simp only [Value.slice.injEq] at e0
   obtain ⟨e1,-,e2⟩:=e0
   subst e1
   subst e2
   obtain ⟨vb,vo,u,hav,hvlt,hcu,hsu⟩:=hcells i hin
   subst hav
   have hbm:=HBM.out _ (List.getElem_mem hin)
   have hbu:=HBU.out
   have HLF:=hid (light_fn 400 hsu (by omega) (by omega))
   obtain ⟨bl,hbl⟩:∃ bl,bl=lightB 400 rr[i]:=⟨_,rfl⟩
   rw [← hbl] at HLF
   have htk:=HTK.out i hin
   have hall2:bl=true→∀ r∈rr.take (i+1),lightB 400 r=true:=fun hb r hr=>by
    rw [List.take_succ_eq_append_getElem hin] at hr
    rcases List.mem_append.1 hr with h | h
    ·exact hall r h
    ·rw [List.mem_singleton.1 h,← hbl];exact hb
   have HALL2:=hid hall2
   have hkk:rr.length+1-(i+1)<rr.length+1-i:=by omega
   obtain ⟨au,cu,hue,-⟩:=strsAt_off hsu
   subst hue
   obtain ⟨L,hL⟩:∃ L,L=rr[i].length:=⟨_,rfl⟩
   rw [← hL] at HLF hcu htk hbm
   have hL4:L≤4000000:=by omega
   have HTK2:=hid (show m+(L+1)=cellsN (rr.take (i+1)) by omega)
   clear hcells hsu hall hall2 hbl htk hbm hbu hL hm
   cases bl with
   | false=>
    go_wp2_with (first|(go_at_call 21;(with_reducible refine HLF.out.mono ?_);rintro e w2 ⟨rfl,hw2⟩;replace hw2:=hw2.symm;subst hw2)|(go_at_call 12;refine (HA.out _).mono ?_;rintro e w3 ⟨rfl,hb3⟩;have HB3:=hid hb3;clear hb3))
    go_ret
    exact ⟨rfl,HB3.out⟩
   | true=>
    go_wp2_with (go_at_call 21;(with_reducible refine HLF.out.mono ?_);rintro e w2 ⟨rfl,hw2⟩;replace hw2:=hw2.symm;subst hw2)
    go_roundg (rr.length+1-(i+1))
    case measure=>exact hkk
    case rel=>exact ⟨i+1,m+(L+1),by go_num,by go_num,rfl,HTK2.out,by first | exact HALL2.out rfl | exact HALL2.out trivial,by omega,rfl⟩
  ·obtain rfl:i=rr.length:=by omega
   have hinI:¬ (rr.length:Int)<(rr.length:Int):=by omega
   rw [List.take_length] at hm hall
   by_cases hbig:200<m
   ·have hd:decide ((200:Int)<(m:Int))=true:=decide_eq_true (by omega)
    have hd2:(200:Int)<(m:Int):=by omega
    clear hm hall
    go_wp2_with (go_at_call 12;refine (HA.out _).mono ?_;rintro e w3 ⟨rfl,hb3⟩;have HB3:=hid hb3;clear hb3)
    go_ret
    exact ⟨rfl,HB3.out⟩
   ·have hd:decide ((200:Int)<(m:Int))=false:=decide_eq_false (by omega)
    have hd2:¬ (200:Int)<(m:Int):=by omega
    have hr60:∀ r∈rr,r.length≤100000:=fun r h=>by have:=(lightB_true (hall r h)).2;omega
    have hc400:∀ r∈rr,∀ c∈r,c.length≤400:=fun r h c hc=>by
     have h1:=(lightB_true (hall r h)).1
     have h2:=sumT_mem r c hc
     omega
    have hrr:rr.length≤100000:=by have:=cellsN_len rr;omega
    have hT:∀ g,g≤99→(colsT (widAll rr) g rr).length≤1000000:=fun g hg=>by
     have h1:=colsT_len 400 g (by omega) (widAll rr) (widAll_le 400 rr [] (by simp) hc400) rr hc400
     have h2:cellsN rr*(400+g)≤200*499:=Nat.mul_le_mul (by omega) (by omega)
     omega
    have hc5:∀ r∈rr,∀ c∈r,c.length≤100000:=fun r h c hc=>by have:=hc400 r h c hc;omega
    have H1:=hid (columnsP_fn w HV.out hrr hr60 hc5 hT gap)
    have H2:=hid (fun u (hu:RowsAt u (.slice av rr.length cv) rr)=>columnsR_fn u hu hrr hr60 hc5 hT gap)
    obtain ⟨p,hp⟩:∃ p,p=colsE rr gap:=⟨_,rfl⟩
    rw [← hp] at H1 H2
    obtain ⟨t1,z1⟩:=p
    clear hm hall hr60 hc400 hrr hT hc5 hp
    go_wp2_with (first|(go_at_call 22;refine H1.out.mono ?_;rintro e w1 ⟨rfl,hb1⟩;have HB1:=hid hb1;clear hb1)|(go_at_call 23;refine (H2.out _ (HV.out.below HB1.out)).mono ?_;rintro e w2 ⟨rfl,hb2⟩;have HB2:=hid (HB1.out.trans (hb2.mono HB1.out.size));clear hb2)|(go_at_call 12;refine (HA.out _).mono ?_;rintro e w3 ⟨rfl,hb3⟩;have HB3:=hid (HB2.out.trans (hb3.mono HB2.out.size));clear hb3))
    go_ret
    exact ⟨rfl,HB3.out⟩
end Go.Proofs.YtbilphfbfnohmaaGreatDoor.Pz
namespace Go.Proofs.YtbilphfbfnohmaaGreatDoor.Opn
open Go.ChangeMaps Go.ChangeShapes Go.WideShapes Go.ChangeAt Go.RowKit
section
variable {P:Program} {H:Type} {enc:TypeId×Value→H} {W:World}
theorem rows_list (Q:Nat→List Pz.Str→Prop):∀ (elems:List (DataW H×List MemPlace)) (k:Nat),(∀ i y,elems[i]? = some y→∃ a,Q (k+i) a∧Pz.sumT a+a.length+1≤Rows.uptoBulk y.1)→
  ∃ al:List (List Pz.Str),al.length=elems.length∧(∀ i (h:i<al.length),Q (k+i) al[i])∧Pz.bulkR al≤Rows.uptoBulkAll (elems.map (·.1))
 | [],k,_=>⟨[],rfl,fun i h=>absurd h (Nat.not_lt_zero _),Nat.zero_le _⟩
 | y::elems,k,h=>by
  obtain ⟨a,ha,hb⟩:=h 0 y rfl
  obtain ⟨al,h1,h2,h3⟩:=rows_list Q elems (k+1) (fun i z hz=>by
   obtain ⟨a,q1,q2⟩:=h (i+1) z hz
   exact ⟨a,by rw [show k+1+i=k+(i+1) by omega];exact q1,q2⟩)
  refine ⟨a::al,by simp [h1],fun i hi=>?_,?_⟩
  ·cases i with
   | zero=>exact ha
   | succ i=>
    have:=h2 i (by simpa using hi)
    rw [show k+1+i=k+(i+1) by omega] at this
    exact this
  ·show (Pz.sumT a+a.length+1)+Pz.bulkR al≤Rows.uptoBulk y.1+Rows.uptoBulkAll (elems.map (·.1))
   omega
theorem strs_in {ts tl:TypeId} (hl:P.underlying tl=some (.slice ts)) (hs:P.underlying ts=some .string) (hcs:P.cellsOf ts=1) {m:Nat} {c:Value} {x:DataW H×List MemPlace}
  (h:DataW.trod enc P W 0 (fun _=>true) true m tl [c]=some x) (hlt:∀ q∈x.2,q.block<W.heap.size):∃ l,Pz.StrsAt W c l∧Pz.sumT l+l.length+1≤Rows.uptoBulk x.1:=by
 rcases open_strings hl hs hcs h with ⟨hc,hx⟩ | ⟨a,len,cap,ss,hc,_,hle,hm,hz,hx,hcell,hws⟩
 ·simp only [List.cons.injEq,and_true] at hc
  subst hc
  subst hx
  exact ⟨[],⟨none,0,rfl,Nat.le_refl _,fun i hi=>absurd hi (Nat.not_lt_zero _)⟩,Nat.le_refl _⟩
 ·simp only [List.cons.injEq,and_true] at hc
  subst hc
  subst hx
  simp only [if_true] at hz
  have hln:((ss.take len).map (·.data.toList)).length=len:=by rw [List.length_map,List.length_take];omega
  refine ⟨(ss.take len).map (·.data.toList),⟨some a,cap,by rw [hln],by rw [hln];exact hle,fun i hi=>⟨a,rfl,?_,?_⟩⟩,?_⟩
  ·rw [hln] at hi
   exact blk_lt (n:=ss.length) hlt (by omega) (hcell 0 (by omega))
  ·rw [hcell i (by rw [hln] at hi;omega),getD_data ss len i hi]
  ·simp only [Rows.uptoBulk]
   rw [bulk_strs,bulk_strs,List.length_map]
   omega
theorem opened_rows {t ts tl:TypeId} (ht:P.underlying t=some (.slice tl)) (hcl:P.cellsOf tl=1) (hl:P.underlying tl=some (.slice ts)) (hs:P.underlying ts=some .string) (hcs:P.cellsOf ts=1)
  {r:Reach} {b0:Nat} {v:Value} {d:DataW H} {p:List MemPlace} (hv:Value.okWide P W r b0 t v) (h:DataW.Trod enc P W 0 (fun _=>true) true t v d p) (hlt:∀ x∈p,x.block<W.heap.size) :
  ∃ rr,Pz.RowsAt W v rr∧Pz.bulkR rr≤Rows.uptoBulk d∧True:=by
 obtain ⟨a1,n1,c1,rfl⟩:=okWide_slice ht hv
 obtain ⟨fuel,hf⟩:=h
 rcases DataW.trod_slice ht hf with ⟨hcs',hx⟩ | ⟨a,len,cap,elems,rest,n,_,hcs',hx,hb,hle,hm,hlen,hel,hsp,hns⟩
 ·simp [Value.cells] at hcs'
  obtain ⟨rfl,rfl,rfl⟩:=hcs'
  exact ⟨[],⟨none,0,rfl,fun i hi=>absurd hi (Nat.not_lt_zero _)⟩,Nat.zero_le _,trivial⟩
 ·simp [Value.cells] at hcs'
  obtain ⟨rfl,rfl,rfl⟩:=hcs'
  simp only [Prod.mk.injEq] at hx
  obtain ⟨rfl,rfl⟩:=hx
  rw [hcl] at hel hlt
  obtain ⟨b,o,spot⟩:=a
  have each:∀ i y,elems[i]? = some y→∃ l:List Pz.Str,(∃ u,spot=none∧b<W.heap.size∧W.cell? ⟨b,o+i,none⟩=some u∧Pz.StrsAt W u l)∧Pz.sumT l+l.length+1≤Rows.uptoBulk y.1:=by
   intro i y hy
   have hil:i<n1:=by
    have:=(List.getElem?_eq_some_iff.1 hy).1
    omega
   have hb':=hel i hil
   rw [hy,Option.bind_eq_some_iff] at hb'
   obtain ⟨cs,hcells,htr⟩:=hb'
   obtain ⟨_,hcl1,hget⟩:=World.cells?_some hcells
   obtain ⟨k0,rfl⟩:∃ k0,cs=[k0]:=by
    match cs,hcl1 with
    | [k0],_=>exact ⟨_,rfl⟩
   have hmem:y∈elems:=List.mem_of_getElem? hy
   have hpl:∀ q∈y.2,q.block<W.heap.size:=fun q hq=>hlt q (List.mem_append_right _ (List.mem_flatMap.2 ⟨y,List.mem_append_left _ hmem,hq⟩))
   obtain ⟨l,hsl,hsb⟩:=strs_in hl hs hcs htr hpl
   have hspot:spot=none:=by
    have hb0:=hel 0 (by omega)
    rw [List.getElem?_eq_getElem (by omega),Option.bind_eq_some_iff] at hb0
    obtain ⟨cs0,hcells0,_⟩:=hb0
    obtain ⟨_,hcl0,hget0⟩:=World.cells?_some hcells0
    have hc9:=hget0 0 (by omega)
    rw [List.getElem?_eq_getElem (by omega)] at hc9
    simpa [Addr.add] using World.cell?_spot hc9
   subst hspot
   have hc:=hget 0 (by omega)
   rw [Pz.add_none,Pz.add_none] at hc
   simp only [Nat.mul_one,Nat.add_zero,List.getElem?_cons_zero] at hc
   have hblk:b<W.heap.size:=hlt (.cell b (o+0)) (List.mem_append_left _ (MemPlace.mem_row.2 ⟨0,by
    have:=(List.getElem?_eq_some_iff.1 hy).1
    omega,by simp⟩))
   exact ⟨l,⟨k0,rfl,hblk,hc,hsl⟩,hsb⟩
  obtain ⟨al,h1,h2,h3⟩:=rows_list (fun i l=>∃ u,spot=none∧b<W.heap.size∧W.cell? ⟨b,o+i,none⟩=some u∧Pz.StrsAt W u l) elems 0 (fun i y hy=>by rw [Nat.zero_add];exact each i y hy)
  refine ⟨al,⟨some ⟨b,o,spot⟩,c1,by rw [h1,hlen],fun i hi=>?_⟩,?_,trivial⟩
  ·obtain ⟨u,rfl,q1,q2,q3⟩:=h2 i hi
   rw [Nat.zero_add] at q2
   exact ⟨b,o,u,rfl,q1,q2,q3⟩
  ·simp only [Rows.uptoBulk]
   omega
end
end Go.Proofs.YtbilphfbfnohmaaGreatDoor.Opn
